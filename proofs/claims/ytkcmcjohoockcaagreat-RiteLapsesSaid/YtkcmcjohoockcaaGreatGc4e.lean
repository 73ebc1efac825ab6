/- Texts joined: the evaluator over ghost values, its soundness, the walks. Spaces struck and names made short by a program, for the size. -/
import Derived.Test.YtkcmcjohoockcaaGreatGc4d
namespace Go.Gh
set_option linter.unusedVariables false
set_option linter.unusedSimpArgs false
set_option linter.unnecessarySimpa false
set_option maxRecDepth 100000
set_option maxHeartbeats 8000000
section
def JT (w0 w:World)(S:Nat→Prop)(μ:Mu)(P:Program)(o:Oper)(u:Value)(b:Nat):Prop:=
 u= .pointer (some ⟨b,0,none⟩)∧w0.heap.size≤b∧b<w.heap.size∧ ¬S b∧(∀nm t,μ nm t≠some b)∧
 ∃ty v cs,o.op= .alloc ty∧cT P ty=some (ofConst v)∧bQ (ofConst v)=some cs∧w.heap[b]? =some (.cells v.cells ty (0,0))
section
variable {w w':World} {S S':Nat→Prop} {μ μ':Mu} {ℓ:Nat}
theorem JT.ev {w0:World}{P:Program}{o:Oper}{u:Value}{b:Nat}(h:JT w0 w S μ P o u b)(e:Ev ℓ w S μ w' S' μ'):JT w0 w' S' μ' P o u b:=by
 obtain⟨h1,h2,h3,h4,h5,ty,v,cs,h6,h7,h8,h9⟩:=h;refine⟨h1,h2,Nat.lt_of_lt_of_le h3 e.size,fun hs=> ?_,fun nm t hm=> ?_,ty,v,cs,h6,h7,h8,by rw [e.same b h3 (.inr h5)];exact h9⟩
 ·rcases e.xB b hs h3 with h|⟨nm,t,h⟩
  ·exact h4 h
  ·exact h5 _ _ h
 ·obtain⟨nm',t',h'⟩:=e.own nm t b hm h3;exact h5 _ _ h'
end
section
variable (K:Ctx) (rec:Rec) (fn:FuncId) (ops:Array Oper) (st0:bP) (base:Nat) (r:Option Nat) (w0:World) (S0:Nat→Prop) (μ0:Mu)
abbrev TT (j:Nat):TS:=dT K rec fn ops.toList st0 j
abbrev KK (j:Nat):Nat:=dk K rec fn ops.toList st0 j
abbrev VV (j:Nat):GV:=dv K rec fn ops.toList st0 j
structure lN (listed:Array Bool)(a:Act)(w:World)(S:Nat→Prop)(μ:Mu)(e:Nat)(pd:Nat→Nat):Prop where
 sz:listed.size=ops.size
 ZG:Dn ops listed
 le:e≤ops.size
 ww: ∀j,j<ops.size→KK K rec fn ops st0 j=3→(listed.getD j false=true↔j<e)
 al: ∀j,j<e→KK K rec fn ops st0 j=2→listed.getD j false=true
 v1: ∀(j:Nat) (o:Oper) (d:Nat),ops.toList[j]? =some o→o.dst=some d→listed.getD j false=true→(KK K rec fn ops st0 j=2→j<e)→aK w S μ (st0.h.length-1) (a.tmps.getD d undef) (VV K rec fn ops st0 j)
 v0: ∀t,(∀(j:Nat) (o:Oper),ops.toList[j]? =some o→listed.getD j false=true→o.dst≠some t)→aK w S μ (st0.h.length-1) (a.tmps.getD t undef) (look st0.s t)
 pa: ∀(j:Nat) (o:Oper) (d:Nat),ops.toList[j]? =some o→o.dst=some d→listed.getD j false=true→KK K rec fn ops st0 j=2→e≤j→JT w0 w S μ K.P o (a.tmps.getD d undef) (pd j)
 Hw: ∀i j,i<ops.size→j<ops.size→listed.getD i false=true→listed.getD j false=true→KK K rec fn ops st0 i=2→KK K rec fn ops st0 j=2→e≤i→e≤j→pd i=pd j→i=j
 nt:a.tmps.size=st0.nt
 low:base≤w.heap.size
 defs:tV base w S μ a.defers
 round: ∀l,r=some l→ ∃q:Loop,w.heap[l]? =some (.loop q)
 ev:Ev (st0.h.length-1) w0 S0 μ0 w S μ
end
section
variable {K:Ctx} {rec:Rec} {fn:FuncId} {ops:Array Oper} {st0:bP} {base:Nat} {r:Option Nat} {w0:World} {S0:Nat→Prop} {μ0:Mu}
variable {listed:Array Bool} {a:Act} {w w':World} {S S':Nat→Prop} {μ μ':Mu} {e:Nat} {pd:Nat→Nat}
theorem lN.step (h : lN K rec fn ops st0 base r w0 S0 μ0 listed a w S μ e pd) (hlt : ∀ b, S b → b < w.heap.size) (he : Ev (st0.h.length - 1) w S μ w' S' μ') :
    lN K rec fn ops st0 base r w0 S0 μ0 listed a w' S' μ' e pd :=
  { h with
    v1 := fun j o d h1 h2 h3 h4 => he.val hlt (Nat.le_refl _) (h.v1 j o d h1 h2 h3 h4)
    v0 := fun t ht => he.val hlt (Nat.le_refl _) (h.v0 t ht)
    pa := fun j o d h1 h2 h3 h4 h5 => (h.pa j o d h1 h2 h3 h4 h5).ev he
    low := Nat.le_trans h.low he.size
    defs := h.defs.ev he
    round := oN h.round he
    ev := h.ev.trans he }
theorem lN.aex (h : lN K rec fn ops st0 base r w0 S0 μ0 listed a w S μ e pd) {i : Nat} (hi : listed.getD i false = false) (b : Nat) :
    lN K rec fn ops st0 base r w0 S0 μ0 listed a w S μ e (fun j => if j = i then b else pd j) :=
  { h with
    pa := fun j o d h1 h2 h3 h4 h5 => by
      have : j ≠ i := fun e => by rw [e, hi] at h3; cases h3
      simp only [if_neg this]
      exact h.pa j o d h1 h2 h3 h4 h5
    Hw := fun j k hj hk h1 h2 h3 h4 h5 h6 h7 => by
      have n1 : j ≠ i := fun e => by rw [e, hi] at h1; cases h1
      have n2 : k ≠ i := fun e => by rw [e, hi] at h2; cases h2
      simp only [if_neg n1, if_neg n2] at h7
      exact h.Hw j k hj hk h1 h2 h3 h4 h5 h6 h7 }
theorem toList_get {j:Nat}{o:Oper}:ops.toList[j]? =some o↔ops[j]? =some o:=by rw [Array.getElem?_toList]
theorem mR {i:Nat}(h:i∈Region.ready .any ops listed)(hsz:listed.size=ops.size):listed.getD i false=false∧i<ops.size∧ ∃o,ops.toList[i]? =some o∧ops[i]? =some o∧ ∀e∈o.after,Region.binds .any e=true→listed.getD e.on false=true:=by
 obtain⟨h1,o,h2,h3⟩:=mem_ready.1 h;have hi:i<ops.size:=(Array.getElem?_eq_some_iff.1 h2).1;refine⟨?_,hi,o,toList_get.2 h2,h2,h3⟩;rw [Array.getD_eq_getD_getElem?]at h1⊢;rw [Array.getElem?_eq_getElem (by omega)]at h1⊢;exact h1
theorem lN.put (D:wo K fn ops.toList (Region.before ops)) (h:lN K rec fn ops st0 base r w0 S0 μ0 listed a w S μ e pd) {i e':Nat} {o:Oper} (hi:i∈Region.ready .any ops listed) (ho:ops.toList[i]? =some o)
  (hd: ∀d,o.dst=some d→d<st0.nt) (u:Value) (hu:KK K rec fn ops st0 i≠2→aK w S μ (st0.h.length-1) u (VV K rec fn ops st0 i))
  (ha:KK K rec fn ops st0 i=2→JT w0 w S μ K.P o u (pd i)∧ ∀j,j<ops.size→listed.getD j false=true→KK K rec fn ops st0 j=2→e≤j→pd j≠pd i)
  (he:(KK K rec fn ops st0 i≠3∧e'=e)∨(KK K rec fn ops st0 i=3∧e=i∧e'=i+1)):
  lN K rec fn ops st0 base r w0 S0 μ0 (listed.setIfInBounds i true) (a.put o.dst u) w S μ e' pd:=by
 obtain⟨hl,hin,o',ho',_,haft⟩:=mR hi h.sz;rw [ho]at ho';cases ho';have hset: ∀j,(listed.setIfInBounds i true).getD j false=true↔j=i∨listed.getD j false=true:=fun j=>wg (by rw [h.sz];exact hin);have hpast: ∀j d (oj:Oper),ops.toList[j]? =some oj→oj.dst=some d→j≠i→(a.put o.dst u).tmps.getD d undef=a.tmps.getD d undef:=fun j d oj hj hdj hne=>by
  cases hod:o.dst with
  |none=>rfl
  |some d'=>
   have:d≠d':=fun e=>hne (LO D.nodup hj ho hdj (by rw [hod,e]));rw [j5 a d' u d (by rw [h.nt];exact hd d' hod),if_neg this]
 have hee:e≤e':=by rcases he with ⟨_,h'⟩|⟨_,h1,h2⟩<;>omega
 have hlow:KK K rec fn ops st0 i=2→e≤i:=fun h2=>by
  rcases Nat.lt_or_ge i e with h'|h'
  ·have:=h.al i h' h2;rw [hl]at this;cases this
  ·exact h'
 refine⟨by rw [Array.size_setIfInBounds];exact h.sz,fun j oj hj hlj ed hed hb=> ?_, ?_,fun j hj h3=> ?_,fun j hj h2=> ?_,fun j oj d hj hdj hlj h2=> ?_,fun t ht=> ?_,fun j oj d hj hdj hlj h2 hle=> ?_,
  fun j k hj hk hlj hlk h2 h2' hle hle' heq=> ?_, ?_,h.low, ?_,h.round,h.ev⟩
 ·refine(hset _).2 (.inr ?_);rcases(hset j).1 hlj with rfl|hlj
  ·have:=toList_get.2 hj;rw [ho]at this;cases this;exact haft ed hed hb
  ·exact h.ZG j oj hj hlj ed hed hb
 ·have:=h.le;rcases he with ⟨_,h'⟩|⟨_,h1,h2⟩<;>omega
 ·rw [hset j];rcases he with ⟨h4,h5⟩|⟨h4,h5,h6⟩
  ·have:j≠i:=fun e=>h4 (e▸h3);rw [h5,←h.ww j hj h3];simp [this]
  ·rw [h.ww j hj h3];omega
 ·refine(hset j).2 ?_;by_cases e1:j=i
  ·exact .inl e1
  ·refine .inr (h.al j ?_ h2);rcases he with ⟨_,h'⟩|⟨_,h1,h2⟩<;>omega
 ·by_cases e1:j=i
  ·subst e1;rw [ho]at hj;cases hj;rw [hdj,j5 a d u d (by rw [h.nt];exact hd d hdj),if_pos rfl];refine hu fun h2'=> ?_;have:=h2 h2';have:=hlow h2';rcases he with ⟨h4,h5⟩|⟨h4,h5,h6⟩
   ·omega
   ·rw [h2']at h4;cases h4
  ·rw [hpast j d oj hj hdj e1];refine h.v1 j oj d hj hdj (((hset j).1 hlj).resolve_left e1) fun h2'=> ?_;have:=h2 h2';rcases he with ⟨_,h'⟩|⟨_,h1,h2⟩<;>omega
 ·have hne:o.dst≠some t:=ht i o ho ((hset i).2 (.inl rfl));have:(a.put o.dst u).tmps.getD t undef=a.tmps.getD t undef:=by
   cases hod:o.dst with
   |none=>rfl
   |some d'=>
    have:t≠d':=fun e=>hne (by rw [hod,e]);rw [j5 a d' u t (by rw [h.nt];exact hd d' hod),if_neg this]
  rw [this];exact h.v0 t fun j oj hj hlj=>ht j oj hj ((hset j).2 (.inr hlj))
 ·by_cases e1:j=i
  ·subst e1;rw [ho]at hj;cases hj;rw [hdj,j5 a d u d (by rw [h.nt];exact hd d hdj),if_pos rfl];exact(ha h2).1
  ·rw [hpast j d oj hj hdj e1];exact h.pa j oj d hj hdj (((hset j).1 hlj).resolve_left e1) h2 (by omega)
 ·by_cases e1:j=i
  ·subst e1;by_cases e2:k=j
   ·exact e2.symm
   ·exact absurd heq.symm ((ha h2).2 k hk (((hset k).1 hlk).resolve_left e2) h2' (by omega))
  ·by_cases e2:k=i
   ·subst e2;exact absurd heq ((ha h2').2 j hj (((hset j).1 hlj).resolve_left e1) h2 (by omega))
   ·exact h.Hw j k hj hk (((hset j).1 hlj).resolve_left e1) (((hset k).1 hlk).resolve_left e2) h2 h2' (by omega) (by omega) heq
 ·cases hod:o.dst with
  |none=>exact h.nt
  |some d=>simpa [Act.put]using h.nt
 ·have:(a.put o.dst u).defers=a.defers:=by cases o.dst<;>rfl
  rw [this];exact h.defs
theorem gP {nt j:Nat}{o:Oper}(ho:ops.toList[j]? =some o)(h:lz K rec fn ops.toList (Region.before ops) st0 nt j o):
  (KK K rec fn ops st0 j=0∧dR ops.toList (TT K rec fn ops st0 j).s o=some false∧VV K rec fn ops st0 j=ly∧(TT K rec fn ops st0 (j+1)).f=(TT K rec fn ops st0 j).f∧(TT K rec fn ops st0 (j+1)).b=(TT K rec fn ops st0 j).b)∨
  (KK K rec fn ops st0 j=1∧dR ops.toList (TT K rec fn ops st0 j).s o=some true∧cb K fn o=true∧(∃Hx,eP K fn o (TT K rec fn ops st0 j).s (TT K rec fn ops st0 j).b=some (VV K rec fn ops st0 j,Hx))∧
   (TT K rec fn ops st0 (j+1)).f=(TT K rec fn ops st0 j).f∧(TT K rec fn ops st0 (j+1)).b=(TT K rec fn ops st0 j).b)∨
  (KK K rec fn ops st0 j=2∧dR ops.toList (TT K rec fn ops st0 j).s o=some true∧cb K fn o=false∧cJ o=true∧cM K rec fn o (TT K rec fn ops st0 j).s (TT K rec fn ops st0 j).f=some (VV K rec fn ops st0 j,(TT K rec fn ops st0 (j+1)).f)∧
   (TT K rec fn ops st0 (j+1)).b=(TT K rec fn ops st0 j).b)∨
  (KK K rec fn ops st0 j=3∧dR ops.toList (TT K rec fn ops st0 j).s o=some true∧cb K fn o=false∧cJ o=false∧cM K rec fn o (TT K rec fn ops st0 j).s (TT K rec fn ops st0 j).f=some (VV K rec fn ops st0 j,(TT K rec fn ops st0 (j+1)).f)∧
   (TT K rec fn ops st0 (j+1)).b=(TT K rec fn ops st0 (j+1)).f):=by
 have hk:=h.kind;obtain⟨e1,-,-⟩:=zK K rec fn ops.toList st0 ho hk;have eb:(TT K rec fn ops st0 (j+1)).b=if KK K rec fn ops st0 j=3 then (TT K rec fn ops st0 (j+1)).f else (TT K rec fn ops st0 j).b:=by
  show (dT K rec fn ops.toList st0 (j+1)).b=_
  rw [e1]
 unfold nW at hk;split at hk
 ·rename_i hw;simp only [Option.some.injEq,Prod.mk.injEq]at hk;obtain⟨k1,k2,k3⟩:=hk;refine .inl ⟨k1.symm,hw,k2.symm,k3.symm, ?_⟩;rw [eb,if_neg (by rw [show KK K rec fn ops st0 j=0 from k1.symm];omega)]
 ·rename_i hw;split at hk
  ·rename_i hp;split at hk
   ·rename_i v Hx hop;simp only [Option.some.injEq,Prod.mk.injEq]at hk;obtain⟨k1,k2,k3⟩:=hk;refine .inr (.inl ⟨k1.symm,hw,hp,⟨Hx,by rw [hop,k2]⟩,k3.symm, ?_⟩);rw [eb,if_neg (by rw [show KK K rec fn ops st0 j=1 from k1.symm];omega)]
   ·cases hk
  ·rename_i hp;split at hk
   ·rename_i v H hs;simp only [Option.some.injEq,Prod.mk.injEq]at hk;obtain⟨k1,k2,k3⟩:=hk;have hp':cb K fn o=false:=(by simpa using hp);by_cases ha:cJ o=true
    ·rw [if_pos ha]at k1;refine .inr (.inr (.inl ⟨k1.symm,hw,hp',ha,by rw [hs,k2,k3], ?_⟩));rw [eb,if_neg (by rw [show KK K rec fn ops st0 j=2 from k1.symm];omega)]
    ·rw [if_neg ha]at k1;refine .inr (.inr (.inr ⟨k1.symm,hw,hp',by simpa using ha,by rw [hs,k2,k3], ?_⟩));rw [eb,if_pos k1.symm]
   ·cases hk
 ·cases hk
theorem mT (ok : ∀ (j : Nat) (o : Oper), ops.toList[j]? = some o → lz K rec fn ops.toList (Region.before ops) st0 st0.nt j o) {e : Nat} : ∀ i, e ≤ i → i ≤ ops.size → (∀ x, e ≤ x → x < i → KK K rec fn ops st0 x ≠ 3) →
    (TT K rec fn ops st0 i).b = (TT K rec fn ops st0 e).b := by
  intro i
  induction i with
  | zero => intro h1 _ _; have : e = 0 := by omega
            rw [this]
  | succ i ih =>
    intro h1 h2 h3
    by_cases e1 : e = i + 1
    · rw [e1]
    · have ho : ops.toList[i]? = some ops[i] := by simp [show i < ops.size by omega]
      have h4 := h3 i (by omega) (by omega)
      rw [← ih (by omega) (by omega) fun x hx hx' => h3 x hx (by omega)]
      rcases gP ho (ok i _ ho) with h | h | h | h
      · exact h.2.2.2.2
      · exact h.2.2.2.2.2
      · exact h.2.2.2.2.2
      · exact absurd h.1 h4
theorem JU (p:Nat→Prop)(e:Nat): ∀i,e≤i→(∀x,e≤x→x<i→ ¬p x)∨ ∃x,e≤x∧x<i∧p x∧ ∀y,e≤y→y<x→ ¬p y:=by
 intro i
 induction i with
 |zero=>intro h;exact .inl fun x _ h=>by omega
 |succ i ih=>
  intro h;rcases Nat.lt_or_ge i e with h'|h'
  ·exact .inl fun x h1 h2=>by omega
  rcases ih h' with h1|⟨x,h1,h2,h3,h4⟩
  ·by_cases hp:p i
   ·exact .inr ⟨i,h',by omega,hp,h1⟩
   ·refine .inl fun x hx hx'=> ?_;by_cases e1:x=i
    ·rw [e1];exact hp
    ·exact h1 x hx (by omega)
  ·exact .inr ⟨x,h1,by omega,h3,h4⟩
theorem OX (p:Nat→Prop)(i:Nat): ∀e,(∀x,i≤x→x<e→ ¬p x)∨ ∃x,i≤x∧x<e∧p x∧ ∀y,x<y→y<e→ ¬p y:=by
 intro e
 induction e with
 |zero=>exact .inl fun x _ h=>by omega
 |succ e ih=>
  by_cases hp:i≤e∧p e
  ·exact .inr ⟨e,hp.1,by omega,hp.2,fun y h1 h2=>by omega⟩
  ·rcases ih with h|⟨x,h1,h2,h3,h4⟩
   ·refine .inl fun x h1 h2 hx=> ?_;by_cases e1:x=e
    ·subst e1;exact hp ⟨h1,hx⟩
    ·exact h x h1 (by omega) hx
   ·refine .inr ⟨x,h1,by omega,h3,fun y hy hy' hpy=> ?_⟩;by_cases e1:y=e
    ·subst e1;exact hp ⟨by omega,hpy⟩
    ·exact h4 y hy (by omega) hpy
theorem xd {o:Oper}{s:bd}{v:GV}{H:aj}(h:sameAt K fn o s v H=true): ∃Hx,eP K fn o s H=some (v,Hx):=by
 unfold sameAt at h;split at h
 ·rename_i v' Hx hg;exact⟨Hx,by rw [hg,GV.beq_eq _ _ h]⟩
 ·cases h
theorem OY (ok: ∀(j:Nat) (o:Oper),ops.toList[j]? =some o→lz K rec fn ops.toList (Region.before ops) st0 st0.nt j o)
  (h:lN K rec fn ops st0 base r w0 S0 μ0 listed a w S μ e pd) {i:Nat} {o:Oper} (hi:i∈Region.ready .any ops listed) (ho:ops.toList[i]? =some o) (hk:KK K rec fn ops st0 i=1):
  cb K fn o=true∧eP K fn o (TT K rec fn ops st0 i).s (TT K rec fn ops st0 e).b=some (VV K rec fn ops st0 i,(TT K rec fn ops st0 e).b):=by
 obtain⟨hl,hin,o',ho',ho2,haft⟩:=mR hi h.sz;rw [ho]at ho';cases ho';have hbefore: ∀b,((Region.before ops).getD i 0).testBit b=true→listed.getD b false=true:=fun b hb=>jY h.ZG i b hb fun o' ho' ed hed hbe=>by
  rw [ho2]at ho';cases ho';exact haft ed hed hbe
 have hs:=ok i o ho;obtain⟨hp,Hx,hg⟩:cb K fn o=true∧ ∃Hx,eP K fn o (TT K rec fn ops st0 i).s (TT K rec fn ops st0 i).b=some (VV K rec fn ops st0 i,Hx):=by
  rcases gP ho hs with h|h|h|h
  ·have:=h.1;omega
  ·exact⟨h.2.2.1,h.2.2.2.1⟩
  ·have:=h.1;omega
  ·have:=h.1;omega
 refine⟨hp, ?_⟩
 suffices hx: ∃Hx,eP K fn o (TT K rec fn ops st0 i).s (TT K rec fn ops st0 e).b=some (VV K rec fn ops st0 i,Hx)by
  obtain⟨Hy,hy⟩:=hx;rw [Bq K hp hy]at hy;exact hy
 cases hR:Gp o with
 |false=>exact⟨_,Dl K hp hR hg⟩
 |true=>
  rcases Nat.lt_or_ge i e with hie|hie
  ·rcases OX (fun x=>KK K rec fn ops st0 x=3) (i+1) e with h1|⟨x,h1,h2,h3,h4⟩
   ·have e1:=mT ok (e:=i+1) e (by omega) h.le h1;have e2:(TT K rec fn ops st0 (i+1)).b=(TT K rec fn ops st0 i).b:=mT ok (i+1) (by omega) (by omega) fun x hx hx' h3=>by
     have:x=i:=(by omega);rw [this]at h3;omega
    rw [e1,e2];exact⟨_,hg⟩
   ·have hle:=h.le;have hox:ops.toList[x]? =some ops[x]:=by simp [show x<ops.size by omega]
    have e1:=mT ok (e:=x+1) e (by omega) h.le fun y hy hy'=>h4 y (by omega) hy';have e2:(TT K rec fn ops st0 (x+1)).b=(TT K rec fn ops st0 (x+1)).f:=by
     rcases gP hox (ok x _ hox)with h|h|h|h
     ·have:=h.1;omega
     ·have:=h.1;omega
     ·have:=h.1;omega
     ·exact h.2.2.2.2.2
    rw [e1,e2];rcases(ok x _ hox).wr h3 i (by omega) hk o ho hR with h5|h5
    ·exfalso;have hlx:=(h.ww x (by omega) h3).2 h2;have:=qb h.ZG hlx h5;rw [hl]at this;cases this
    ·exact xd h5
  ·rcases JU (fun x=>KK K rec fn ops st0 x=3) e i hie with h1|⟨x,h1,h2,h3,h4⟩
   ·rw [←mT ok i hie (by omega) h1];exact⟨_,hg⟩
   ·rw [←mT ok x h1 (by omega) h4];rcases hs.rw hk hR x h2 h3 with h5|h5
    ·exfalso;have:=(h.ww x (by omega) h3).1 (hbefore x h5);omega
    ·exact xd h5
theorem Ap (D:wo K fn ops.toList (Region.before ops)) (ok: ∀(j:Nat) (o:Oper),ops.toList[j]? =some o→lz K rec fn ops.toList (Region.before ops) st0 st0.nt j o)
  (h:lN K rec fn ops st0 base r w0 S0 μ0 listed a w S μ e pd) {i:Nat} {o:Oper} (hi:i∈Region.ready .any ops listed) (ho:ops.toList[i]? =some o) {t:Nat}
  (ht:t∈jI K fn o∨t∈mJ ops.toList o) (hal: ∀(j:Nat) (oj:Oper),ops.toList[j]? =some oj→oj.dst=some t→KK K rec fn ops st0 j=2→j<i→j<e):
  aK w S μ (st0.h.length-1) (a.tmps.getD t undef) (look (TT K rec fn ops st0 i).s t):=by
 obtain⟨hl,hin,o',ho',ho2,haft⟩:=mR hi h.sz;rw [ho]at ho';cases ho';have hbefore: ∀b,((Region.before ops).getD i 0).testBit b=true→listed.getD b false=true:=fun b hb=>jY h.ZG i b hb fun o' ho' ed hed hbe=>by
  rw [ho2]at ho';cases ho';exact haft ed hed hbe
 rcases EI K rec fn ops.toList (Region.before ops) st0 st0.nt ok D.nodup i t (by simp;omega)with ⟨j,oj,h1,h2,h3,h4⟩|⟨h1,h2⟩
 ·show aK w S μ _ _ (look (dT K rec fn ops.toList st0 i).s t)
  rw [h4];rcases D.dep j i oj o t h2 ho h3 ht with h5|⟨h5,h6⟩|⟨h5,h6⟩
  ·omega
  ·exact h.v1 j oj t h2 h3 (hbefore j h6) fun hk=>hal j oj h2 h3 hk h1
  ·omega
 ·show aK w S μ _ _ (look (dT K rec fn ops.toList st0 i).s t)
  rw [h2];refine h.v0 t fun j oj hj hlj hdj=> ?_;rcases Nat.lt_or_ge j i with h3|h3
  ·exact h1 j oj h3 hj hdj
  ·rcases D.dep j i oj o t hj ho hdj ht with h5|⟨h5,h6⟩|⟨h5,h6⟩
   ·subst h5;rw [hl]at hlj;cases hlj
   ·omega
   ·have:=qb h.ZG hlj h6;rw [hl]at this;cases this
theorem Hz (ok: ∀(j:Nat) (o:Oper),ops.toList[j]? =some o→lz K rec fn ops.toList (Region.before ops) st0 st0.nt j o)
  (h:lN K rec fn ops st0 base r w0 S0 μ0 listed a w S μ e pd) (hH:bf w S μ (TT K rec fn ops st0 e).f) (hlen:(TT K rec fn ops st0 e).f.length=st0.h.length) (hpos:0<st0.h.length) (he:e<ops.size)
  (h3:KK K rec fn ops st0 e≠3) (h2:KK K rec fn ops st0 e=2→listed.getD e false=true):
  ∃μ',lN K rec fn ops st0 base r w0 S0 μ0 listed a w S μ' (e+1) pd∧bf w S μ' (TT K rec fn ops st0 (e+1)).f∧(TT K rec fn ops st0 (e+1)).f.length=st0.h.length:=by
 have ho:ops.toList[e]? =some ops[e]:=by simp [he]
 have go: ∀μ',(KK K rec fn ops st0 e=2→ ∀d,ops[e].dst=some d→aK w S μ' (st0.h.length-1) (a.tmps.getD d undef) (VV K rec fn ops st0 e))→
   (∀n t b,μ n t=some b→μ' n t=some b)→(∀j,e<j→j<ops.size→listed.getD j false=true→KK K rec fn ops st0 j=2→ ∀nm t,μ' nm t≠some (pd j))→
   tV base w S μ' a.defers→Ev (st0.h.length-1) w0 S0 μ0 w S μ'→lN K rec fn ops st0 base r w0 S0 μ0 listed a w S μ' (e+1) pd:=by
  intro μ' hv hm hpd hdef hev;have hmono: ∀{v:Value} {g:GV},aK w S μ (st0.h.length-1) v g→aK w S μ' (st0.h.length-1) v g:=fun hv=>hv.mono (fun _ h=>h) (fun _ _=>rfl) (fun _ _ h=>h) (fun n t b _ h=>hm n t b h) (Nat.le_refl _)
  refine {h with
   le:=he
   ww:=fun j hj hj3=>by
    rw [h.ww j hj hj3];have:j≠e:=fun e1=>h3 (e1▸hj3);omega
   al:=fun j hj hj2=>by
    by_cases e1:j=e
    ·rw [e1];exact h2 (e1▸hj2)
    ·exact h.al j (by omega) hj2
   v1:=fun j o d hj hd hl hk=>by
    by_cases e1:j=e∧KK K rec fn ops st0 j=2
    ·obtain⟨e1,e2⟩:=e1;subst e1;rw [ho]at hj;cases hj;exact hv e2 d hd
    ·refine hmono (h.v1 j o d hj hd hl fun hk'=> ?_);have:=hk hk';have:j≠e:=fun e2=>e1 ⟨e2,hk'⟩;omega
   v0:=fun t ht=>hmono (h.v0 t ht)
   pa:=fun j o d hj hd hl hk hle=>by
    obtain⟨p1,p2,p3,p4,p5,p6⟩:=h.pa j o d hj hd hl hk (by omega);have hjs:j<ops.size:=(by have:=(List.getElem?_eq_some_iff.1 hj).1;simpa using this);exact⟨p1,p2,p3,p4,hpd j (by omega) hjs hl hk,p6⟩
   Hw:=fun i j hi hj hli hlj hki hkj hei hej=>h.Hw i j hi hj hli hlj hki hkj (by omega) (by omega)
   defs:=hdef
   ev:=hev}
 rcases gP ho (ok e _ ho)with q|q|q|q
 ·refine⟨μ,go μ (fun h=>by have:=q.1;omega) (fun _ _ _ h=>h) (fun j h1 h2 h3 h4=> ?_) h.defs h.ev,by rw [q.2.2.2.1];exact hH,by rw [q.2.2.2.1];exact hlen⟩;have hoj:ops.toList[j]? =some ops[j]:=(by simp [h2]);obtain⟨d,t,hd,_⟩: ∃d t,ops[j].dst=some d∧ops[j].op= .alloc t:=by
   rcases gP hoj (ok j _ hoj)with q|q|q|q
   ·have:=q.1;omega
   ·have:=q.1;omega
   ·obtain⟨d,t,h1,h2,_⟩:=jg q.2.2.2.1;exact⟨d,t,h1,h2⟩
   ·have:=q.1;omega
  exact(h.pa j _ d hoj hd h3 h4 (by omega)).2.2.2.2.1
 ·refine⟨μ,go μ (fun h=>by have:=q.1;omega) (fun _ _ _ h=>h) (fun j h1 h2 h3 h4=> ?_) h.defs h.ev,by rw [q.2.2.2.2.1];exact hH,by rw [q.2.2.2.2.1];exact hlen⟩;have hoj:ops.toList[j]? =some ops[j]:=(by simp [h2]);obtain⟨d,t,hd,_⟩: ∃d t,ops[j].dst=some d∧ops[j].op= .alloc t:=by
   rcases gP hoj (ok j _ hoj)with q|q|q|q
   ·have:=q.1;omega
   ·have:=q.1;omega
   ·obtain⟨d,t,h1,h2,_⟩:=jg q.2.2.2.1;exact⟨d,t,h1,h2⟩
   ·have:=q.1;omega
  exact(h.pa j _ d hoj hd h3 h4 (by omega)).2.2.2.2.1
 ·obtain⟨q1,q2,q3,q4,q5,q6⟩:=q;obtain⟨d,ty,hd,hop,_⟩:=jg q4;obtain⟨p1,p2,p3,p4,p5,ty',v,cs,p6,p7,p8,p9⟩:=h.pa e _ d ho hd (h2 q1) q1 (Nat.le_refl _);have hgo:gU ops[e]=none:=(by unfold gU;rw [hop]);unfold cM at q5;rw [hgo]at q5;simp only at q5;have hty:ty=ty':=(by rw [hop]at p6;cases p6;rfl);subst hty;unfold eP at q5;rw [hop]at q5;simp only [hd,p7,p8]at q5
  cases hnew:jx (TT K rec fn ops st0 e).f d (.box cs)with
  |none=>rw [hnew]at q5;cases q5
  |some x=>
   obtain⟨nm,H1⟩:=x;rw [hnew]at q5;simp only [Option.some.injEq,Prod.mk.injEq]at q5;obtain⟨q5,q7⟩:=q5;obtain⟨rfl,g2,g3,rfl⟩:=j7 hnew;have hno: ∀t c,μ ((TT K rec fn ops st0 e).f.length-1,d) t≠some c:=fun t c hc=>by
    obtain⟨y,hy⟩:=hH.lK _ _ _ hc;rw [g3]at hy;cases hy
   have hA:=hH.Bn g3 g2 (b:=pd e) p3 p5 (x:= .box cs) ⟨pd e,v.cells,ty,Mu.bJ _ _ _ _,p4,p9,(fQ (fI v) p8)⟩;refine⟨_,go _ (fun _ d' hd'=> ?_) (fun n t b hb=>EH hH g3 _ _ n t b hb) (fun j h1 h2' h3' h4' nm t hm=> ?_) ⟨fun dd hdd=> ?_,h.defs.apart⟩ (h.ev.Bn hno p2),by rw [←q7];exact hA,by rw [←q7,aj.length_set];exact hlen⟩
   ·rw [hd]at hd';cases hd';rw [p1,←q5];exact .aD _ _ _ (by simp only [hlen];omega) (Mu.bJ _ _ _ _)
   ·have hoj:ops.toList[j]? =some ops[j]:=(by simp [h2']);obtain⟨dj,_,hdj,_⟩: ∃d t,ops[j].dst=some d∧ops[j].op= .alloc t:=by
     rcases gP hoj (ok j _ hoj)with q|q|q|q
     ·have:=q.1;omega
     ·have:=q.1;omega
     ·obtain⟨d,t,h1,h2,_⟩:=jg q.2.2.2.1;exact⟨d,t,h1,h2⟩
     ·have:=q.1;omega
    have hP:=h.pa j _ dj hoj hdj h3' h4' (by omega);by_cases en:nm=((TT K rec fn ops st0 e).f.length-1,d)
    ·subst en;by_cases et:t=0
     ·subst et;rw [Mu.bJ]at hm;have:pd e=pd j:=(by simpa using hm);have:=h.Hw e j he h2' (h2 q1) h3' q1 h4' (Nat.le_refl _) (by omega) this;omega
     ·rw [Mu.cI _ _ _ et]at hm;exact hno _ _ hm
    ·rw [Mu.dr _ _ _ _ en]at hm;exact hP.2.2.2.2.1 _ _ hm
   ·obtain⟨q,k1,k2,k3,k4,k5⟩:=h.defs.each dd hdd;refine⟨q,k1,k2,k3,k4,fun nm t hm=> ?_⟩;by_cases en:nm=((TT K rec fn ops st0 e).f.length-1,d)
    ·subst en;by_cases et:t=0
     ·subst et;rw [Mu.bJ]at hm;have:pd e=q:=(by simpa using hm);rw [this,k3]at p9;cases p9
     ·rw [Mu.cI _ _ _ et]at hm;exact hno _ _ hm
    ·rw [Mu.dr _ _ _ _ en]at hm;exact k5 _ _ hm
 ·exact absurd q.1 h3
theorem yW (ok : ∀ (j : Nat) (o : Oper), ops.toList[j]? = some o → lz K rec fn ops.toList (Region.before ops) st0 st0.nt j o) (hpos : 0 < st0.h.length) : ∀ (n i e : Nat) (μ : Mu), i - e = n → e ≤ i → i ≤ ops.size →
    lN K rec fn ops st0 base r w0 S0 μ0 listed a w S μ e pd → bf w S μ (TT K rec fn ops st0 e).f → (TT K rec fn ops st0 e).f.length = st0.h.length →
    (∀ x, e ≤ x → x < i → KK K rec fn ops st0 x ≠ 3 ∧ (KK K rec fn ops st0 x = 2 → listed.getD x false = true)) →
    ∃ μ', lN K rec fn ops st0 base r w0 S0 μ0 listed a w S μ' i pd ∧ bf w S μ' (TT K rec fn ops st0 i).f ∧ (TT K rec fn ops st0 i).f.length = st0.h.length := by
  intro n
  induction n with
  | zero => intro i e μ h1 h2 h3 h hH hl _
            have : e = i := by omega
            subst this; exact ⟨μ, h, hH, hl⟩
  | succ n ih =>
    intro i e μ h1 h2 h3 h hH hl hx
    obtain ⟨g1, g2⟩ := hx e (Nat.le_refl _) (by omega)
    obtain ⟨μ1, k1, k2, k3⟩ := Hz ok h hH hl hpos (by omega) g1 g2
    exact ih i (e + 1) μ1 (by omega) (by omega) h3 k1 k2 k3 fun x hx1 hx2 => hx x (by omega) hx2
end
end
section
section
variable {K:Ctx} {rec:Rec} {fn:FuncId} {ops:Array Oper} {st0:bP} {base:Nat} {r:Option Nat} {w0:World} {S0:Nat→Prop} {μ0:Mu}
variable {listed:Array Bool} {a:Act} {w w':World} {S S':Nat→Prop} {μ μ':Mu} {e:Nat} {pd:Nat→Nat}
theorem HA {P:Program}{o:Oper}{ty:TypeId}{v:Value}(hop:o.op= .alloc ty)(hz:cT P ty=some (ofConst v))(w:World):
  ∃v',(execOp a.eval o).run P w= .ok (.value (.pointer (some ⟨w.heap.size,0,none⟩))) (w.alloc (.cells v'.cells ty))∧cT P ty=some (ofConst v'):=by
 obtain⟨v',h1,h2⟩:=oI (P:=P) w hz;refine⟨v', ?_,by rw [hz,h2]⟩;obtain⟨dst,op,type,pos,after,guard⟩:=o;simp only at hop;subst hop;simp [execOp,Instr.alloc,h1,newVar,newRow]
theorem Cf {s:bd}{H H':aj}{v:GV}{o:Oper}(ha:cJ o=true)(h:cM K rec fn o s H=some (v,H')):
  ∃d ty z cs,o.dst=some d∧o.op= .alloc ty∧o.guard=none∧cT K.P ty=some (ofConst z)∧bQ (ofConst z)=some cs:=by
 obtain⟨d,ty,h1,h2,h3⟩:=jg ha;have hgo:gU o=none:=(by unfold gU;rw [h2]);unfold cM at h;rw [hgo]at h;simp only at h;unfold eP at h;rw [h2]at h;simp only [h1]at h
 cases hz:cT K.P ty with
 |none=>rw [hz]at h;cases h
 |some z=>
  have hz': ∃zv,z=ofConst zv:=by
   unfold cT at hz;split at hz
   ·split at hz
    ·rename_i zv _;exact⟨zv,by simpa using hz.symm⟩
    ·cases hz
   ·cases hz
  obtain⟨zv,rfl⟩:=hz';rw [hz]at h;simp only at h
  cases hc:bQ (ofConst zv)with
  |none=>rw [hc]at h;cases h
  |some cs=>exact⟨d,ty,zv,cs,h1,h2,h3,hz,hc⟩
theorem vh {i:Nat} {o:Oper} {Kn:Act→World→Prop} {Q:Exit→Act→World→Prop} {P:Program} (ho:ops[i]? =some o) {b:Bool} (hw:Region.wanted o (yielded ops a.tmps)=b)
  (h:if b then o.wpIn (Fw r) 0 P a w Kn Q else Kn (a.put o.dst undef) w):wpOpIn (Fw r) 0 P ops Q i Kn a w:=by
 unfold wpOpIn;simp only [ho,hw]
 cases b with
 |true=>simpa using h
 |false=>simp only [Bool.false_eq_true,if_false]at h⊢;exact⟨fun _ _=>trivial,h⟩
theorem Cg (D:wo K fn ops.toList (Region.before ops)) (ok: ∀(j:Nat) (o:Oper),ops.toList[j]? =some o→lz K rec fn ops.toList (Region.before ops) st0 st0.nt j o) (hpos:0<st0.h.length)
  (h:lN K rec fn ops st0 base r w0 S0 μ0 listed a w S μ e pd) (hH:bf w S μ (TT K rec fn ops st0 e).f) (hlen:(TT K rec fn ops st0 e).f.length=st0.h.length) (hall: ∀j,j<ops.size→listed.getD j false=true)
  {st':bP} (h1:st'.s=(TT K rec fn ops st0 ops.size).s) (h2:st'.h=(TT K rec fn ops st0 ops.size).f) (h3:st'.nt=st0.nt):lL base r st0 w0 S0 μ0 .normal st' .normal a w:=by
 obtain⟨μ',k1,k2,k3⟩:=yW ok hpos _ ops.size e μ rfl h.le (Nat.le_refl _) h hH hlen fun x hx hx2=>by
  refine⟨fun h4=> ?_,fun _=>hall x hx2⟩;have:=(h.ww x hx2 h4).1 (hall x hx2);omega
 refine⟨rfl,by rw [h2,k3],h3,S,μ',⟨by rw [h2];exact k2,fun t=> ?_,by rw [h3];exact k1.nt,by rw [h2,k3];exact hpos,k1.low,k1.defs,k1.round⟩,k1.ev.level (by omega)⟩;rw [h2,k3,h1];rcases EI K rec fn ops.toList (Region.before ops) st0 st0.nt ok D.nodup ops.size t (by simp)with ⟨j,oj,q1,q2,q3,q4⟩|⟨q1,q2⟩
 ·show aK w S μ' _ _ (look (dT K rec fn ops.toList st0 ops.size).s t)
  rw [q4];exact k1.v1 j oj t q2 q3 (hall j q1) fun _=>q1
 ·show aK w S μ' _ _ (look (dT K rec fn ops.toList st0 ops.size).s t)
  rw [q2];refine k1.v0 t fun j oj hj hlj=>q1 j oj ?_ hj;have:=(List.getElem?_eq_some_iff.1 hj).1;simpa using this
theorem JV (hK:iJ K) (hrec:lW K.P rec) (D:wo K fn ops.toList (Region.before ops)) (ok: ∀(j:Nat) (o:Oper),ops.toList[j]? =some o→lz K rec fn ops.toList (Region.before ops) st0 st0.nt j o) (hpos:0<st0.h.length)
  {st':bP} (z1:st'.s=(TT K rec fn ops st0 ops.size).s) (z2:st'.h=(TT K rec fn ops st0 ops.size).f) (z3:st'.nt=st0.nt):
  ∀(fuel:Nat) (listed:Array Bool) (a:Act) (w:World) (S:Nat→Prop) (μ:Mu) (e:Nat) (pd:Nat→Nat),lA listed ops.size≤fuel→lN K rec fn ops st0 base r w0 S0 μ0 listed a w S μ e pd→
   bf w S μ (TT K rec fn ops st0 e).f→(TT K rec fn ops st0 e).f.length=st0.h.length→(TT K rec fn ops st0 e).f=(TT K rec fn ops st0 e).b→
   wpAnyIn (Fw r) 0 K.P .any ops (lL base r st0 w0 S0 μ0 .normal st') fuel listed a w:=by
 intro fuel
 induction fuel with
 |zero=>
  intro listed a w S μ e pd hu h hH hlen hfb;have hall:=xD (Nat.le_zero.1 hu);refine⟨?_,Cg D ok hpos h hH hlen hall z1 z2 z3⟩
  cases hr:Region.ready .any ops listed with
  |nil=>rfl
  |cons i l=>
   obtain⟨g1,g2,_⟩:=mR (i:=i) (by rw [hr];exact List.mem_cons_self ..) h.sz;rw [hall i g2]at g1;cases g1
 |succ fuel ih=>
  intro listed a w S μ e pd hu h hH hlen hfb;refine⟨fun hr=>Cg D ok hpos h hH hlen (Dp h.sz (fun j o hj=>D.back j o (toList_get.2 hj)) hr) z1 z2 z3,fun i hi=> ?_⟩;obtain⟨hl,hin,o,ho,ho2,haft⟩:=mR hi h.sz;have hbefore: ∀b,((Region.before ops).getD i 0).testBit b=true→listed.getD b false=true:=fun b hb=>jY h.ZG i b hb fun o' ho' ed hed hbe=>by
   rw [ho2]at ho';cases ho';exact haft ed hed hbe
  have hs:=ok i o ho;have hul:=Bt hin h.sz hl;have hguard: ∀b,dR ops.toList (TT K rec fn ops st0 i).s o=some b→Region.wanted o (yielded ops a.tmps)=b:=fun b hb=>by
   have h1: ∀t,t∈mJ ops.toList o→aK w S μ (st0.h.length-1) (a.tmps.getD t undef) (look (TT K rec fn ops st0 i).s t):=fun t ht=>by
    refine Ap D ok h hi ho (.inr ht) fun j oj hj hd hk hji=> ?_;exfalso;have hja:cJ oj=true:=by
     rcases gP hj (ok j _ hj)with q|q|q|q
     ·have:=q.1;omega
     ·have:=q.1;omega
     ·exact q.2.2.2.1
     ·have:=q.1;omega
    exact D.adX j i oj o t hj ho hd hja ht
   have h2:=wq (mJ ops.toList o) h1;have h3:dR ops.toList (bw (TT K rec fn ops st0 i).s (mJ ops.toList o)) o=some b:=by
    rw [←hb];exact xE fun t ht=>gf _ t _ ht
   have:=sS h2 h3;simpa using this
  rcases gP ho hs with q|q|q|q
  ·
   refine vh ho2 (hguard false q.2.1) ?_;simp only [Bool.false_eq_true,if_false];have h':=lN.put D h hi ho hs.dst undef (e':=e) (fun _=>by rw [q.2.2.1];exact ya) (fun h2=>by have:=q.1;omega) (.inl ⟨by rw [q.1];omega,rfl⟩);exact ih _ _ w S μ e pd (by omega) h' hH hlen hfb
  ·
   refine vh ho2 (hguard true q.2.1) ?_;simp only [if_true];obtain⟨hp,hg⟩:=OY ok h hi ho q.1;rw [←hfb]at hg;have hslots:=wq (a:=a) (w:=w) (S:=S) (μ:=μ) (k:=st0.h.length-1) (s:=(TT K rec fn ops st0 i).s) (jI K fn o) fun t ht=>Ap D ok h hi ho (.inl ht) fun j oj hj hd hk hji=>by
    exfalso;have hja:cJ oj=true:=by
     rcases gP hj (ok j _ hj)with q|q|q|q
     ·have:=q.1;omega
     ·have:=q.1;omega
     ·exact q.2.2.2.1
     ·have:=q.1;omega
    have:=(D.adY j i oj o t hj ho hd hja ht).1;rw [hp]at this;cases this
   have hgo:gU o=none:=by
    cases hgc:gU o with
    |none=>rfl
    |some x=>
     exfalso;obtain⟨dst,op,type,pos,after,guard⟩:=o;unfold gU at hgc;simp only at hgc;split at hgc
     ·unfold cb at hp;simp at hp
     ·cases hgc
   have hstep:cM K rec fn o (bw (TT K rec fn ops st0 i).s (jI K fn o)) (TT K rec fn ops st0 e).f=some (VV K rec fn ops st0 i,(TT K rec fn ops st0 e).f):=by
    rw [ud K (s':=(TT K rec fn ops st0 i).s) fun t ht=>gf _ t _ ht];unfold cM;rw [hgo];exact hg
   rw [←hlen]at hslots;refine uY K hK hrec hH (by rw [hlen];exact hpos) hslots hstep fun u w' S' μ' hv hh he hl'=> ?_;rw [hlen]at he hv;have h1:=h.step hH.slt he;have h':=lN.put D h1 hi ho hs.dst u (e':=e) (fun _=>hv) (fun h2=>by have:=q.1;omega) (.inl ⟨by rw [q.1];omega,rfl⟩);exact ih _ _ w' S' μ' e pd (by omega) h' hh hlen hfb
  ·
   obtain⟨q1,q2,q3,q4,q5,q6⟩:=q;refine vh ho2 (hguard true q2) ?_;simp only [if_true];obtain⟨d,ty,z,cs,hd,hop,hgu,hz,hc⟩:=Cf q4 q5;refine⟨fun _ _=>trivial, ?_⟩;rw [Oper.semAt_eq _ _ _ (fun c e=>by rw [hop]at e;cases e)];obtain⟨v',hrun,hz'⟩:=HA (a:=a) (P:=K.P) hop hz w;rw [hrun,Oper.uponIn_value];obtain⟨s1,s2⟩:=hH.skip (st0.h.length-1) (.cells v'.cells ty);have h1:=(h.step hH.slt s2).aex hl w.heap.size;have hc':bQ (ofConst v')=some cs:=by
    rw [hz]at hz';simp only [Option.some.injEq]at hz';rw [←hz'];exact hc
   have h':=lN.put D h1 hi ho hs.dst (.pointer (some ⟨w.heap.size,0,none⟩)) (e':=e) (fun h2=>absurd q1 h2) (fun _=>⟨⟨by simp,by simp only [if_true];exact h.ev.size,by simp only [if_true];rw [cg];omega,
     by simp only [if_true];exact fun hs=>by have:=hH.slt _ hs;omega,by simp only [if_true];exact fun nm t hm=>by have:=hH.lt _ _ _ hm;omega,ty,v',cs,hop,hz',hc',by simp only [if_true];exact cY _ _⟩,
     fun j hj hlj hk hle=>by
      have hne:j≠i:=fun e1=>(by rw [e1,hl]at hlj;cases hlj);simp only [if_true,if_neg hne];have hoj:ops.toList[j]? =some ops[j]:=(by simp [hj]);obtain⟨dj,hdj⟩: ∃d,ops[j].dst=some d:=by
       rcases gP hoj (ok j _ hoj)with q|q|q|q
       ·have:=q.1;omega
       ·have:=q.1;omega
       ·obtain⟨d,t,h1,h2,_⟩:=jg q.2.2.2.1;exact⟨d,h1⟩
       ·have:=q.1;omega
      have:=(h.pa j _ dj hoj hdj hlj hk hle).2.2.1;omega⟩) (.inl ⟨by rw [q1];omega,rfl⟩)
   exact ih _ _ _ S μ e _ (by omega) h' s1 hlen hfb
  ·
   obtain⟨q1,q2,q3,q4,q5,q6⟩:=q;refine vh ho2 (hguard true q2) ?_;simp only [if_true];have hei:e≤i:=by
    rcases Nat.lt_or_ge i e with h'|h'
    ·have:=(h.ww i hin q1).2 h';rw [hl]at this;cases this
    ·exact h'
   obtain⟨μ1,k1,k2,k3⟩:=yW ok hpos _ i e μ rfl hei (by omega) h hH hlen fun x hx hx2=>by
    have hox:ops.toList[x]? =some ops[x]:=by simp [show x<ops.size by omega]
    refine⟨fun h3=> ?_,fun h2=> ?_⟩
    ·have:=(h.ww x (by omega) h3).1 (hbefore x (hs.ww q1 x hx2 h3));omega
    ·have hxa:cJ ops[x]=true:=by
      rcases gP hox (ok x _ hox)with q|q|q|q
      ·have:=q.1;omega
      ·have:=q.1;omega
      ·exact q.2.2.2.1
      ·have:=q.1;omega
     exact hbefore x (D.adZ x i _ o hox ho hxa q3 q4 hx2)
   have hslots:=wq (a:=a) (w:=w) (S:=S) (μ:=μ1) (k:=st0.h.length-1) (s:=(TT K rec fn ops st0 i).s) (jI K fn o) fun t ht=>Ap D ok k1 hi ho (.inl ht) fun j oj hj hd hk hji=>hji;have hstep:cM K rec fn o (bw (TT K rec fn ops st0 i).s (jI K fn o)) (TT K rec fn ops st0 i).f=some (VV K rec fn ops st0 i,(TT K rec fn ops st0 (i+1)).f):=by
    rw [ud K (s':=(TT K rec fn ops st0 i).s) fun t ht=>gf _ t _ ht];exact q5
   rw [←k3]at hslots;refine uY K hK hrec k2 (by rw [k3];exact hpos) hslots hstep fun u w' S' μ' hv hh he hl'=> ?_;rw [k3]at he;rw [hl',k3]at hv;have h1:=k1.step k2.slt he;have h':=lN.put D h1 hi ho hs.dst u (e':=i+1) (fun _=>hv) (fun h2=>by rw [q1]at h2;cases h2) (.inr ⟨q1,rfl,rfl⟩);exact ih _ _ w' S' μ' (i+1) pd (by omega) h' hh (by rw [hl',k3]) q6.symm
theorem bf.draw {H:aj}(h:bf w S μ H)(n:Nat):bf {w with drawn:=n} S μ H:=
 ⟨fun nm x hx t b hb=>gS.mono (w:=w) (w':={heap:=w.heap,tape:=w.tape,drawn:=n,os:=w.os,output:=w.output}) (S:=S) (S':=S) (μ:=μ) (μ':=μ) (fun _ h=>h) (fun _ _=>rfl) (fun _ _ h=>h) (fun _ _ _ _ h=>h) (fun _=>rfl) (fun _ _ _=>rfl) (fun _ _ _ h=>h) (h.jh nm x hx t b hb),h.lK,h.iM,h.lt,h.slt⟩
theorem Ev.draw (ℓ n:Nat):Ev ℓ w S μ {w with drawn:=n} S μ:=
 ⟨rfl,rfl,rfl,Nat.le_refl _,fun _ h=>h,fun _ _ _=>rfl,fun _ _ h=>h,fun _ r h=>⟨r,h⟩,fun _ _ _ _ h=>h,fun nm t _ h _=>⟨nm,t,h⟩,fun _ h _=> .inl h⟩
end
theorem JW (K:Ctx)(hK:iJ K):Bo K:=by
 intro rec hrec fn id ops st e st' h base r w S μ a hst;simp only [cX]at h;split at h
 ·rename_i hd;split at h
  ·rename_i st1 aW;simp only [Option.some.injEq,Prod.mk.injEq]at h;obtain⟨rfl,rfl⟩:=h;have D:=Bv K hd;obtain⟨g1,g2,g3,g4⟩:=Br K rec fn ops.toList (Region.before ops) st ops.toList 0 [] [] st.h st rfl rfl rfl rfl rfl (fun x h=>by omega) (fun q h=>by omega) aW;have hlen:ops.toList.length=ops.size:=(by simp);rw [hlen]at g2 g3;refine wpIn_region_any hK.mixed ?_;have hE:Ev (st.h.length-1) w S μ {w with drawn:=w.drawn+1} S μ:=Ev.draw _ _;have hfalse: ∀j,(Array.replicate ops.size false).getD j false=false:=fun j=>by
    rw [Array.getD_eq_getD_getElem?];by_cases hj:j<ops.size
    ·simp [hj]
    ·simp [hj]
   refine JV (base:=base) (r:=r) (w0:=w) (S0:=S) (μ0:=μ) hK hrec D (fun j o ho=>g1 j o (by omega) ho) hst.pos g2 g3 g4 ops.size (Array.replicate ops.size false) a
    {w with drawn:=w.drawn+1} S μ 0 (fun _=>0) ?_ ?_ ?_ ?_ ?_
   ·unfold lA;refine Nat.le_trans (List.length_filter_le _ _) (by simp)
   ·refine⟨by simp,fun j o _ hl=> ?_,Nat.zero_le _,fun j _ _=> ?_,fun j h=>by omega,fun j o d _ _ hl=> ?_,fun t _=> ?_,fun j o d _ _ hl=> ?_,fun i j _ _ hl=> ?_,hst.nt,hst.low,hst.defs.ev hE,oN hst.round hE,hE⟩
    ·rw [hfalse]at hl;cases hl
    ·rw [hfalse];simp
    ·rw [hfalse]at hl;cases hl
    ·exact hE.val hst.heap.slt (Nat.le_refl _) (hst.fD t)
    ·rw [hfalse]at hl;cases hl
    ·rw [hfalse]at hl;cases hl
   ·exact hst.heap.draw _
   ·rfl
   ·rfl
  ·cases h
 ·cases h
theorem j4 (K:Ctx)(hK:iJ K)(n:Nat):lW K.P (dB K n):=IA K hK (JW K hK) n
end
section
section
variable (K:Ctx) {rec:Rec} {F:Nat→Rec}
def pU {α:Type}(F:Nat→Rec)(X:Rec→Option α)(r:α):Prop:= ∃N,∀n,N≤n→X (F n)=some r
theorem pU.const {α:Type}{x:Option α}{r:α}(h:x=some r):pU F (fun _=>x) r:=⟨0,fun _ _=>h⟩
def Lim (rec:Rec)(F:Nat→Rec):Prop:= ∀fn c st r,rec fn c st=some r→pU F (fun rec=>rec fn c st) r
variable (hF:Lim rec F)
include hF
theorem nQ {f:FuncId}{args:List GV}{c:Nat}{H:aj}{r:GV×aj}(h:bM K rec f args c H=some r):pU F (fun rec=>bM K rec f args c H) r:=by
 unfold bM at h;split at h
 ·cases h
 ·rename_i fn hfn;split at h
  ·cases h
  ·rename_i code hcode;split at h
   ·cases h
   ·rename_i hc
    cases hr:rec f code ⟨slotsOf 0 (args.map canon),[]::H,fn.ntmps⟩with
    |none=>rw [hr]at h;cases h
    |some x=>
     rw [hr]at h;obtain⟨N,hN⟩:=hF _ _ _ _ hr;refine⟨N,fun n hn=> ?_⟩;have:=hN n hn;simp only at this;simp only [bM,hfn,hcode,hc,if_false,this];exact h
theorem Ch {f:FuncId}{args:List GV}{c:Nat}{H:aj}{r:GV×aj}(h:iu K rec f args c H=some r):pU F (fun rec=>iu K rec f args c H) r:=by
 unfold iu at h;split at h
 ·cases h
 ·rename_i hn;split at h
  ·rename_i v H0 hg;obtain⟨N,hN⟩:=nQ K hF hg;refine⟨N,fun n hn'=> ?_⟩;have:=hN n hn';simp only at this;simp only [iu,hn,this];exact h
  ·cases h
 ·rename_i nm hn;split at h
  ·rename_i cs hbx;split at h
   ·cases h
   ·rename_i hcs;split at h
    ·rename_i v H0 hg;obtain⟨N,hN⟩:=nQ K hF hg;refine⟨N,fun n hn'=> ?_⟩;have:=hN n hn';simp only at this;simp only [iu,hn,hbx,hcs,if_false,this];exact h
    ·cases h
  ·cases h
theorem tg {f:FuncId}{args:List GV}{c:Nat}{H:aj}{r:GV×aj}(h:aI K rec f args c H=some r):pU F (fun rec=>aI K rec f args c H) r:=by
 unfold aI at h⊢;split at h
 ·rename_i hc;simp only [hc,if_true];exact .const h
 ·rename_i hc;simp only [hc,if_false];split at h
  ·rename_i hb;simp only [hb,if_true];exact Ch K hF h
  ·rename_i hb;simp only [hb,if_false];split at h
   ·rename_i hf;simp only [hf,if_true];exact nQ K hF h
   ·rename_i hf;simp only [hf,if_false];exact nQ K hF h
theorem Ej {nm:Nm}{args:List GV}{H:aj}{r:GV×aj}(h:ground rec nm args H=some r):pU F (fun rec=>ground rec nm args H) r:=by
 unfold ground at h;split at h
 ·rename_i l hl;split at h
  ·rename_i hs;split at h
   ·rename_i s hp;split at h
    ·rename_i st ha;obtain⟨N1,h1⟩:=hF _ _ _ _ ha;split at h
     ·rename_i fr H1 hst;split at h
      ·rename_i l1 hl1;split at h
       ·cases h
       ·rename_i hl1s
        cases hb:rec l.fn l.body ⟨st.s,fr::aj.set H1 nm (.loop {l1 with state:= .busy}),l.nt⟩with
        |none=>rw [hb]at h;cases h
        |some x=>
         rw [hb]at h;obtain⟨N2,h2⟩:=hF _ _ _ _ hb;refine⟨max N1 N2,fun n hn=> ?_⟩;have e1:=h1 n (by omega);have e2:=h2 n (by omega);simp only at e1 e2;simp only [ground,hl,hs,hp,e1,hst,hl1,hl1s,if_true,if_false,e2];exact h
      ·cases h
     ·cases h
    ·cases h
   ·cases h
  ·cases h
 ·cases h
theorem xe {f:GV}{args:List GV}{c:Nat}{H:aj}{r:GV×aj}(h:oS K rec f args c H=some r):pU F (fun rec=>oS K rec f args c H) r:=by
 unfold oS at h;split at h
 ·exact tg K hF h
 ·exact tg K hF h
 ·cases h
theorem uH {f:GV}{args:List GV}{c:Nat}{H:aj}{r:GV×aj}(h:ff K rec f args c H=some r):pU F (fun rec=>ff K rec f args c H) r:=by
 unfold ff at h⊢;split at h
 ·exact Ej hF h
 ·exact xe K hF h
theorem yX {fn:FuncId}{o:Oper}{s:bd}{H:aj}{r:GV×aj}(h:cM K rec fn o s H=some r):pU F (fun rec=>cM K rec fn o s H) r:=by
 unfold cM at h⊢;split at h
 ·rename_i f args hg
  cases hl:K.lift fn (o.dst.getD 0)with
  |none=>
   rw [hl]at h;simp only at h⊢;exact uH K hF h
  |some t=>
   rw [hl]at h;simp only at h⊢;split at h
   ·rename_i x hx;obtain⟨N,hN⟩:=uH K hF hx;refine⟨N,fun n hn=> ?_⟩;have:=hN n hn;simp only at this;simp only [this];exact h
   ·cases h
 ·exact .const h
theorem xf {fn:FuncId}{all:List Oper}: ∀{ops:List Oper} {st st':bP},qP K rec fn all ops st=some st'→pU F (fun rec=>qP K rec fn all ops st) st'
 | [],st,st',h=> .const h
 |o::r,st,st',h=>by
  simp only [qP]at h;split at h
  ·rename_i hw;split at h
   ·rename_i st1 hp;obtain⟨N,hN⟩:=xf h;refine⟨N,fun n hn=> ?_⟩;simp only [qP,hw,hp];exact hN n hn
   ·cases h
  ·rename_i hw;split at h
   ·rename_i v H hs;obtain⟨N1,h1⟩:=yX K hF hs;split at h
    ·rename_i st1 hp;obtain⟨N,hN⟩:=xf h;refine⟨max N1 N,fun n hn=> ?_⟩;have e1:=h1 n (by omega);simp only at e1;simp only [qP,hw,e1,hp];exact hN n (by omega)
    ·cases h
   ·cases h
  ·cases h
theorem kX {fn:FuncId}{all:List Oper}{pre:Array Nat}: ∀{ops:List Oper} {i:Nat} {wl:List (Nat×aj)} {rl:List Dm} {hb:aj} {st st':bP},ik K rec fn all pre i ops wl rl hb st=some st'→
  pU F (fun rec=>ik K rec fn all pre i ops wl rl hb st) st'
 | [],i,wl,rl,hb,st,st',h=> .const h
 |o::r,i,wl,rl,hb,st,st',h=>by
  simp only [ik]at h;split at h
  ·rename_i hw;split at h
   ·rename_i st1 hp;obtain⟨N,hN⟩:=kX h;refine⟨N,fun n hn=> ?_⟩;simp only [ik,hw,hp];exact hN n hn
   ·cases h
  ·rename_i hw;split at h
   ·rename_i hpure;split at h
    ·rename_i v Hx hop;split at h
     ·rename_i st1 hput;split at h
      ·rename_i hR;split at h
       ·rename_i hall;obtain⟨N,hN⟩:=kX h;refine⟨N,fun n hn=> ?_⟩;simp only [ik,hw,hpure,hop,hput,hR,hall,if_true];exact hN n hn
       ·cases h
      ·rename_i hR;obtain⟨N,hN⟩:=kX h;refine⟨N,fun n hn=> ?_⟩;simp only [ik,hw,hpure,hop,hput,hR,if_true,if_false,Bool.false_eq_true];exact hN n hn
     ·cases h
    ·cases h
   ·rename_i hpure;split at h
    ·rename_i v H hs;obtain⟨N1,h1⟩:=yX K hF hs;split at h
     ·rename_i st1 hput;split at h
      ·rename_i ha;obtain⟨N,hN⟩:=kX h;refine⟨max N1 N,fun n hn=> ?_⟩;have e1:=h1 n (by omega);simp only at e1;simp only [ik,hw,hpure,e1,hput,ha,if_true,if_false,Bool.false_eq_true];exact hN n (by omega)
      ·rename_i ha;split at h
       ·rename_i hall;obtain⟨N,hN⟩:=kX h;refine⟨max N1 N,fun n hn=> ?_⟩;have e1:=h1 n (by omega);simp only at e1;simp only [ik,hw,hpure,e1,hput,ha,hall,if_true,if_false,Bool.false_eq_true];exact hN n (by omega)
       ·cases h
     ·cases h
    ·cases h
  ·cases h
theorem tB {fn:FuncId}{c:Code}{st:bP}{r:GX×bP}(h:cX K rec fn c st=some r):pU F (fun rec=>cX K rec fn c st) r:=by
 unfold cX at h;split at h
 ·exact .const h
 ·exact .const h
 ·rename_i id ops
  cases hg:qP K rec fn ops.toList ops.toList st with
  |none=>rw [hg]at h;cases h
  |some st1=>
   rw [hg]at h;obtain⟨N,hN⟩:=xf K hF hg;refine⟨N,fun n hn=> ?_⟩;have:=hN n hn;simp only at this;simp only [cX,this];exact h
 ·rename_i id ops;split at h
  ·rename_i hd
   cases hg:ik K rec fn ops.toList (Region.before ops) 0 ops.toList [] [] st.h st with
   |none=>rw [hg]at h;cases h
   |some st1=>
    rw [hg]at h;obtain⟨N,hN⟩:=kX K hF hg;refine⟨N,fun n hn=> ?_⟩;have:=hN n hn;simp only at this;simp only [cX,hd,this,if_true];exact h
  ·cases h
 ·rename_i a b
  cases ha:rec fn a st with
  |none=>rw [ha]at h;cases h
  |some x=>
   obtain⟨e,st1⟩:=x;obtain⟨N1,h1⟩:=hF _ _ _ _ ha;rw [ha]at h
   cases e with
   |normal=>
    simp only at h;obtain⟨N2,h2⟩:=hF _ _ _ _ h;refine⟨max N1 N2,fun n hn=> ?_⟩;have e1:=h1 n (by omega);have e2:=h2 n (by omega);simp only at e1 e2;simp only [cX,e1,e2]
   |exit id=>exact⟨N1,fun n hn=>by have e1:=h1 n hn;simp only at e1;simp only [cX,e1];exact h⟩
   |ret=>exact⟨N1,fun n hn=>by have e1:=h1 n hn;simp only at e1;simp only [cX,e1];exact h⟩
 ·rename_i c x y;split at h
  ·rename_i b hb
   cases b with
   |true=>
    obtain⟨N,hN⟩:=hF _ _ _ _ (by simpa using h);exact⟨N,fun n hn=>by have:=hN n hn;simp only at this;simp only [cX,hb,if_true,this]⟩
   |false=>
    obtain⟨N,hN⟩:=hF _ _ _ _ (by simpa using h);exact⟨N,fun n hn=>by have:=hN n hn;simp only at this;simp only [cX,hb,Bool.false_eq_true,if_false,this]⟩
  ·cases h
 ·rename_i id c
  cases hc:rec fn c st with
  |none=>rw [hc]at h;cases h
  |some x=>
   obtain⟨N,hN⟩:=hF _ _ _ _ hc;rw [hc]at h;exact⟨N,fun n hn=>by have:=hN n hn;simp only at this;simp only [cX,this];exact h⟩
 ·rename_i c;simp only at h
  cases hc:rec fn c {st with s:=j8 ((K.fA fn (ba c)).map (·.1)) st.s,h:=[]::st.h}with
  |none=>rw [hc]at h;cases h
  |some x=>
   obtain⟨e,st1⟩:=x;obtain⟨N1,h1⟩:=hF _ _ _ _ hc;rw [hc]at h
   cases e with
   |normal=>
    simp only at h
    cases hs:v7 K fn c st1 with
    |none=>rw [hs]at h;cases h
    |some st2=>
     rw [hs]at h;simp only at h;obtain⟨N2,h2⟩:=hF _ _ _ _ h;refine⟨max N1 N2,fun n hn=> ?_⟩;have e1:=h1 n (by omega);have e2:=h2 n (by omega);simp only at e1 e2;simp only [cX,e1,hs,e2]
   |exit id=>exact⟨N1,fun n hn=>by have e1:=h1 n hn;simp only at e1;simp only [cX,e1];exact h⟩
   |ret=>exact⟨N1,fun n hn=>by have e1:=h1 n hn;simp only at e1;simp only [cX,e1];exact h⟩
 ·obtain⟨N,hN⟩:=hF _ _ _ _ h;exact⟨N,fun n hn=>by have:=hN n hn;simp only at this;simp only [cX,this]⟩
 ·exact .const h
 ·exact .const h
 ·rename_i f ps assign body;simp only at h;split at h
  ·rename_i nm H hn
   cases hg:oS K rec (ev st.s f) [.yield nm] 0 H with
   |none=>rw [hg]at h;cases h
   |some x=>
    obtain⟨N,hN⟩:=xe K hF hg;rw [hg]at h;refine⟨N,fun n hnn=> ?_⟩;have:=hN n hnn;simp only at this;simp only [cX,hn,this];exact h
  ·cases h
 ·cases h
end
section
variable (K:Ctx)
theorem nM: ∀m,Lim (dB K m) (dB K)
 |0=>fun fn c st r h=>by simp [dB]at h
 |m+1=>fun fn c st r h=>by
  obtain⟨N,hN⟩:=tB K (nM m) h;refine⟨N+1,fun n hn=> ?_⟩;obtain⟨k,rfl⟩: ∃k,n=k+1:=⟨n-1,by omega⟩;exact hN k (by omega)
open Classical in
noncomputable def aC:Rec:=fun fn c st=>if h: ∃r,pU (dB K) (fun rec=>rec fn c st) r then some (Classical.choose h)else none
theorem kV {fn:FuncId}{c:Code}{st:bP}{r:GX×bP}:aC K fn c st=some r↔pU (dB K) (fun rec=>rec fn c st) r:=by
 unfold aC;constructor
 ·intro h;split at h
  ·rename_i hx;cases h;exact Classical.choose_spec hx
  ·cases h
 ·intro h;have hx: ∃r,pU (dB K) (fun rec=>rec fn c st) r:=⟨r,h⟩;rw [dif_pos hx];obtain⟨N1,h1⟩:=h;obtain⟨N2,h2⟩:=Classical.choose_spec hx;have e1:=h1 (max N1 N2) (by omega);have e2:=h2 (max N1 N2) (by omega);rw [←e2,←e1]
theorem gy (fn:FuncId)(c:Code)(st:bP):aC K fn c st=cX K (aC K) fn c st:=by
 refine Option.ext fun r=> ?_;constructor
 ·intro h;obtain⟨N,hN⟩:=(kV K).1 h;have h1:cX K (dB K N) fn c st=some r:=hN (N+1) (by omega);have hL:Lim (dB K N) (fun _=>aC K):=fun fn c st r h=>⟨0,fun _ _=>(kV K).2 (nM K N fn c st r h)⟩;obtain⟨M,h2⟩:=tB K hL h1;exact h2 M (Nat.le_refl _)
 ·intro h;obtain⟨N,hN⟩:=tB K (F:=dB K) (fun fn c st r h=>(kV K).1 h) h;refine(kV K).2 ⟨N+1,fun n hn=> ?_⟩;obtain⟨k,rfl⟩: ∃k,n=k+1:=⟨n-1,by omega⟩;exact hN k (by omega)
theorem AE (hK:iJ K):lW K.P (aC K):=fun fn c st e st' h=>by
 obtain⟨N,hN⟩:=(kV K).1 h;exact j4 K hK N fn c st e st' (hN N (Nat.le_refl _))
end
end
section
def JX (K:Ctx)(fn:FuncId)(o:Oper):Bool:= !cb K fn o && !cJ o
def xM (K:Ctx)(fn:FuncId)(o:Oper):Bool:=cb K fn o && Gp o
def JY (K:Ctx)(fn:FuncId)(L:List (Nat×Nat))(all:List Oper)(pre:Array Nat):Bool:=
 all.zipIdx.all fun(oi,i)=>all.zipIdx.all fun(oq,q)=>
  decide (i≤q)||(pre.getD i 0).testBit q||
   ((!(JX K fn oi && JX K fn oq)) && (L.contains (i,q)||(!(JX K fn oi && xM K fn oq) && !(xM K fn oi && JX K fn oq))))
structure Obl where
 i:Nat
 o:Oper
 s:bd
 v:GV
 h:aj
section
variable (K:Ctx) (fn:FuncId)
def ma (nt:Nat):Option Tmp→Prop
 |none=>True
 |some d=>d<nt
def ku {α:Type}(x:Option α)(k:α→Prop):Prop:= ∃r,x=some r∧k r
def qj (all:List Oper):List Oper→bP→(bP→Prop)→Prop
 | [],st,Q=>Q st
 |o::r,st,Q=>
  ku (dR all st.s o) fun b=>
   if b=false then ma st.nt o.dst∧qj all r ⟨lM st.s o.dst ly,st.h,st.nt⟩ Q
   else ku (cM K (aC K) fn o st.s st.h) fun x=>ma st.nt o.dst∧qj all r ⟨lM st.s o.dst x.1,x.2,st.nt⟩ Q
def jE (all:List Oper)(L:List (Nat×Nat)):Nat→List Oper→List Obl→List (Nat×aj)→aj→bP→(bP→Prop)→Prop
 |_,[],_,_,_,st,Q=>Q st
 |i,o::r,obl,old,hb,st,Q=>
  ku (dR all st.s o) fun b=>
   if b=false then ma st.nt o.dst∧jE all L (i+1) r obl old hb ⟨lM st.s o.dst ly,st.h,st.nt⟩ Q
   else if cb K fn o=true then
    ku (eP K fn o st.s hb) fun x=>ma st.nt o.dst∧(∀y∈old,y.1=i→y.2=hb∨sameAt K fn o st.s x.1 y.2=true)∧
     jE all L (i+1) r ((L.filter fun p=>p.2==i).map (fun p=>⟨p.1,o,st.s,x.1,hb⟩)++obl) old hb ⟨lM st.s o.dst x.1,st.h,st.nt⟩ Q
   else
    ku (cM K (aC K) fn o st.s st.h) fun x=>ma st.nt o.dst∧
     if cJ o=true then jE all L (i+1) r obl old hb ⟨lM st.s o.dst x.1,x.2,st.nt⟩ Q
     else (∀y∈obl,y.i=i→x.2=y.h∨sameAt K fn y.o y.s y.v x.2=true)∧
      jE all L (i+1) r obl ((L.filter fun p=>p.2==i).map (fun p=>(p.1,hb))++old) x.2 ⟨lM st.s o.dst x.1,x.2,st.nt⟩ Q
theorem sA {st:bP}{d:Option Tmp}(v:GV)(h:ma st.nt d):st.put d v=some ⟨lM st.s d v,st.h,st.nt⟩:=by
 cases d with
 |none=>rfl
 |some d=>simp only [ma]at h;simp only [bP.put,h,if_true,lM]
theorem pq {all:List Oper}{Q:bP→Prop}: ∀{ops:List Oper} {st:bP},qj K fn all ops st Q→ ∃st',qP K (aC K) fn all ops st=some st'∧Q st'
 | [],st,h=>⟨st,rfl,h⟩
 |o::r,st,h=>by
  simp only [qj]at h;obtain⟨b,hw,h⟩:=h
  cases b with
  |false=>
   simp only [if_true]at h;obtain⟨st',g1,g2⟩:=pq h.2;exact⟨st',by simp only [qP,hw,sA _ h.1];exact g1,g2⟩
  |true=>
   simp only [Bool.true_eq_false,if_false]at h;obtain⟨⟨v,H⟩,hg,h1,h2⟩:=h;obtain⟨st',g1,g2⟩:=pq h2;exact⟨st',by simp only [qP,hw,hg,sA (st:=⟨st.s,H,st.nt⟩) v h1];exact g1,g2⟩
theorem yY {o:Oper}{s:bd}{v:GV}{H Hx:aj}(h:eP K fn o s H=some (v,Hx)):sameAt K fn o s v H=true:=by
 unfold sameAt;rw [h];simp
theorem Aq {all:List Oper}{L:List (Nat×Nat)}{pre:Array Nat}(hst:JY K fn L all pre=true){Q:bP→Prop}: ∀(ops:List Oper) (i:Nat) (obl:List Obl) (old:List (Nat×aj)) (wl:List (Nat×aj)) (rl:List Dm) (hb:aj) (st:bP),
  all.drop i=ops→
  (∀x∈wl,x.1<i∧(∃o,all[x.1]? =some o∧JX K fn o=true)∧ ∀j,(j,x.1)∈L→(j,x.2)∈old)→
  (∀q∈rl,q.i<i∧(∃o,all[q.i]? =some o∧xM K fn o=true)∧(∃h Hx,eP K fn q.o q.s h=some (q.v,Hx)∧ ∀j,(j,q.i)∈L→(⟨j,q.o,q.s,q.v,h⟩:Obl)∈obl))→
  jE K fn all L i ops obl old hb st Q→ ∃st',ik K (aC K) fn all pre i ops wl rl hb st=some st'∧Q st':=by
 intro ops
 induction ops with
 |nil=>intro i obl old wl rl hb st _ _ _ h;exact⟨st,rfl,h⟩
 |cons o r ih=>
  intro i obl old wl rl hb st hd hwl hrl h;have ho:all[i]? =some o:=by
   have:(all.drop i)[0]? =some o:=(by rw [hd];rfl);rw [List.getElem?_drop]at this;simpa using this
  have hd':all.drop (i+1)=r:=by
   have:(all.drop i).drop 1=r:=by rw [hd];rfl
   rwa [List.drop_drop]at this
  have hstat: ∀q oq,q<i→all[q]? =some oq→(pre.getD i 0).testBit q=true∨
    ((!(JX K fn o && JX K fn oq)) && (L.contains (i,q)||(!(JX K fn o && xM K fn oq) && !(xM K fn o && JX K fn oq))))=true:=by
   intro q oq hq hoq;have h1:=List.all_eq_true.1 hst _ (mem_zipIdx' ho);have h2:=List.all_eq_true.1 h1 _ (mem_zipIdx' hoq);simp only [Bool.or_eq_true,decide_eq_true_eq]at h2;rcases h2 with (h2|h2)|h2
   ·omega
   ·exact .inl h2
   ·exact .inr h2
  simp only [jE]at h;obtain⟨b,hw,h⟩:=h
  cases b with
  |false=>
   simp only [if_true]at h;obtain⟨h1,h2⟩:=h;obtain⟨st',g1,g2⟩:=ih (i+1) obl old wl rl hb _ hd' (fun x hx=>⟨by have:=(hwl x hx).1;omega,(hwl x hx).2⟩) (fun q hq=>⟨by have:=(hrl q hq).1;omega,(hrl q hq).2⟩) h2;exact⟨st',by simp only [ik,hw,sA _ h1];exact g1,g2⟩
  |true=>
   simp only [Bool.true_eq_false,if_false]at h;by_cases hp:cb K fn o=true
   ·rw [if_pos hp]at h;obtain⟨⟨v,Hx⟩,hg,h1,h2,h3⟩:=h;simp only at h2 h3;simp only [ik,hw,hp,if_true,hg,sA _ h1];have hold: ∀x∈wl,Gp o=true→((pre.getD i 0).testBit x.1||sameAt K fn o st.s v x.2)=true:=by
     intro x hx hR;obtain⟨x1,⟨ox,x2,x3⟩,x4⟩:=hwl x hx;rcases hstat x.1 ox x1 x2 with h4|h4
     ·rw [h4];rfl
     ·have hrd:xM K fn o=true:=(by unfold xM;rw [hp,hR];rfl);rw [hrd,x3]at h4;simp only [Bool.and_true,Bool.true_and,Bool.not_true,Bool.and_false,Bool.or_false,Bool.and_eq_true]at h4;have hm:(i,x.1)∈L:=(by simpa using h4.2);rcases h2 _ (x4 i hm) rfl with h5|h5
      ·have:sameAt K fn o st.s v x.2=true:=(by rw [h5];exact yY K fn hg);rw [this];simp
      ·rw [h5];simp
    cases hR:Gp o with
    |true=>
     have hall:(wl.all fun x=>(pre.getD i 0).testBit x.1||sameAt K fn o st.s v x.2)=true:=List.all_eq_true.2 fun x hx=>hold x hx hR;simp only [if_true,hall];refine ih (i+1) _ old wl _ hb _ hd' (fun x hx=>⟨by have:=(hwl x hx).1;omega,(hwl x hx).2⟩) (fun q hq=> ?_) h3;rcases List.mem_cons.1 hq with rfl|hq
     ·refine⟨by simp,⟨o,ho,by unfold xM;rw [hp,hR];rfl⟩,hb,Hx,hg,fun j hj=>List.mem_append_left _ (List.mem_map.2 ⟨(j,i),List.mem_filter.2 ⟨hj,by simp⟩,rfl⟩)⟩
     ·obtain⟨q1,q2,hh,Hy,q3,q4⟩:=hrl q hq;exact⟨by omega,q2,hh,Hy,q3,fun j hj=>List.mem_append_right _ (q4 j hj)⟩
    |false=>
     simp only [Bool.false_eq_true,if_false];refine ih (i+1) _ old wl rl hb _ hd' (fun x hx=>⟨by have:=(hwl x hx).1;omega,(hwl x hx).2⟩) (fun q hq=> ?_) h3;obtain⟨q1,q2,hh,Hy,q3,q4⟩:=hrl q hq;exact⟨by omega,q2,hh,Hy,q3,fun j hj=>List.mem_append_right _ (q4 j hj)⟩
   ·rw [if_neg hp]at h;obtain⟨⟨v,H⟩,hg,h1,h2⟩:=h;simp only at h2;have hp':cb K fn o=false:=(by simpa using hp);simp only [ik,hw,hp,if_false,hg,Bool.false_eq_true,sA (st:=⟨st.s,H,st.nt⟩) v h1];by_cases ha:cJ o=true
    ·rw [if_pos ha]at h2;simp only [ha,if_true];exact ih (i+1) obl old wl rl hb _ hd' (fun x hx=>⟨by have:=(hwl x hx).1;omega,(hwl x hx).2⟩) (fun q hq=>⟨by have:=(hrl q hq).1;omega,(hrl q hq).2⟩) h2
    ·rw [if_neg ha]at h2;have ha':cJ o=false:=(by simpa using ha);have hW:JX K fn o=true:=(by unfold JX;rw [hp',ha'];rfl);have hnR:xM K fn o=false:=(by unfold xM;rw [hp'];rfl);obtain⟨h3,h4⟩:=h2;have hwl2:(wl.all fun x=>(pre.getD i 0).testBit x.1)=true:=List.all_eq_true.2 fun x hx=>by
      obtain⟨x1,⟨ox,x2,x3⟩,x4⟩:=hwl x hx;rcases hstat x.1 ox x1 x2 with h4|h4
      ·exact h4
      ·rw [hW,x3]at h4;simp at h4
     have hrl2:(rl.all fun q=>(pre.getD i 0).testBit q.i||sameAt K fn q.o q.s q.v H)=true:=List.all_eq_true.2 fun q hq=>by
      obtain⟨q1,⟨oq,q2,q2'⟩,hh,Hy,q3,q4⟩:=hrl q hq;rcases hstat q.i oq q1 q2 with h4|h4
      ·rw [h4];rfl
      ·rw [hW,q2',hnR]at h4;simp only [Bool.and_true,Bool.true_and,Bool.not_true,Bool.false_and,Bool.or_false,Bool.and_eq_true]at h4;have hm:(i,q.i)∈L:=(by simpa using h4.2);rcases h3 _ (q4 i hm) rfl with h5|h5
       ·have:sameAt K fn q.o q.s q.v H=true:=by
         simp only at h5;rw [h5];exact yY K fn q3
        rw [this];simp
       ·simp only at h5;rw [h5];simp
     simp only [ha,hwl2,hrl2,Bool.and_self,if_true,if_false,Bool.false_eq_true];refine ih (i+1) obl _ _ rl H _ hd' (fun x hx=> ?_) (fun q hq=>⟨by have:=(hrl q hq).1;omega,(hrl q hq).2⟩) h4;rcases List.mem_cons.1 hx with rfl|hx
     ·exact⟨by simp,⟨o,ho,hW⟩,fun j hj=>List.mem_append_left _ (List.mem_map.2 ⟨(j,i),List.mem_filter.2 ⟨hj,by simp⟩,rfl⟩)⟩
     ·obtain⟨x1,x2,x3⟩:=hwl x hx;exact⟨by omega,x2,fun j hj=>List.mem_append_right _ (x3 j hj)⟩
end
def bE (K:Ctx)(N:FuncId→Nat→List (Nat×Nat))(fn:FuncId):Code→Bool
 | .region id ops true=>zL K fn ops.toList (Region.before ops) && JY K fn (N fn id) ops.toList (Region.before ops)
 | .seq a b=>bE K N fn a && bE K N fn b
 | .cond _ a b=>bE K N fn a && bE K N fn b
 | .block _ a=>bE K N fn a
 | .loop a=>bE K N fn a
 | .scope a=>bE K N fn a
 | .rangeFunc _ _ a b=>bE K N fn a && bE K N fn b
 |_=>true
section
variable (K:Ctx) (N:FuncId→Nat→List (Nat×Nat)) (fn:FuncId)
def WP (c:Code)(st:bP)(Q:GX→bP→Prop):Prop:=bE K N fn c=true→ ∃e st',aC K fn c st=some (e,st')∧Q e st'
def tC (id:Nat)(Q:GX→bP→Prop)(e:GX)(st:bP):Prop:=match e with| .exit id'=>if id'=id then Q .normal st else Q (.exit id') st|e=>Q e st
theorem rj (H:aj)(l0:Nat)(s:bd): ∀ks,bw (bX H l0 s) ks=bX H l0 (bw s ks)
 | []=>rfl
 |t::r=>by
  simp only [bw,bX,rj H l0 s r];congr 2
  induction s with
  |nil=>rfl
  |cons x s ih=>
   obtain⟨d,v⟩:=x;simp only [bX,look];split
   ·rfl
   ·exact ih
def Ci (W:bd→aj→Nat→Prop)(ks ks2:List Nat)(Q:GX→bP→Prop)(e:GX)(st:bP):Prop:=
 match st.h with
 |fr::H=>0<H.length∧(match e with
  | .normal=>W (bX (fr::H) (H.length-1) (bw st.s ks)) H st.nt
  |e=>Q e ⟨bX (fr::H) (H.length-1) (bw st.s ks2),H,st.nt⟩)
 | []=>False
def Ar (W:bd→aj→Nat→Prop)(ks ks2:List Nat)(Q:GX→bP→Prop)(e:GX)(st:bP):Prop:=
 match st.h with
 |fr::H=>0<H.length∧(match e with
  | .normal=>ku (qE ⟨bX (fr::H) (H.length-1) (bw st.s ks),H,st.nt⟩) fun st=>W st.s st.h st.nt
  |e=>Q e ⟨bX (fr::H) (H.length-1) (bw st.s ks2),H,st.nt⟩)
 | []=>False
def Wh (b:Bool)(c:Code)(ks ks2:List Nat)(Q:GX→bP→Prop)(s:bd)(H:aj)(nt:Nat):Prop:=
 bE K N fn c=true→K.fA fn (ba c)=some (ks,ks2)→K.fB fn (ba c)=b→ ∃e st',(match aC K fn c ⟨s,[]::H,nt⟩with
  |some (.normal,st)=>(match v7 K fn c st with|some st=>aC K fn (.loop c) st|none=>none)
  |some (e,st)=>(match kn (some ks2) st with|some st=>some (e,st)|none=>none)
  |none=>none)=some (e,st')∧Q e st'
def fL (c:Code)(ks ks2:List Nat)(Q:GX→bP→Prop)(s:bd)(H:aj)(nt:Nat):Prop:=Wh K N fn false c ks ks2 Q s H nt
def uU (c:Code)(ks ks2:List Nat)(Q:GX→bP→Prop)(s:bd)(H:aj)(nt:Nat):Prop:=Wh K N fn true c ks ks2 Q s H nt
def asB:GV→Option Bool
 | .pure (.bool b)=>some b
 |_=>none
def wp:Code→bP→(GX→bP→Prop)→Prop
 | .skip,st,Q=>Q .normal st
 | .label _,st,Q=>Q .normal st
 | .exit id,st,Q=>Q (.exit id) st
 | .ret,st,Q=>Q .ret st
 | .region _ ops false,st,Q=>qj K fn ops.toList ops.toList st (Q .normal)
 | .region id ops true,st,Q=>jE K fn ops.toList (N fn id) 0 ops.toList [] [] st.h st (Q .normal)
 | .seq a b,st,Q=>wp a st fun e st=>match e with| .normal=>wp b st Q|e=>Q e st
 | .cond c x y,st,Q=>ku (asB (ev st.s c)) fun b=>if b=true then wp x st Q else wp y st Q
 | .block id c,st,Q=>wp c st (tC id Q)
 | .loop c,st,Q=>ku (K.fA fn (ba c)) fun a=>if K.fB fn (ba c)=true then uU K N fn c a.1 a.2 Q (bw st.s a.1) st.h st.nt else fL K N fn c a.1 a.2 Q (bw st.s a.1) st.h st.nt
 | .rangeFunc f ps assign body,st,Q=>WP K N fn (.rangeFunc f ps assign body) st Q
 | .scope c,st,Q=>wp c st Q
 |_,_,_=>False
theorem jF: ∀(c:Code) {st:bP} {Q:GX→bP→Prop},wp K N fn c st Q→WP K N fn c st Q
 | .skip,st,Q,h=>fun _=>⟨_,_,by rw [gy];rfl,h⟩
 | .label _,st,Q,h=>fun _=>⟨_,_,by rw [gy];rfl,h⟩
 | .exit id,st,Q,h=>fun _=>⟨_,_,by rw [gy];rfl,h⟩
 | .ret,st,Q,h=>fun _=>⟨_,_,by rw [gy];rfl,h⟩
 | .region id ops false,st,Q,h=>fun _=>by
  obtain⟨st',h1,h2⟩:=pq K fn h;rw [gy];exact⟨_,_,by simp only [cX,h1],h2⟩
 | .region id ops true,st,Q,h=>fun hg=>by
  simp only [bE,Bool.and_eq_true]at hg;obtain⟨st',h1,h2⟩:=Aq K fn hg.2 _ 0 [] [] [] [] _ _ rfl (by simp) (by simp) h;rw [List.drop_zero]at h1;rw [gy];exact⟨_,_,by simp only [cX,hg.1,if_true,h1],h2⟩
 | .seq a b,st,Q,h=>fun hg=>by
  simp only [bE,Bool.and_eq_true]at hg;obtain⟨e,st1,h1,h2⟩:=jF a h hg.1;rw [gy];simp only [cX,h1]
  cases e with
  |normal=>
   obtain⟨e2,st2,h3,h4⟩:=jF b h2 hg.2;exact⟨e2,st2,h3,h4⟩
  |exit id=>exact⟨_,_,rfl,h2⟩
  |ret=>exact⟨_,_,rfl,h2⟩
 | .cond c x y,st,Q,h=>fun hg=>by
  simp only [bE,Bool.and_eq_true]at hg;obtain⟨b,h1,h2⟩:=h;have hc:ev st.s c= .pure (.bool b):=by
   unfold asB at h1;split at h1
   ·rename_i b' hb;rw [hb];cases h1;rfl
   ·cases h1
  rw [gy];simp only [cX,hc]
  cases b with
  |true=>
   simp only [if_true]at h2⊢;exact jF x h2 hg.1
  |false=>
   simp only [Bool.false_eq_true,if_false]at h2⊢;exact jF y h2 hg.2
 | .block id c,st,Q,h=>fun hg=>by
  obtain⟨e,st1,h1,h2⟩:=jF c h (by simpa only [bE]using hg);rw [gy];simp only [cX,h1]
  cases e with
  |exit id'=>
   simp only [tC]at h2;split at h2
   ·rename_i he;exact⟨_,_,by simp only [he,if_true],h2⟩
   ·rename_i he;exact⟨_,_,by simp only [he,if_false],h2⟩
  |normal=>exact⟨_,_,rfl,h2⟩
  |ret=>exact⟨_,_,rfl,h2⟩
 | .loop c,st,Q,h=>fun hg=>by
  obtain⟨⟨ks,ks2⟩,ha,h⟩:=h;have h0:Wh K N fn (K.fB fn (ba c)) c ks ks2 Q (bw st.s ks) st.h st.nt:=by
   cases hc:K.fB fn (ba c)with
   |true=>simp only [hc,if_true]at h;exact h
   |false=>simp only [hc,Bool.false_eq_true,if_false]at h;exact h
  obtain⟨e,st',h1,h2⟩:=h0 (by simpa only [bE]using hg) ha rfl;refine⟨e,st', ?_,h2⟩;rw [gy];simp only [cX,ha,Option.map_some,j8];exact h1
 | .rangeFunc f ps assign body,st,Q,h=>h
 | .scope c,st,Q,h=>fun hg=>by
  obtain⟨e,st1,h1,h2⟩:=jF c h (by simpa only [bE]using hg);rw [gy];exact⟨e,st1,by simp only [cX,h1],h2⟩
 | .goto _,_,_,h=>h.elim
 | .refuse _,_,_,h=>h.elim
theorem HB (s:bd)(ks:List Nat):bw (bw s ks) ks=bw s ks:=by
 have h: ∀l:List Nat,(∀t∈l,t∈ks)→bw (bw s ks) l=bw s l:=by
  intro l
  induction l with
  |nil=>intro _;rfl
  |cons t r ih=>
   intro hl;simp only [bw,gf s t ks (hl t (List.mem_cons_self ..)),ih fun q hq=>hl q (List.mem_cons_of_mem _ hq)]
 exact h ks fun _ h=>h
theorem aw {c:Code}{ks ks2:List Nat}{Q:GX→bP→Prop}{s:bd}{H:aj}{nt:Nat}(h:wp K N fn c ⟨s,[]::H,nt⟩ (Ci (fL K N fn c ks ks2 Q) ks ks2 Q)):fL K N fn c ks ks2 Q s H nt:=fun hg ha hc=>by
 obtain⟨e,st1,h1,h2⟩:=jF K N fn c h hg;rw [h1];unfold Ci at h2;split at h2
 ·rename_i fr H1 hh;obtain⟨h3,h4⟩:=h2;have hne: ¬H1.length=0:=by omega
  cases e with
  |normal=>
   simp only [v7,hc,Bool.false_eq_true,kn,hh,hne,if_false,j8];simp only at h4;obtain⟨e2,st2,g1,g2⟩:=h4 hg ha hc;refine⟨e2,st2, ?_,g2⟩;rw [gy];simp only [cX,ha,Option.map_some,j8];rw [rj];exact g1
  |exit id=>
   simp only [kn,hh,hne,if_false,j8];exact⟨_,_,rfl,h4⟩
  |ret=>
   simp only [kn,hh,hne,if_false,j8];exact⟨_,_,rfl,h4⟩
 ·exact h2.elim
theorem tv {c:Code}{ks ks2:List Nat}{Q:GX→bP→Prop}{s:bd}{H:aj}{nt:Nat}(h:wp K N fn c ⟨s,[]::H,nt⟩ (Ar (uU K N fn c ks ks2 Q) ks ks2 Q)):uU K N fn c ks ks2 Q s H nt:=fun hg ha hc=>by
 obtain⟨e,st1,h1,h2⟩:=jF K N fn c h hg;rw [h1];unfold Ar at h2;split at h2
 ·rename_i fr H1 hh;obtain⟨h3,h4⟩:=h2;have hne: ¬H1.length=0:=by omega
  cases e with
  |normal=>
   simp only at h4;obtain⟨st2,k1,k2⟩:=h4;have hs:st2.s=bX (fr::H1) (H1.length-1) (bw st1.s ks):=by
    unfold qE at k1;split at k1
    ·split at k1
     ·cases k1
     ·cases k1;rfl
    ·cases k1
   simp only [v7,hc,if_true,kn,hh,hne,if_false,ha,Option.map_some,j8,k1];obtain⟨e2,st3,g1,g2⟩:=k2 hg ha hc;refine⟨e2,st3, ?_,g2⟩;rw [gy];simp only [cX,ha,Option.map_some,j8];rw [hs,rj,HB,←hs];exact g1
  |exit id=>
   simp only [kn,hh,hne,if_false,j8];exact⟨_,_,rfl,h4⟩
  |ret=>
   simp only [kn,hh,hne,if_false,j8];exact⟨_,_,rfl,h4⟩
 ·exact h2.elim
def Ek (f:FuncId)(g:Func)(c:Nat)(R:GV×aj→Prop)(e:GX)(st:bP):Prop:=
 (match e with| .exit _=>False|_=>True)∧ku (fC K g st) fun rs=>ku (fX K f c (qa rs) st.h) R
theorem aJ {f:FuncId} {g:Func} {code:Code} {args:List GV} {c:Nat} {H:aj} {R:GV×aj→Prop} (hf:K.P.funcs[f]? =some g) (hb:g.body=some code)
  (hn:(g.name== "runtime.NumGoroutine")=false) (hgood:bE K N f code=true) (hl:args.length≤g.ntmps) (hH:0<H.length)
  (h:wp K N f code ⟨slotsOf 0 (args.map canon),[]::H,g.ntmps⟩ (Ek K f g c R)):ku (bM K (aC K) f args c H) R:=by
 obtain⟨e,st,h1,h2,rs,h3,x,h4,h5⟩:=jF K N f code h hgood;refine⟨x, ?_,h5⟩;have hnt: ¬g.ntmps<args.length:=(by omega);have hH0: ¬H.length=0:=(by omega);simp only [bM,hf,hb,hn,hnt,hH0,decide_false,Bool.or_self,Bool.false_eq_true,if_false,h1]
 cases e with
 |exit id=>exact h2.elim
 |normal=>
  simp only [h3];rw [←h4];rcases rs with _|⟨r,_|⟨r2,l⟩⟩<;>rfl
 |ret=>
  simp only [h3];rw [←h4];rcases rs with _|⟨r,_|⟨r2,l⟩⟩<;>rfl
theorem pk {f:FuncId}{args:List GV}{c:Nat}{H:aj}{rec:Rec}(hc:K.tG f=false)(hb:K.Aw f=false)(hz:bm H args=(args,H)):aI K rec f args c H=bM K rec f args c H:=by
 unfold aI;rw [hc,hb,hz];simp
theorem pE {f:FuncId}{args:List GV}{c:Nat}{H:aj}{rec:Rec}(hc:K.tG f=false)(hb:K.Aw f=true):aI K rec f args c H=iu K rec f ((bm H args).1.map canon) c H:=by
 unfold aI;rw [hc,hb];simp
theorem gL {f:FuncId} {args args':List GV} {c:Nat} {H:aj} {rec:Rec} {p:PV} (hc:K.tG f=false) (hb:K.Aw f=true) (hz:(bm H args).1.map canon=args') (hq:mb args'=some none) (hH:0<H.length)
  (h0: ∀H:aj,0<H.length→bM K rec f args' c H=some (.pure p,H)) (hf:iK p=true):aI K rec f args c H=some (.pure p,H):=by
 rw [pE K hc hb,hz];unfold iu;rw [hq];simp only;rw [h0 _ (by simpa [fY]using hH)];simp only [kF,tJ,ou,nR,hf,if_true,refs,dE,cV,dedup,kG]
theorem bj {f:FuncId} {g:Func} {code:Code} {args:List GV} {c:Nat} {H:aj} {R:GV×aj→Prop} (hf:K.P.funcs[f]? =some g) (hb:g.body=some code)
  (hn:(g.name== "runtime.NumGoroutine")=false) (hgood:bE K N f code=true) (hz:bm H args=(args,H)) (hc:K.tG f=false) (hbo:K.Aw f=false) (hl:args.length≤g.ntmps) (hH:0<H.length)
  (h:wp K N f code ⟨slotsOf 0 (args.map canon),[]::H,g.ntmps⟩ (Ek K f g c R)):ku (aI K (aC K) f args c H) R:=by
 rw [pk K hc hbo hz];exact aJ K N hf hb hn hgood hl hH h
theorem a8 {f:FuncId} {g:Func} {code:Code} {args:List GV} {c:Nat} {H:aj} {R:GV×aj→Prop} (hf:K.P.funcs[f]? =some g) (hb:g.body=some code)
  (hn:(g.name== "runtime.NumGoroutine")=false) (hgood:bE K N f code=true) (hz:K.Gs f=false) (hc:K.tG f=false) (hbo:K.Aw f=false) (hl:args.length≤g.ntmps) (hH:0<H.length)
  (h:wp K N f code ⟨slotsOf 0 (args.map canon),[]::H,g.ntmps⟩ (Ek K f g c R)):ku (aI K (aC K) f args c H) R:=by
 have h0:=aJ K N hf hb hn hgood hl hH h;unfold aI;rw [hz,hc,hbo];simpa using h0
end
end
section
section
variable {K:Ctx} {N:FuncId→Nat→List (Nat×Nat)} {fn:FuncId}
@[congr] theorem aez {α:Type}{x y:Option α}{k:α→Prop}(h: ∀_:Unit,x=y):ku x k=ku y k:=by rw [h ()]
@[simp] theorem gK {α:Type}{x:α}{k:α→Prop}:ku (some x) k=k x:=by
 unfold ku;simp
@[simp] theorem wp_skip {st:bP}{Q:GX→bP→Prop}:wp K N fn .skip st Q=Q .normal st:=by rw [wp]
@[simp] theorem wp_exit {id:Nat}{st:bP}{Q:GX→bP→Prop}:wp K N fn (.exit id) st Q=Q (.exit id) st:=by rw [wp]
@[simp] theorem wp_ret {st:bP}{Q:GX→bP→Prop}:wp K N fn .ret st Q=Q .ret st:=by rw [wp]
@[simp] theorem wp_region {id:Nat}{ops:Array Oper}{st:bP}{Q:GX→bP→Prop}:wp K N fn (.region id ops false) st Q=qj K fn ops.toList ops.toList st (Q .normal):=by rw [wp]
@[simp] theorem adp {id:Nat}{ops:Array Oper}{st:bP}{Q:GX→bP→Prop}:wp K N fn (.region id ops true) st Q=jE K fn ops.toList (N fn id) 0 ops.toList [] [] st.h st (Q .normal):=by rw [wp]
def OZ (b:Code)(Q:GX→bP→Prop)(e:GX)(st:bP):Prop:=match e with| .normal=>wp K N fn b st Q|e=>Q e st
@[simp] theorem wp_seq {a b:Code}{st:bP}{Q:GX→bP→Prop}:wp K N fn (.seq a b) st Q=wp K N fn a st (OZ (K:=K) (N:=N) (fn:=fn) b Q):=by rw [wp];rfl
@[simp] theorem Si {b:Code}{Q:GX→bP→Prop}{st:bP}:OZ (K:=K) (N:=N) (fn:=fn) b Q .normal st=wp K N fn b st Q:= .trans rfl rfl
@[simp] theorem ZH {b:Code}{Q:GX→bP→Prop}{id:Nat}{st:bP}:OZ (K:=K) (N:=N) (fn:=fn) b Q (.exit id) st=Q (.exit id) st:= .trans rfl rfl
@[simp] theorem ab9 {b:Code}{Q:GX→bP→Prop}{st:bP}:OZ (K:=K) (N:=N) (fn:=fn) b Q .ret st=Q .ret st:= .trans rfl rfl
@[simp] theorem wp_cond {c:Operand}{x y:Code}{st:bP}{Q:GX→bP→Prop}:wp K N fn (.cond c x y) st Q=ku (asB (ev st.s c)) fun b=>if b=true then wp K N fn x st Q else wp K N fn y st Q:=by rw [wp]
@[simp] theorem aca {b:Bool}:asB (.pure (.bool b))=some b:= .trans rfl rfl
@[simp] theorem wp_block {id:Nat}{c:Code}{st:bP}{Q:GX→bP→Prop}:wp K N fn (.block id c) st Q=wp K N fn c st (tC id Q):=by rw [wp]
@[simp] theorem KI {id:Nat}{Q:GX→bP→Prop}{st:bP}:tC id Q .normal st=Q .normal st:= .trans rfl rfl
@[simp] theorem Wi {id:Nat}{Q:GX→bP→Prop}{st:bP}:tC id Q .ret st=Q .ret st:= .trans rfl rfl
@[simp] theorem Sj {id id':Nat}{Q:GX→bP→Prop}{st:bP}:tC id Q (.exit id') st=if id'=id then Q .normal st else Q (.exit id') st:= .trans rfl rfl
@[simp] theorem wp_loop {c:Code}{st:bP}{Q:GX→bP→Prop}:wp K N fn (.loop c) st Q=ku (K.fA fn (ba c)) fun a=>if K.fB fn (ba c)=true then uU K N fn c a.1 a.2 Q (bw st.s a.1) st.h st.nt else fL K N fn c a.1 a.2 Q (bw st.s a.1) st.h st.nt:=by rw [wp]
@[simp] theorem O0 {W:bd→aj→Nat→Prop}{ks ks2:List Nat}{Q:GX→bP→Prop}{s:bd}{fr:Fr}{H:aj}{nt:Nat}:
  Ci W ks ks2 Q .normal ⟨s,fr::H,nt⟩=(0<H.length∧W (bX (fr::H) (H.length-1) (bw s ks)) H nt):= .trans rfl rfl
@[simp] theorem Wj {W:bd→aj→Nat→Prop}{ks ks2:List Nat}{Q:GX→bP→Prop}{s:bd}{fr:Fr}{H:aj}{nt id:Nat}:
  Ci W ks ks2 Q (.exit id) ⟨s,fr::H,nt⟩=(0<H.length∧Q (.exit id) ⟨bX (fr::H) (H.length-1) (bw s ks2),H,nt⟩):= .trans rfl rfl
@[simp] theorem ZI {W:bd→aj→Nat→Prop}{ks ks2:List Nat}{Q:GX→bP→Prop}{s:bd}{fr:Fr}{H:aj}{nt:Nat}:
  Ci W ks ks2 Q .ret ⟨s,fr::H,nt⟩=(0<H.length∧Q .ret ⟨bX (fr::H) (H.length-1) (bw s ks2),H,nt⟩):= .trans rfl rfl
@[simp] theorem KJ {W:bd→aj→Nat→Prop}{ks ks2:List Nat}{Q:GX→bP→Prop}{s:bd}{fr:Fr}{H:aj}{nt:Nat}:
  Ar W ks ks2 Q .normal ⟨s,fr::H,nt⟩=(0<H.length∧ku (qE ⟨bX (fr::H) (H.length-1) (bw s ks),H,nt⟩) fun st=>W st.s st.h st.nt):= .trans rfl rfl
@[simp] theorem Sk {W:bd→aj→Nat→Prop}{ks ks2:List Nat}{Q:GX→bP→Prop}{s:bd}{fr:Fr}{H:aj}{nt id:Nat}:
  Ar W ks ks2 Q (.exit id) ⟨s,fr::H,nt⟩=(0<H.length∧Q (.exit id) ⟨bX (fr::H) (H.length-1) (bw s ks2),H,nt⟩):= .trans rfl rfl
@[simp] theorem Sl {f:FuncId}{g:Func}{c:Nat}{R:GV×aj→Prop}{st:bP}:Ek K f g c R .normal st=ku (fC K g st) fun rs=>ku (fX K f c (qa rs) st.h) R:=by simp [Ek]
@[simp] theorem acb {f:FuncId}{g:Func}{c:Nat}{R:GV×aj→Prop}{st:bP}:Ek K f g c R .ret st=ku (fC K g st) fun rs=>ku (fX K f c (qa rs) st.h) R:=by simp [Ek]
@[simp] theorem KL {s:bd}:bw s []=[]:= .trans rfl rfl
@[simp] theorem JZ {s:bd}{t:Nat}{r:List Nat}:bw s (t::r)=(t,look s t)::bw s r:= .trans rfl rfl
@[simp] theorem J0 {H:aj}{l0:Nat}:bX H l0 []=[]:= .trans rfl rfl
@[simp] theorem HU {H:aj}{l0:Nat}{t:Nat}{v:GV}{r:bd}:bX H l0 ((t,v)::r)=(t,clean H l0 v)::bX H l0 r:= .trans rfl rfl
@[simp] theorem look_nil {t:Nat}:look [] t=aP:= .trans rfl rfl
@[simp] theorem Wk {d t:Nat}{v:GV}{s:bd}:look ((d,v)::s) t=if t=d then v else look s t:= .trans rfl rfl
@[simp] theorem aeA {s:bd}{t:Nat}:ev s (.tmp t)=look s t:= .trans rfl rfl
@[simp] theorem acd {s:bd}{v:Value}:ev s (.const v)=ofConst v:= .trans rfl rfl
@[simp] theorem adq {s:bd}{f:Nat}:ev s (.func f)= .pure (.fn f):= .trans rfl rfl
@[simp] theorem Sm {k:IntKind}{n:Int}:ofConst (.int k n)= .pure (.int k n):= .trans rfl rfl
@[simp] theorem O1 {b:Bool}:ofConst (.bool b)= .pure (.bool b):= .trans rfl rfl
@[simp] theorem O2:ofConst (.slice none 0 0)= .aS:= .trans rfl rfl
@[simp] theorem O3:ofConst (.pointer none)= .pure .qK:= .trans rfl rfl
@[simp] theorem ZJ {s:bd}{v:GV}:lM s none v=s:= .trans rfl rfl
@[simp] theorem ZK {s:bd}{d:Nat}{v:GV}:lM s (some d) v=(d,v)::s:= .trans rfl rfl
@[simp] theorem Wl {nt:Nat}:ma nt none=True:= .trans rfl rfl
@[simp] theorem Wm {nt d:Nat}:ma nt (some d)=(d<nt):= .trans rfl rfl
@[simp] theorem Sn {i:Nat}:slotsOf i []=[]:= .trans rfl rfl
@[simp] theorem O4 {i:Nat}{v:GV}{l:List GV}:slotsOf i (v::l)=(i,v)::slotsOf (i+1) l:= .trans rfl rfl
@[simp] theorem ZL {all:List Oper}{st:bP}{Q:bP→Prop}:qj K fn all [] st Q=Q st:= .trans rfl rfl
@[simp] theorem Wn {all:List Oper}{o:Oper}{r:List Oper}{st:bP}{Q:bP→Prop}:qj K fn all (o::r) st Q=ku (dR all st.s o) fun b=>
      if b=false then ma st.nt o.dst∧qj K fn all r ⟨lM st.s o.dst ly,st.h,st.nt⟩ Q
      else ku (cM K (aC K) fn o st.s st.h) fun x=>ma st.nt o.dst∧qj K fn all r ⟨lM st.s o.dst x.1,x.2,st.nt⟩ Q:= .trans rfl rfl
@[simp] theorem Wo {all:List Oper}{L:List (Nat×Nat)}{i:Nat}{obl:List Obl}{old:List (Nat×aj)}{hb:aj}{st:bP}{Q:bP→Prop}:jE K fn all L i [] obl old hb st Q=Q st:= .trans rfl rfl
@[simp] theorem So {all:List Oper}{L:List (Nat×Nat)}{i:Nat}{o:Oper}{r:List Oper}{obl:List Obl}{old:List (Nat×aj)}{hb:aj}{st:bP}{Q:bP→Prop}:
  jE K fn all L i (o::r) obl old hb st Q=ku (dR all st.s o) fun b=>
   if b=false then ma st.nt o.dst∧jE K fn all L (i+1) r obl old hb ⟨lM st.s o.dst ly,st.h,st.nt⟩ Q
   else if cb K fn o=true then
    ku (eP K fn o st.s hb) fun x=>ma st.nt o.dst∧(∀y∈old,y.1=i→y.2=hb∨sameAt K fn o st.s x.1 y.2=true)∧
     jE K fn all L (i+1) r ((L.filter fun p=>p.2==i).map (fun p=>⟨p.1,o,st.s,x.1,hb⟩)++obl) old hb ⟨lM st.s o.dst x.1,st.h,st.nt⟩ Q
   else
    ku (cM K (aC K) fn o st.s st.h) fun x=>ma st.nt o.dst∧
     if cJ o=true then jE K fn all L (i+1) r obl old hb ⟨lM st.s o.dst x.1,x.2,st.nt⟩ Q
     else (∀y∈obl,y.i=i→x.2=y.h∨sameAt K fn y.o y.s y.v x.2=true)∧
      jE K fn all L (i+1) r obl ((L.filter fun p=>p.2==i).map (fun p=>(p.1,hb))++old) x.2 ⟨lM st.s o.dst x.1,x.2,st.nt⟩ Q:= .trans rfl rfl
def uI:List Oper→Nat→Option Nat
 | [],_=>none
 |o::r,j=>if j=0 then o.dst else uI r (j-1)
@[simp] theorem Wp {o:Oper}{r:List Oper}{j:Nat}:uI (o::r) j=if j=0 then o.dst else uI r (j-1):= .trans rfl rfl
def yZ (s:bd)(want:Bool):Option Nat→Option Bool
 |none=>none
 |some d=>(match look s d with| .pure (.bool b)=>some (b==want)| .pure (.tuple [])=>some false|_=>none)
def Fh (want:Bool):GV→Option Bool
 | .pure (.bool b)=>some (b==want)
 | .pure (.tuple [])=>some false
 |_=>none
@[simp] theorem Wq {want b:Bool}:Fh want (.pure (.bool b))=some (b==want):= .trans rfl rfl
@[simp] theorem Sp {want:Bool}:Fh want ly=some false:= .trans rfl rfl
@[congr] theorem ace {s:bd}{want:Bool}{x y:Option Nat}(h: ∀_:Unit,x=y):yZ s want x=yZ s want y:=by rw [h ()]
@[simp] theorem Wr {s:bd}{want:Bool}{d:Nat}:yZ s want (some d)=Fh want (look s d):=by
 unfold yZ Fh;rfl
theorem qk: ∀(l:List Oper) (j:Nat),uI l j=(l[j]?).bind (·.dst)
 | [],j=>by simp [uI]
 |o::r,0=>by simp [uI]
 |o::r,j+1=>by simp [uI,qk r j]
@[simp] theorem O5 {all:List Oper}{s:bd}{dst:Option Tmp}{op:Op}{ty:TypeId}{pos:String}{af:Array Edge}:dR all s ⟨dst,op,ty,pos,af,none⟩=some true:= .trans rfl rfl
@[simp] theorem O6 {all:List Oper}{s:bd}{dst:Option Tmp}{op:Op}{ty:TypeId}{pos:String}{af:Array Edge}{j:Nat}{want:Bool}:
  dR all s ⟨dst,op,ty,pos,af,some (j,want)⟩=yZ s want (uI all j):=by
 rw [qk];unfold dR yZ;simp only
 cases all[j]? with
 |none=>rfl
 |some oj=>
  simp only [Option.bind_some]
  cases oj.dst with
  |none=>rfl
  |some d=>rfl
variable {rec:Rec} {dst:Option Tmp} {ty:TypeId} {pos:String} {af:Array Edge} {gu:Option (Nat×Bool)} {s:bd} {H:aj}
def Fi (r:Option Nat)(H:aj)(b:GV)(z:GV×aj):Option (GV×aj):=match r with
 |none=>rT H b z
 |some key=>rU H b key z
@[simp] theorem Ws {H:aj}{b:GV}{z:GV×aj}:Fi none H b z=rT H b z:= .trans rfl rfl
def y6 (x:Option Tmp)(r:Option Nat)(s:bd)(H:aj)(y:Option (GV×aj)):Option (GV×aj):=match x with
 |none=>y
 |some t=>(match y with|some z=>Fi r H (look s t) z|none=>none)
@[congr] theorem acf {x x':Option Tmp}{r:Option Nat}{s:bd}{H:aj}{y y':Option (GV×aj)}(h: ∀_:Unit,x=x')(h': ∀_:Unit,y=y'):y6 x r s H y=y6 x' r s H y':=by rw [h (),h' ()]
@[simp] theorem Wt {r:Option Nat}{s:bd}{H:aj}{y:Option (GV×aj)}:y6 none r s H y=y:= .trans rfl rfl
@[simp] theorem Wu {t:Tmp}{r:Option Nat}{s:bd}{H:aj}{z:GV×aj}:y6 (some t) r s H (some z)=Fi r H (look s t) z:= .trans rfl rfl
@[simp] theorem Wv {f:Operand}{args:Array Operand}{ats:Array TypeId}:cM K rec fn ⟨dst, .call ⟨.value f,args,ats⟩,ty,pos,af,gu⟩ s H=y6 (K.lift fn (dst.getD 0)) (K.row fn (dst.getD 0)) s H (ff K rec (ev s f) (args.toList.map (ev s)) (dst.getD 0) H):=by
 unfold cM y6;simp only [gU]
 cases K.lift fn (dst.getD 0)with
 |none=>rfl
 |some t=>simp only [Fi];cases ff K rec (ev s f) (args.toList.map (ev s)) (dst.getD 0) H<;>rfl
@[simp] theorem wz {f:Nat}{args:List GV}{c:Nat}:ff K rec (.pure (.fn f)) args c H=aI K rec f args c H:= .trans rfl rfl
@[simp] theorem sn {f:Nat}{first cap args:List GV}{c:Nat}:ff K rec (.func f first cap) args c H=aI K rec f (first++args++cap) c H:= .trans rfl rfl
end
end
section
section
variable {K:Ctx} {fn:FuncId} {rec:Rec} {dst:Option Tmp} {ty:TypeId} {pos:String} {af:Array Edge} {gu:Option (Nat×Bool)} {s:bd} {H:aj}
@[simp] theorem Ww (x:Operand):cM K rec fn ⟨dst, .move x,ty,pos,af,gu⟩ s H=eP K fn ⟨dst, .move x,ty,pos,af,gu⟩ s H:= .trans rfl rfl
@[simp] theorem O7 (x:Operand):cM K rec fn ⟨dst, .assign x,ty,pos,af,gu⟩ s H=eP K fn ⟨dst, .assign x,ty,pos,af,gu⟩ s H:= .trans rfl rfl
@[simp] theorem Wx (c a b:Operand):cM K rec fn ⟨dst, .pick c a b,ty,pos,af,gu⟩ s H=eP K fn ⟨dst, .pick c a b,ty,pos,af,gu⟩ s H:= .trans rfl rfl
@[simp] theorem Sq (t:TypeId):cM K rec fn ⟨dst, .alloc t,ty,pos,af,gu⟩ s H=eP K fn ⟨dst, .alloc t,ty,pos,af,gu⟩ s H:= .trans rfl rfl
@[simp] theorem ZM (t:TypeId)(x:Operand):cM K rec fn ⟨dst, .box t x,ty,pos,af,gu⟩ s H=eP K fn ⟨dst, .box t x,ty,pos,af,gu⟩ s H:= .trans rfl rfl
@[simp] theorem Sr (t:TypeId)(ps:Array (Nat×Operand)):cM K rec fn ⟨dst, .build t ps,ty,pos,af,gu⟩ s H=eP K fn ⟨dst, .build t ps,ty,pos,af,gu⟩ s H:= .trans rfl rfl
@[simp] theorem HC (t:TypeId)(n:Nat)(ps:Array (Nat×Operand)):cM K rec fn ⟨dst, .buildSlice t n ps,ty,pos,af,gu⟩ s H=eP K fn ⟨dst, .buildSlice t n ps,ty,pos,af,gu⟩ s H:= .trans rfl rfl
@[simp] theorem Wy (t:TypeId)(a:Operand):cM K rec fn ⟨dst, .load t a,ty,pos,af,gu⟩ s H=eP K fn ⟨dst, .load t a,ty,pos,af,gu⟩ s H:= .trans rfl rfl
@[simp] theorem Ss (t:TypeId)(a x:Operand):cM K rec fn ⟨dst, .store t a x,ty,pos,af,gu⟩ s H=eP K fn ⟨dst, .store t a x,ty,pos,af,gu⟩ s H:= .trans rfl rfl
@[simp] theorem J1 (x:Operand):cM K rec fn ⟨dst, .nilCheck x,ty,pos,af,gu⟩ s H=eP K fn ⟨dst, .nilCheck x,ty,pos,af,gu⟩ s H:= .trans rfl rfl
@[simp] theorem St (op:BinOp)(t:TypeId)(x y:Operand)(d:TypeId):cM K rec fn ⟨dst, .binOp op t x y d,ty,pos,af,gu⟩ s H=eP K fn ⟨dst, .binOp op t x y d,ty,pos,af,gu⟩ s H:= .trans rfl rfl
@[simp] theorem Wz (op:UnOp)(t:TypeId)(x:Operand):cM K rec fn ⟨dst, .unOp op t x,ty,pos,af,gu⟩ s H=eP K fn ⟨dst, .unOp op t x,ty,pos,af,gu⟩ s H:= .trans rfl rfl
@[simp] theorem KM (a b:TypeId)(x:Operand):cM K rec fn ⟨dst, .convert a b x,ty,pos,af,gu⟩ s H=eP K fn ⟨dst, .convert a b x,ty,pos,af,gu⟩ s H:= .trans rfl rfl
@[simp] theorem J2 (f:Fn)(a c:Array Operand):cM K rec fn ⟨dst, .makeFunc f a c,ty,pos,af,gu⟩ s H=eP K fn ⟨dst, .makeFunc f a c,ty,pos,af,gu⟩ s H:= .trans rfl rfl
@[simp] theorem KN (t:TypeId)(r:Option Operand):cM K rec fn ⟨dst, .makeMap t r,ty,pos,af,gu⟩ s H=eP K fn ⟨dst, .makeMap t r,ty,pos,af,gu⟩ s H:= .trans rfl rfl
@[simp] theorem Su (t:TypeId)(x:Operand)(lo hi mx:Option Operand):cM K rec fn ⟨dst, .slice t x lo hi mx,ty,pos,af,gu⟩ s H=eP K fn ⟨dst, .slice t x lo hi mx,ty,pos,af,gu⟩ s H:= .trans rfl rfl
@[simp] theorem HV (t:TypeId)(x:Operand)(f:Nat):cM K rec fn ⟨dst, .fieldAddr t x f,ty,pos,af,gu⟩ s H=eP K fn ⟨dst, .fieldAddr t x f,ty,pos,af,gu⟩ s H:= .trans rfl rfl
@[simp] theorem HW (t:TypeId)(x i:Operand):cM K rec fn ⟨dst, .indexAddr t x i,ty,pos,af,gu⟩ s H=eP K fn ⟨dst, .indexAddr t x i,ty,pos,af,gu⟩ s H:= .trans rfl rfl
@[simp] theorem O8 (t:TypeId)(x k:Operand)(ok:Bool):cM K rec fn ⟨dst, .lookup t x k ok,ty,pos,af,gu⟩ s H=eP K fn ⟨dst, .lookup t x k ok,ty,pos,af,gu⟩ s H:= .trans rfl rfl
@[simp] theorem HX (t:TypeId)(m k v:Operand):cM K rec fn ⟨dst, .mapUpdate t m k v,ty,pos,af,gu⟩ s H=eP K fn ⟨dst, .mapUpdate t m k v,ty,pos,af,gu⟩ s H:= .trans rfl rfl
@[simp] theorem KO (t:Operand)(i:Nat):cM K rec fn ⟨dst, .extract t i,ty,pos,af,gu⟩ s H=eP K fn ⟨dst, .extract t i,ty,pos,af,gu⟩ s H:= .trans rfl rfl
@[simp] theorem KP (b:Builtin)(args:Array Operand)(ats:Array TypeId):cM K rec fn ⟨dst, .call ⟨.builtin b,args,ats⟩,ty,pos,af,gu⟩ s H=eP K fn ⟨dst, .call ⟨.builtin b,args,ats⟩,ty,pos,af,gu⟩ s H:= .trans rfl rfl
@[simp] theorem Sv (x:Operand):cb K fn ⟨dst, .move x,ty,pos,af,gu⟩=true:= .trans rfl rfl
@[simp] theorem KQ (x:Operand):cb K fn ⟨dst, .assign x,ty,pos,af,gu⟩=true:= .trans rfl rfl
@[simp] theorem Sw (c a b:Operand):cb K fn ⟨dst, .pick c a b,ty,pos,af,gu⟩=true:= .trans rfl rfl
@[simp] theorem O9 (t:TypeId):cb K fn ⟨dst, .alloc t,ty,pos,af,gu⟩=false:= .trans rfl rfl
@[simp] theorem Pa (t:TypeId)(ps:Array (Nat×Operand)):cb K fn ⟨dst, .build t ps,ty,pos,af,gu⟩=true:= .trans rfl rfl
@[simp] theorem Sx (t:TypeId)(a:Operand):cb K fn ⟨dst, .load t a,ty,pos,af,gu⟩=true:= .trans rfl rfl
@[simp] theorem Pb (t:TypeId)(a x:Operand):cb K fn ⟨dst, .store t a x,ty,pos,af,gu⟩=false:= .trans rfl rfl
@[simp] theorem HY (x:Operand):cb K fn ⟨dst, .nilCheck x,ty,pos,af,gu⟩=true:= .trans rfl rfl
@[simp] theorem Pc (op:BinOp)(t:TypeId)(x y:Operand)(d:TypeId):cb K fn ⟨dst, .binOp op t x y d,ty,pos,af,gu⟩=true:= .trans rfl rfl
@[simp] theorem Sy (op:UnOp)(t:TypeId)(x:Operand):cb K fn ⟨dst, .unOp op t x,ty,pos,af,gu⟩=true:= .trans rfl rfl
@[simp] theorem J3 (a b:TypeId)(x:Operand):cb K fn ⟨dst, .convert a b x,ty,pos,af,gu⟩=true:= .trans rfl rfl
@[simp] theorem Pd (t:TypeId)(x:Operand)(lo hi mx:Option Operand):cb K fn ⟨dst, .slice t x lo hi mx,ty,pos,af,gu⟩=true:= .trans rfl rfl
@[simp] theorem HD (t:TypeId)(x:Operand)(f:Nat):cb K fn ⟨dst, .fieldAddr t x f,ty,pos,af,gu⟩=true:= .trans rfl rfl
@[simp] theorem Pe (t:TypeId)(x:Operand)(f:Nat):cb K fn ⟨dst, .field t x f,ty,pos,af,gu⟩=true:= .trans rfl rfl
@[simp] theorem HE (t:TypeId)(x i:Operand):cb K fn ⟨dst, .indexAddr t x i,ty,pos,af,gu⟩=true:= .trans rfl rfl
@[simp] theorem J4 (t:Operand)(i:Nat):cb K fn ⟨dst, .extract t i,ty,pos,af,gu⟩=true:= .trans rfl rfl
@[simp] theorem Fj (t:TypeId)(n:Nat)(ps:Array (Nat×Operand)):cb K fn ⟨dst, .buildSlice t n ps,ty,pos,af,gu⟩=(match dst with|some d=> !K.own fn d|none=>true):= .trans rfl rfl
@[simp] theorem WA (args:Array Operand)(ats:Array TypeId):cb K fn ⟨dst, .call ⟨.builtin .len,args,ats⟩,ty,pos,af,gu⟩=true:= .trans rfl rfl
@[simp] theorem KR (args:Array Operand)(ats:Array TypeId):cb K fn ⟨dst, .call ⟨.builtin .append,args,ats⟩,ty,pos,af,gu⟩=false:= .trans rfl rfl
@[simp] theorem Sz (f:Operand)(args:Array Operand)(ats:Array TypeId):cb K fn ⟨dst, .call ⟨.value f,args,ats⟩,ty,pos,af,gu⟩=false:= .trans rfl rfl
@[simp] theorem KS (t:TypeId)(a x:Operand):cJ ⟨dst, .store t a x,ty,pos,af,gu⟩=false:=by cases dst<;>rfl
@[simp] theorem Pf (c:Call):cJ ⟨dst, .call c,ty,pos,af,gu⟩=false:=by cases dst<;>rfl
@[simp] theorem KT {d:Nat}(t:TypeId):cJ ⟨some d, .alloc t,ty,pos,af,none⟩=true:= .trans rfl rfl
def rv (H:aj)(x:Option GV):Option (GV×aj):=match x with|some v=>some (v,H)|none=>none
@[congr] theorem aeU {x y:Option GV}(h: ∀_:Unit,x=y):rv H x=rv H y:=by rw [h ()]
@[simp] theorem adr {v:GV}:rv H (some v)=some (v,H):= .trans rfl rfl
def rp (H:aj)(x:Option PV):Option (GV×aj):=match x with|some v=>some (.pure v,H)|none=>none
@[congr] theorem aeV {x y:Option PV}(h: ∀_:Unit,x=y):rp H x=rp H y:=by rw [h ()]
@[simp] theorem ads {v:PV}:rp H (some v)=some (.pure v,H):= .trans rfl rfl
def rh (x:Option aj):Option (GV×aj):=match x with|some H=>some (aP,H)|none=>none
@[simp] theorem adt:rh (some H)=some (aP,H):= .trans rfl rfl
def rn (x:Option (Nm×aj))(g:Nm→GV):Option (GV×aj):=match x with|some (nm,H)=>some (g nm,H)|none=>none
@[simp] theorem adu {nm:Nm}{g:Nm→GV}:rn (some (nm,H)) g=some (g nm,H):= .trans rfl rfl
@[simp] theorem acg {x:Operand}:eP K fn ⟨dst, .move x,ty,pos,af,gu⟩ s H=rv H (some (ev s x)):= .trans rfl rfl
@[simp] theorem WC {x:Operand}:eP K fn ⟨dst, .assign x,ty,pos,af,gu⟩ s H=rv H (some (ev s x)):= .trans rfl rfl
def J5 (c a b:GV):Option GV:=match c with| .pure (.bool t)=>some (if t then a else b)|_=>none
@[simp] theorem WD {t:Bool}{a b:GV}:J5 (.pure (.bool t)) a b=some (if t=true then a else b):= .trans rfl rfl
@[simp] theorem ach {c a b:Operand}:eP K fn ⟨dst, .pick c a b,ty,pos,af,gu⟩ s H=rv H (J5 (ev s c) (ev s a) (ev s b)):=by
 simp only [eP];unfold J5;generalize ev s c=g;cases g with
 |pure p=>cases p<;>rfl
 |_=>rfl
def xg (H:aj)(d:Nat)(x:Option (List GV)):Option (GV×aj):=match x with|some cs=>rn (jx H d (.box cs)) (fun nm=> .aD nm 0)|none=>none
@[simp] theorem SB {d:Nat}{cs:List GV}:xg H d (some cs)=rn (jx H d (.box cs)) (fun nm=> .aD nm 0):= .trans rfl rfl
def vc (x:Option GV):Option (List GV):=match x with|some z=>bQ z|none=>none
@[simp] theorem nL {z:GV}:vc (some z)=bQ z:= .trans rfl rfl
@[simp] theorem ZN {d:Nat}{t:TypeId}:eP K fn ⟨some d, .alloc t,ty,pos,af,gu⟩ s H=xg H d (vc (cT K.P t)):=by
 simp only [eP]
 cases h:cT K.P t with
 |none=>rfl
 |some z=>
  simp only [nL,xg]
  cases bQ z with
  |none=>rfl
  |some cs=>
   simp only
   cases jx H d (.box cs)with
   |none=>rfl
   |some x=>rfl
@[simp] theorem adv {d:Nat}{t:TypeId}{x:Operand}:eP K fn ⟨some d, .box t x,ty,pos,af,gu⟩ s H=xg H d (bQ (ev s x)):=by
 simp only [eP,xg]
 cases bQ (ev s x)with
 |none=>rfl
 |some cs=>
  simp only
  cases jx H d (.box cs)with
  |none=>rfl
  |some x=>rfl
@[simp] theorem ZO {fr:Fr}{d:Nat}{b:dM}:jx (fr::H) d b=if (fr.get d).isSome then none else some ((H.length,d),fr.ins d b::H):=by
 unfold jx lD;simp only [List.length_cons,Nat.add_sub_cancel];rw [if_neg (by omega)];simp only [aj.get,aj.set,if_true];cases fr.get d<;>simp
@[simp] theorem Fr.get_nil {q:Nat}:Fr.get [] q=none:= .trans rfl rfl
@[simp] theorem Fr.cS {k q:Nat}{b:dM}{r:Fr}:Fr.get ((k,b)::r) q=if q=k then some b else Fr.get r q:= .trans rfl rfl
@[simp] theorem Fr.adw {q:Nat}{x:dM}:Fr.ins q x []=[(q,x)]:= .trans rfl rfl
@[simp] theorem Fr.rI {k q:Nat}{x b:dM}{r:Fr}:Fr.ins q x ((k,b)::r)=if q=k then (q,x)::r else if q<k then (q,x)::(k,b)::r else (k,b)::Fr.ins q x r:= .trans rfl rfl
@[simp] theorem aj.mU {fr:Fr}{nm:Nm}:aj.get (fr::H) nm=if nm.1=H.length then fr.get nm.2 else aj.get H nm:= .trans rfl rfl
@[simp] theorem aj.y7 {fr:Fr}{nm:Nm}{b:dM}:aj.set (fr::H) nm b=if nm.1=H.length then fr.ins nm.2 b::H else fr::aj.set H nm b:= .trans rfl rfl
@[simp] theorem WE {l:List GV}:bQ (.agg l)=some l:= .trans rfl rfl
@[simp] theorem SC {l:List PV}:bQ (.pure (.agg l))=some (l.map .pure):= .trans rfl rfl
@[simp] theorem WG {k:IntKind}{n:Int}:bQ (.pure (.int k n))=some [.pure (.int k n)]:= .trans rfl rfl
@[simp] theorem SD {b:Bool}:bQ (.pure (.bool b))=some [.pure (.bool b)]:= .trans rfl rfl
@[simp] theorem Pg {l:List (List PV)}:bQ (.pure (.slice l))=some [.pure (.slice l)]:= .trans rfl rfl
@[simp] theorem ZP {f:Nat}:bQ (.pure (.fn f))=some [.pure (.fn f)]:= .trans rfl rfl
@[simp] theorem SG:bQ .aS=some [.aS]:= .trans rfl rfl
@[simp] theorem WH {nm:Nm}{es top lo len:Nat}:bQ (.aW nm es top lo len)=some [.aW nm es top lo len]:= .trans rfl rfl
@[simp] theorem SI:bG []=some []:= .trans rfl rfl
@[simp] theorem zg {p:PV}{r:List GV}:bG (.pure p::r)=(bG r).map (p:: ·):=by
 simp only [bG];cases bG r<;>rfl
@[simp] theorem Ph (l:List PV):bG (l.map .pure)=some l:=o6 l
@[simp] theorem SJ {l:List GV}{r:List GV}:bG (.agg l::r)=none:= .trans rfl rfl
@[simp] theorem Pj {r:List GV}:bG (.aS::r)=none:= .trans rfl rfl
@[simp] theorem SM {nm:Nm}{es top lo len:Nat}{r:List GV}:bG (.aW nm es top lo len::r)=none:= .trans rfl rfl
def ZQ (x:Option (List PV))(l:List GV):GV:=match x with|some ps=> .pure (.agg ps)|none=> .agg l
@[congr] theorem aeB {x y:Option (List PV)}{l:List GV}(h: ∀_:Unit,x=y):ZQ x l=ZQ y l:=by rw [h ()]
@[simp] theorem aci {ps:List PV}{l:List GV}:ZQ (some ps) l= .pure (.agg ps):= .trans rfl rfl
@[simp] theorem acj {l:List GV}:ZQ none l= .agg l:= .trans rfl rfl
@[simp] theorem FA {l:List GV}:dm l=ZQ (bG l) l:= .trans rfl rfl
def mkT (x:Option (List PV))(l:List GV):GV:=match x with|some ps=> .pure (.tuple ps)|none=> .tuple l
@[congr] theorem aeC {x y:Option (List PV)}{l:List GV}(h: ∀_:Unit,x=y):mkT x l=mkT y l:=by rw [h ()]
@[simp] theorem acm {ps:List PV}{l:List GV}:mkT (some ps) l= .pure (.tuple ps):= .trans rfl rfl
@[simp] theorem acn {l:List GV}:mkT none l= .tuple l:= .trans rfl rfl
@[simp] theorem SN {l:List GV}:mkTuple l=mkT (bG l) l:= .trans rfl rfl
@[simp] theorem aco {t:TypeId}{a:Operand}:eP K fn ⟨dst, .load t a,ty,pos,af,gu⟩ s H=rv H (jH K.P t H (ev s a)):= .trans rfl rfl
@[simp] theorem ZR {t:TypeId}{a x:Operand}:eP K fn ⟨dst, .store t a x,ty,pos,af,gu⟩ s H=rh (oZ K.P t H (ev s a) (ev s x)):= .trans rfl rfl
def Fk (ag:Option Bool)(sz:Option Nat)(off:Nat)(b:Option dM):Option GV:=
 match ag,sz,b with
 |some true,some size,some (.box cs)=>if off+size≤cs.length then some (dm ((cs.drop off).take size))else none
 |some false,some _,some (.box cs)=>cs[off]?
 |_,_,_=>none
@[simp] theorem ZS {sz off:Nat}{cs:List GV}:Fk (some true) (some sz) off (some (.box cs))=if off+sz≤cs.length then some (dm ((cs.drop off).take sz))else none:= .trans rfl rfl
@[simp] theorem ZT {sz off:Nat}{cs:List GV}:Fk (some false) (some sz) off (some (.box cs))=cs[off]? := .trans rfl rfl
@[simp] theorem WI {P:Program}{t:TypeId}{nm:Nm}{off:Nat}:jH P t H (.aD nm off)=Fk (fk P t) (bD P t) off (H.get nm):=by
 unfold jH Fk;generalize fk P t=x;generalize bD P t=y;simp only;generalize aj.get H nm=z;rcases x with _|ag<;>rcases y with _|sz<;>rcases z with _|b<;>try rfl
 all_goals (cases ag<;>try rfl)
 all_goals (cases b<;>rfl)
def ldP (ag:Option Bool)(sz:Option Nat)(cs:List PV):Option GV:=
 match ag,sz with
 |some true,some size=>if size≤cs.length then some (.pure (.agg (cs.take size)))else none
 |some false,some _=>(match cs[0]? with|some p=>some (.pure p)|none=>none)
 |_,_=>none
@[simp] theorem ady {sz:Nat}{cs:List PV}:ldP (some true) (some sz) cs=if sz≤cs.length then some (.pure (.agg (cs.take sz)))else none:= .trans rfl rfl
@[simp] theorem adz {sz:Nat}{p:PV}{cs:List PV}:ldP (some false) (some sz) (p::cs)=some (.pure p):= .trans rfl rfl
@[simp] theorem WJ {P:Program}{t:TypeId}{cs:List PV}:jH P t H (.dN cs)=ldP (fk P t) (bD P t) cs:=by
 unfold jH ldP;generalize fk P t=x;generalize bD P t=y;rcases x with _|ag<;>rcases y with _|sz<;>try rfl
 all_goals (cases ag<;>rfl)
def ldL (ag:Option Bool)(sz:Option Nat)(cs:List GV):Option GV:=
 match ag,sz with
 |some true,some size=>if size≤cs.length then some (dm (cs.take size))else none
 |some false,some _=>cs[0]?
 |_,_=>none
@[simp] theorem adA {sz:Nat}{cs:List GV}:ldL (some false) (some sz) cs=cs[0]? := .trans rfl rfl
@[simp] theorem WK {P:Program}{t:TypeId}{cs:List GV}:jH P t H (.ij cs)=ldL (fk P t) (bD P t) cs:=by
 unfold jH ldL;generalize fk P t=x;generalize bD P t=y;rcases x with _|ag<;>rcases y with _|sz<;>try rfl
 all_goals (cases ag<;>rfl)
def ZU (ag:Option Bool)(sz:Option Nat)(es top i off:Nat)(b:Option dM):Option GV:=
  match ag,sz,b with
  |some ag,some size,some (.arr es' elems vf _)=>if es'=es∧vf≤top∧i<top∧top≤elems.length then
        (match elems[i]? with
        |some e=>if ag then (if off+size≤e.length then some (.pure (.agg ((e.drop off).take size)))else none)else (match e[off]? with|some p=>some (.pure p)|none=>none)
        |none=>none)
      else none
  |_,_,_=>none
def ldM (ag:Option Bool)(sz:Option Nat)(nm:Nm)(es top i off:Nat)(b:Option dM):Option GV:=
 match ag,sz,b with
 |some ag,some _,some (.rm es' rows n)=>if ag=false∧es=1∧off=0∧i<top∧top≤n then (match rows[i]? with|some r=>some (.hZ nm es' i r.length)|none=>none)else none
 |ag,sz,b=>ZU ag sz es top i off b
@[congr] theorem aeE {ag:Option Bool}{sz:Option Nat}{nm:Nm}{es top i off:Nat}{b b':Option dM}(h: ∀_:Unit,b=b'):ldM ag sz nm es top i off b=ldM ag sz nm es top i off b':=by rw [h ()]
@[simp] theorem adB {ag sz:Option _}{nm:Nm}{es top i off es' vf:Nat}{elems:List (List PV)}{ro:Bool}:ldM ag sz nm es top i off (some (.arr es' elems vf ro))=ZU ag sz es top i off (some (.arr es' elems vf ro)):=by
 cases ag<;>cases sz<;>rfl
@[simp] theorem WL {P:Program}{t:TypeId}{nm:Nm}{es top i off:Nat}:jH P t H (.eJ nm es top i off)=ldM (fk P t) (bD P t) nm es top i off (H.get nm):=by
 unfold jH ldM ZU;generalize fk P t=x;generalize bD P t=y;simp only;generalize aj.get H nm=z;rcases x with _|ag<;>rcases y with _|sz<;>rcases z with _|b<;>try rfl
 all_goals (cases b<;>rfl)
@[simp] theorem adC {sz es top i off es' vf:Nat}{elems:List (List PV)}{ro:Bool}:ZU (some true) (some sz) es top i off (some (.arr es' elems vf ro))=if es'=es∧vf≤top∧i<top∧top≤elems.length then
        (match elems[i]? with
        |some e=>if off+sz≤e.length then some (.pure (.agg ((e.drop off).take sz)))else none
        |none=>none)
      else none:= .trans rfl rfl
@[simp] theorem adD {sz es top i off es' vf:Nat}{elems:List (List PV)}{ro:Bool}:ZU (some false) (some sz) es top i off (some (.arr es' elems vf ro))=if es'=es∧vf≤top∧i<top∧top≤elems.length then
        (match elems[i]? with
        |some e=>(match e[off]? with|some p=>some (.pure p)|none=>none)
        |none=>none)
      else none:=by
  simp only [ZU];split<;>simp
def Tn (k:IntKind)(a b:Int):Int:=k.wrap (BitVec.ofInt k.bits a &&& BitVec.ofInt k.bits b).toNat
def Aw (k:IntKind)(a b:Int):Int:=k.wrap (BitVec.ofInt k.bits a|||BitVec.ofInt k.bits b).toNat
def V0 (k:IntKind)(a b:Int):Int:=k.wrap (BitVec.ofInt k.bits a^^^BitVec.ofInt k.bits b).toNat
@[simp] theorem WM {t:Nat}:qV (.tmp t)=false:= .trans rfl rfl
@[simp] theorem WN {k:IntKind}{n:Int}:qV (.const (.int k n))=false:= .trans rfl rfl
@[simp] theorem WO:qV (.const (.slice none 0 0))=true:= .trans rfl rfl
theorem El {op:BinOp}{t d:TypeId}{x y:Operand}:eP K fn ⟨dst, .binOp op t x y d,ty,pos,af,gu⟩ s H=rp H (EE K op t s x y):= .trans rfl rfl
@[simp] theorem ZV {op:BinOp}{t d:TypeId}{x y:Operand}:eP K fn ⟨dst, .binOp op t x y d,ty,pos,af,gu⟩ s H=rp H (if qV y=true then iG K op t (ev s x)else gz K op t (ev s x) (ev s y)):=by
 rw [El];rfl
section
variable {t:TypeId} {k:IntKind} {a b:Int}
@[simp] theorem acq:gz K .add t (.pure (.int k a)) (.pure (.int k b))=some (.int k (k.wrap (a+b))):=by simp [gz,oC]
@[simp] theorem acr:gz K .sub t (.pure (.int k a)) (.pure (.int k b))=some (.int k (k.wrap (a-b))):=by simp [gz,oC]
@[simp] theorem acs:gz K .mul t (.pure (.int k a)) (.pure (.int k b))=some (.int k (k.wrap (a*b))):=by simp [gz,oC]
@[simp] theorem acu:gz K .quo t (.pure (.int k a)) (.pure (.int k b))=if b=0 then none else some (.int k (k.wrap (a.tdiv b))):=by simp [gz,oC]
@[simp] theorem acv:gz K .rem t (.pure (.int k a)) (.pure (.int k b))=if b=0 then none else some (.int k (a.tmod b)):=by simp [gz,oC]
@[simp] theorem acw:gz K .and t (.pure (.int k a)) (.pure (.int k b))=some (.int k (Tn k a b)):=by simp [gz,oC,Tn]
@[simp] theorem adE:gz K .or t (.pure (.int k a)) (.pure (.int k b))=some (.int k (Aw k a b)):=by simp [gz,oC,Aw]
@[simp] theorem acx:gz K .xor t (.pure (.int k a)) (.pure (.int k b))=some (.int k (V0 k a b)):=by simp [gz,oC,V0]
@[simp] theorem acy:gz K .eql t (.pure (.int k a)) (.pure (.int k b))=some (.bool (a==b)):=by simp [gz,oC]
@[simp] theorem acz:gz K .neq t (.pure (.int k a)) (.pure (.int k b))=some (.bool (a !=b)):=by simp [gz,oC]
@[simp] theorem acA:gz K .lss t (.pure (.int k a)) (.pure (.int k b))=some (.bool (decide (a<b))):=by simp [gz,oC]
@[simp] theorem acB:gz K .leq t (.pure (.int k a)) (.pure (.int k b))=some (.bool (decide (a≤b))):=by simp [gz,oC]
@[simp] theorem acC:gz K .gtr t (.pure (.int k a)) (.pure (.int k b))=some (.bool (decide (b<a))):=by simp [gz,oC]
@[simp] theorem acD:gz K .geq t (.pure (.int k a)) (.pure (.int k b))=some (.bool (decide (b≤a))):=by simp [gz,oC]
@[simp] theorem acE {k':IntKind}:gz K .shr t (.pure (.int k a)) (.pure (.int k' b))=if b<0 then none else some (.int k (a.fdiv (2^(min b.toNat k.bits)))):=by simp [gz,zU]
end
@[simp] theorem ZW {t:TypeId}{a b:Bool}:gz K .eql t (.pure (.bool a)) (.pure (.bool b))=(match K.P.underlying t with|some .bool=>some (.bool (a==b))|_=>none):=by
 simp only [gz];cases K.P.underlying t with
 |none=>rfl
 |some x=>cases x<;>rfl
def eqA (neg:Bool)(ks:Option (List SK))(a b:List PV):Option PV:=match ks with|some ks=>(match bZ ks a b with|some q=>some (.bool (if neg then !q else q))|none=>none)|none=>none
@[simp] theorem ZX {t:TypeId}{a b:List PV}:gz K .neq t (.pure (.agg a)) (.pure (.agg b))=eqA true (K.eqs t) a b:=by
 simp only [gz,eqA];cases K.eqs t with
 |none=>rfl
 |some ks=>simp only;cases bZ ks a b<;>rfl
@[simp] theorem acF {neg:Bool}{ks:List SK}{a b:List PV}:eqA neg (some ks) a b=(bZ ks a b).map (fun q=> .bool (if neg then !q else q)):=by
 simp only [eqA];cases bZ ks a b<;>rfl
@[simp] theorem ZY:bZ [] [] []=some true:= .trans rfl rfl
@[simp] theorem ZZ {k:IntKind}{ks:List SK}{x y:Int}{a b:List PV}:bZ (.int k::ks) (.int k x::a) (.int k y::b)=(bZ ks a b).map (x==y && ·):=by
 simp only [bZ,and_self,if_true];cases bZ ks a b<;>rfl
@[simp] theorem WQ {ks:List SK}{x y:Bool}{a b:List PV}:bZ (.bool::ks) (.bool x::a) (.bool y::b)=(bZ ks a b).map (x==y && ·):=by
 simp only [bZ];cases bZ ks a b<;>rfl
def unV (op:UnOp)(x:GV):Option GV:=match op,x with
 | .not, .pure (.bool b)=>some (.pure (.bool (!b)))
 | .neg, .pure (.int k n)=>some (.pure (.int k (k.wrap (-n))))
 |_,_=>none
@[simp] theorem adG {b:Bool}:unV .not (.pure (.bool b))=some (.pure (.bool (!b))):= .trans rfl rfl
@[simp] theorem acG {op:UnOp}{t:TypeId}{x:Operand}:eP K fn ⟨dst, .unOp op t x,ty,pos,af,gu⟩ s H=rv H (unV op (ev s x)):=by
 simp only [eP];unfold unV;generalize ev s x=g;cases op<;>cases g<;>try rfl
 all_goals (rename_i p;cases p<;>rfl)
def cvV (a b:Option TypeDesc)(x:GV):Option GV:=match a,b,x with
 |some _,some (.int k), .pure (.int _ n)=>some (.pure (.int k (k.wrap n)))
 |some _,some .string, .pure (.str l)=>some (.pure (.str l))
 |_,_,_=>none
@[simp] theorem adH {d:TypeDesc}{k k':IntKind}{n:Int}:cvV (some d) (some (.int k)) (.pure (.int k' n))=some (.pure (.int k (k.wrap n))):= .trans rfl rfl
@[simp] theorem SO {a b:TypeId}{x:Operand}:eP K fn ⟨dst, .convert a b x,ty,pos,af,gu⟩ s H=rv H (cvV (K.P.underlying a) (K.P.underlying b) (ev s x)):=by
 simp only [eP];unfold cvV;generalize ev s x=g;generalize K.P.underlying a=x1;generalize K.P.underlying b=x2;rcases x1 with _|d1<;>rcases x2 with _|d2<;>try rfl
 cases d2<;>cases g<;>try rfl
 all_goals (rename_i p;cases p<;>rfl)
def ncV (x:GV):Option GV:=match x with
 | .aD nm off=>some (.aD nm off)
 | .eJ nm es top i off=>some (.eJ nm es top i off)
 | .dN cs=>some (.dN cs)
 | .ij cs=>some (.ij cs)
 | .func f first cap=>some (.func f first cap)
 | .pure (.fn f)=>some (.pure (.fn f))
 | .yield nm=>some (.yield nm)
 |_=>none
@[simp] theorem acH {nm:Nm}{o:Nat}:ncV (.aD nm o)=some (.aD nm o):= .trans rfl rfl
@[simp] theorem Pk {x:Operand}:eP K fn ⟨dst, .nilCheck x,ty,pos,af,gu⟩ s H=rv H (ncV (ev s x)):=by
 simp only [eP];unfold ncV;generalize ev s x=g;cases g<;>try rfl
 all_goals (rename_i p;cases p<;>rfl)
@[simp] theorem SP {q:Nat}{nm:Nm}{o:Nat}:im q (.aD nm o)=some (.aD nm (o+q)):= .trans rfl rfl
@[simp] theorem SQ {q:Nat}{nm:Nm}{es top i o:Nat}:im q (.eJ nm es top i o)=some (.eJ nm es top i (o+q)):= .trans rfl rfl
@[simp] theorem SR {q:Nat}{cs:List PV}:im q (.dN cs)=if q≤cs.length then some (.dN (cs.drop q))else none:= .trans rfl rfl
def faV (f:Option (Nat×Option Nat))(x:GV):Option GV:=match f with|some (off,some size)=>if size=0 then none else im off x|_=>none
@[simp] theorem acI {off size:Nat}{x:GV}:faV (some (off,some size)) x=if size=0 then none else im off x:= .trans rfl rfl
def oc (P:Program)(t:TypeId)(f:Nat):Option (Nat×Option Nat):=(mo P t f).map fun x=>(x.1,bD P x.2)
def tfa (P:Program)(t:TypeId)(f:Nat):Option (Nat×Option Bool×Option Nat):=(mo P t f).map fun x=>(x.1,fk P x.2,bD P x.2)
@[simp] theorem KU {t:TypeId}{x:Operand}{f:Nat}:eP K fn ⟨dst, .fieldAddr t x f,ty,pos,af,gu⟩ s H=rv H (faV (oc K.P t f) (ev s x)):=by
 simp only [eP,faV,oc]
 cases mo K.P t f with
 |none=>rfl
 |some p=>
  obtain⟨off,ft⟩:=p;simp only [Option.map_some]
  cases bD K.P ft with
  |none=>rfl
  |some size=>
   simp only;split
   ·rfl
   ·cases im off (ev s x)<;>rfl
def fdV (f:Option (Nat×Option Bool×Option Nat))(x:GV):Option GV:=match f,x with
 |some (off,some ag,some size), .agg cs=>if off+size≤cs.length then (if ag then some (dm ((cs.drop off).take size))else cs[off]?)else none
 |some (off,some ag,some size), .pure (.agg cs)=>if off+size≤cs.length then (if ag then some (.pure (.agg ((cs.drop off).take size)))else (match cs[off]? with|some v=>some (.pure v)|none=>none))else none
 |_,_=>none
@[simp] theorem acJ {off size:Nat}{cs:List PV}:fdV (some (off,some false,some size)) (.pure (.agg cs))=if off+size≤cs.length then (match cs[off]? with|some v=>some (.pure v)|none=>none)else none:=by simp [fdV]
@[simp] theorem Z0 {t:TypeId}{x:Operand}{f:Nat}:eP K fn ⟨dst, .field t x f,ty,pos,af,gu⟩ s H=rv H (fdV (tfa K.P t f) (ev s x)):=by
 simp only [eP,tfa]
 cases mo K.P t f with
 |none=>rfl
 |some p=>
  obtain⟨off,ft⟩:=p;simp only [Option.map_some];unfold fdV
  cases fk K.P ft with
  |none=>rfl
  |some ag=>
   cases bD K.P ft with
   |none=>rfl
   |some size=>
    cases ev s x with
    |pure p=>
     cases p with
     |agg cs=>
      simp only;split
      ·cases ag
       ·simp only [Bool.false_eq_true,if_false];cases cs[off]? <;>rfl
       ·rfl
      ·rfl
     |_=>rfl
    |agg cs=>
     simp only;split
     ·cases ag
      ·simp only [Bool.false_eq_true,if_false];cases cs[off]? <;>rfl
      ·rfl
     ·rfl
    |_=>rfl
def fh (P:Program)(t:TypeId):Option (Nat×Option Nat×Option Bool):=(uO P t).map fun x=>(x.1,bD P x.2,fk P x.2)
def fR (P:Program)(t:TypeId):Option (Option Nat):=(dY P t).map fun e=>bD P e
def ZD (es:Option (Option Nat))(x:GV)(i:Int):Option GV:=match es with
  |some (some size)=>(match x with
          | .aW nm es top lo len=>if es=size∧i<len then some (.eJ nm es top (lo+i.toNat) 0)else none
          | .pure (.slice l)=>(match l[i.toNat]? with|some cs=>if cs.length=size then some (.dN cs)else none|none=>none)
          | .lits l=>(match l[i.toNat]? with|some cs=>if cs.length=size then some (.ij cs)else none|none=>none)
          | .hZ nm es q len=>if es=size∧i<len then some (.ji nm es q i.toNat 0)else none
          |_=>none)
  |_=>none
def Z1 (ar:Option (Nat×Option Nat×Option Bool))(es:Option (Option Nat))(x i:GV):Option GV:=match i with
 | .pure (.int _ i)=>if i<0 then none else
  (match ar with
  |some (n,some size,_)=>if (n:Int)≤i then none else im (i.toNat*size) x
  |some (_,none,_)=>none
  |none=>ZD es x i)
 |_=>none
@[simp] theorem adJ {n size:Nat}{ag:Option Bool}{es:Option (Option Nat)}{x:GV}{k:IntKind}{i:Int}:Z1 (some (n,some size,ag)) es x (.pure (.int k i))=if i<0 then none else if (n:Int)≤i then none else im (i.toNat*size) x:= .trans rfl rfl
@[simp] theorem Z2 {es:Option (Option Nat)}{x:GV}{k:IntKind}{i:Int}:Z1 none es x (.pure (.int k i))=if i<0 then none else ZD es x i:= .trans rfl rfl
@[simp] theorem adK {size:Nat}{nm:Nm}{es top lo len:Nat}{i:Int}:ZD (some (some size)) (.aW nm es top lo len) i=if es=size∧i<len then some (.eJ nm es top (lo+i.toNat) 0)else none:= .trans rfl rfl
@[simp] theorem acK {size:Nat}{l:List (List PV)}{i:Int}:ZD (some (some size)) (.pure (.slice l)) i=(match l[i.toNat]? with|some cs=>if cs.length=size then some (.dN cs)else none|none=>none):= .trans rfl rfl
@[simp] theorem acL {size:Nat}{l:List (List GV)}{i:Int}:ZD (some (some size)) (.lits l) i=(match l[i.toNat]? with|some cs=>if cs.length=size then some (.ij cs)else none|none=>none):= .trans rfl rfl
@[simp] theorem KV {t:TypeId}{x i:Operand}:eP K fn ⟨dst, .indexAddr t x i,ty,pos,af,gu⟩ s H=rv H (Z1 (fh K.P t) (fR K.P t) (ev s x) (ev s i)):=by
 have h:lF K t (ev s x) (ev s i)=Z1 (fh K.P t) (fR K.P t) (ev s x) (ev s i):=by
  unfold lF Z1 fh fR;generalize ev s i=g;generalize ev s x=gx
  cases g with
  |pure p=>
   cases p with
   |int k n=>
    simp only;split
    ·rfl
    ·cases uO K.P t with
     |some p=>
      obtain⟨n,e⟩:=p;simp only [Option.map_some];cases bD K.P e<;>rfl
     |none=>
      simp only [Option.map_none]
      cases dY K.P t with
      |none=>rfl
      |some e=>
       simp only [Option.map_some];cases bD K.P e<;>rfl
   |_=>rfl
  |_=>rfl
 simp only [eP,h];cases Z1 (fh K.P t) (fR K.P t) (ev s x) (ev s i)<;>rfl
def bdV (ar:Option (Option Nat))(pl:Option (List (Nat×Nat)))(z:Option (List GV))(ps:List (Nat×GV)):Option GV:=
 match z with
 |some zs=>
  (match (match ar with
   |some (some size)=>fa (fun i=>some (i*size,size)) zs ps
   |some none=>none
   |none=>(match pl with|some l=>fa (fun i=>l[i]?) zs ps|none=>none))with
  |some cs=>some (dm cs)
  |none=>none)
 |none=>none
def bdM (x:Option (List GV)):Option GV:=match x with|some cs=>some (dm cs)|none=>none
@[simp] theorem acM {cs:List GV}:bdM (some cs)=some (dm cs):= .trans rfl rfl
@[simp] theorem adM {size:Nat}{pl:Option (List (Nat×Nat))}{zs:List GV}{ps:List (Nat×GV)}:bdV (some (some size)) pl (some zs) ps=bdM (fa (fun i=>some (i*size,size)) zs ps):= .trans rfl rfl
@[simp] theorem WR {l:List (Nat×Nat)}{zs:List GV}{ps:List (Nat×GV)}:bdV none (some l) (some zs) ps=bdM (fa (fun i=>l[i]?) zs ps):= .trans rfl rfl
@[simp] theorem Z3 {t:TypeId}{ps:Array (Nat×Operand)}:eP K fn ⟨dst, .build t ps,ty,pos,af,gu⟩ s H=rv H (bdV ((fh K.P t).map (·.2.1)) (fV K.P t) (vc (cT K.P t)) (ps.toList.map (u5 s))):=by
 simp only [eP,bdV,fh]
 cases cT K.P t with
 |none=>rfl
 |some z=>
  simp only [nL]
  cases bQ z with
  |none=>rfl
  |some zs=>
   simp only
   cases uO K.P t with
   |some p=>
    obtain⟨n,e⟩:=p;simp only [Option.map_some]
    cases bD K.P e with
    |none=>rfl
    |some size=>
     simp only;cases fa (fun i=>some (i*size,size)) zs (ps.toList.map (u5 s))<;>rfl
   |none=>
    simp only [Option.map_none]
    cases fV K.P t with
    |none=>rfl
    |some l=>
     simp only;cases fa (fun i=>l[i]?) zs (ps.toList.map (u5 s))<;>rfl
@[simp] theorem adN {x:Nat×Operand}:u5 s x=(x.1,ev s x.2):= .trans rfl rfl
@[simp] theorem Z4 {place:Nat→Option (Nat×Nat)}{cells:List GV}:fa place cells []=some cells:= .trans rfl rfl
def As (place:Nat→Option (Nat×Nat))(cells:List GV)(rest:List (Nat×GV))(p:Option (Nat×Nat))(vs:Option (List GV)):Option (List GV):=
 match p,vs with
 |some (off,size),some vs=>if vs.length≠size∨off+vs.length>cells.length then none else fa place (aE cells off vs) rest
 |_,_=>none
@[congr] theorem Z5 {place:Nat→Option (Nat×Nat)}{cells:List GV}{rest:List (Nat×GV)}{p p':Option (Nat×Nat)}{vs vs':Option (List GV)}(h: ∀_:Unit,p=p')(h': ∀_:Unit,vs=vs'):As place cells rest p vs=As place cells rest p' vs':=by rw [h (),h' ()]
@[simp] theorem SU {place:Nat→Option (Nat×Nat)}{cells:List GV}{rest:List (Nat×GV)}{off size:Nat}{vs:List GV}:As place cells rest (some (off,size)) (some vs)=
  if vs.length≠size∨off+vs.length>cells.length then none else fa place (aE cells off vs) rest:= .trans rfl rfl
@[simp] theorem WS {place:Nat→Option (Nat×Nat)}{cells:List GV}{i:Nat}{v:GV}{rest:List (Nat×GV)}:fa place cells ((i,v)::rest)=As place cells rest (place i) (bQ v):=by
 simp only [fa]
 cases place i with
 |none=>rfl
 |some p=>obtain⟨off,size⟩:=p;cases bQ v<;>rfl
@[simp] theorem WT {α:Type}{l xs:List α}{off:Nat}:aE l off xs=l.take off++xs++l.drop (off+xs.length):= .trans rfl rfl
def J6 (size off:Nat)(cells':List GV×aj)(nm:Nm):Option aj:=match cells'.2.get nm with
 |some (.box cs)=>if off+size≤cs.length then some (cells'.2.set nm (.box (aE cs off cells'.1)))else none
 |_=>none
def stB (size off:Nat)(cs':List GV)(H:aj)(nm:Nm)(b:Option dM):Option aj:=match b with
 |some (.box cs)=>if off+size≤cs.length then some (H.set nm (.box (aE cs off cs')))else none
 |_=>none
@[congr] theorem aeK {size off:Nat}{cs':List GV}{nm:Nm}{b b':Option dM}(h: ∀_:Unit,b=b'):stB size off cs' H nm b=stB size off cs' H nm b':=by rw [h ()]
@[simp] theorem adO {size off:Nat}{cs' cs:List GV}{nm:Nm}:stB size off cs' H nm (some (.box cs))=if off+size≤cs.length then some (H.set nm (.box (aE cs off cs')))else none:= .trans rfl rfl
@[simp] theorem Z6 {size off:Nat}{cs':List GV}{nm:Nm}:J6 size off (cs',H) nm=stB size off cs' H nm (H.get nm):=by
 unfold J6 stB;rfl
def WU (sz:Option Nat)(cells:Option (List GV))(k:Nat→List GV→Option aj):Option aj:=match sz,cells with|some size,some cells=>if cells.length≠size then none else k size cells|_,_=>none
@[congr] theorem aeL {sz sz':Option Nat}{cells cells':Option (List GV)}{k:Nat→List GV→Option aj}(h: ∀_:Unit,sz=sz')(h': ∀_:Unit,cells=cells'):WU sz cells k=WU sz' cells' k:=by rw [h (),h' ()]
@[simp] theorem acO {size:Nat}{cells:List GV}{k:Nat→List GV→Option aj}:WU (some size) (some cells) k=if cells.length≠size then none else k size cells:= .trans rfl rfl
@[simp] theorem SV {P:Program}{t:TypeId}{nm:Nm}{off:Nat}{v:GV}:oZ P t H (.aD nm off) v=WU (bD P t) (bQ v) fun size cells=>J6 size off (cG H nm.1 cells) nm:=by
 unfold oZ WU
 cases bD P t with
 |none=>rfl
 |some size=>
  cases bQ v with
  |none=>rfl
  |some cells=>rfl
def J7 (size es top i off:Nat)(ps:List PV×aj)(nm:Nm):Option aj:=match ps.2.get nm with
  |some (.arr es' elems _ ro)=>if es'=es∧ro=false∧top=elems.length∧i<top then
          (match elems[i]? with
          |some e=>if off+size≤e.length then some (ps.2.set nm (.arr es' (elems.set i (aE e off ps.1)) elems.length false))else none
          |none=>none)
        else none
  |_=>none
@[simp] theorem SW {P:Program}{t:TypeId}{nm:Nm}{es top i off:Nat}{v:GV}:oZ P t H (.eJ nm es top i off) v=WU (bD P t) (bQ v) fun size cells=>J7 size es top i off (bI H cells) nm:=by
 unfold oZ WU
 cases bD P t with
 |none=>rfl
 |some size=>
  cases bQ v with
  |none=>rfl
  |some cells=>rfl
def stA (size es top i off:Nat)(ps:List PV)(H:aj)(nm:Nm)(b:Option dM):Option aj:=match b with
  |some (.arr es' elems _ ro)=>if es'=es∧ro=false∧top=elems.length∧i<top then
          (match elems[i]? with
          |some e=>if off+size≤e.length then some (H.set nm (.arr es' (elems.set i (aE e off ps)) elems.length false))else none
          |none=>none)
        else none
  |_=>none
@[congr] theorem aeM {size es top i off:Nat}{ps:List PV}{nm:Nm}{b b':Option dM}(h: ∀_:Unit,b=b'):stA size es top i off ps H nm b=stA size es top i off ps H nm b':=by rw [h ()]
@[simp] theorem adP {size es top i off es' vf:Nat}{ps:List PV}{nm:Nm}{elems:List (List PV)}{ro:Bool}:stA size es top i off ps H nm (some (.arr es' elems vf ro))=if es'=es∧ro=false∧top=elems.length∧i<top then
          (match elems[i]? with
          |some e=>if off+size≤e.length then some (H.set nm (.arr es' (elems.set i (aE e off ps)) elems.length false))else none
          |none=>none)
        else none:= .trans rfl rfl
@[simp] theorem Z7 {size es top i off:Nat}{ps:List PV}{nm:Nm}:J7 size es top i off (ps,H) nm=stA size es top i off ps H nm (H.get nm):=by
 unfold J7 stA;rfl
@[simp] theorem J8 {l0:Nat}:cG H l0 []=([],H):= .trans rfl rfl
def lcC (l0:Nat)(r:List GV)(x:GV×aj):List GV×aj:=(x.1::(cG x.2 l0 r).1,(cG x.2 l0 r).2)
@[congr] theorem aeN {l0:Nat}{r:List GV}{x y:GV×aj}(h: ∀_:Unit,x=y):lcC l0 r x=lcC l0 r y:=by rw [h ()]
@[simp] theorem J9 {l0:Nat}{r:List GV}{g:GV}:lcC l0 r (g,H)=(g::(cG H l0 r).1,(cG H l0 r).2):= .trans rfl rfl
@[simp] theorem uV {l0:Nat}{g:GV}{r:List GV}:cG H l0 (g::r)=lcC l0 r (ez H l0 g):= .trans rfl rfl
@[simp] theorem tD {l0:Nat}: ∀{ps:List PV},cG H l0 (ps.map .pure)=(ps.map .pure,H)
 | []=>rfl
 |p::ps=>by rw [List.map_cons,uV];show lcC l0 _ (.pure p,H)=_;rw [J9,tD]
@[simp] theorem Ka {l0:Nat}{p:PV}:ez H l0 (.pure p)=(.pure p,H):= .trans rfl rfl
@[simp] theorem Kb {l0:Nat}:ez H l0 .aS=(.aS,H):= .trans rfl rfl
@[simp] theorem KW {l0:Nat}{nm:Nm}{es top lo len:Nat}:ez H l0 (.aW nm es top lo len)=if nm.1≤l0 then (.aW nm es top lo len,H)else (.pure (dI H (.aW nm es top lo len)).1,(dI H (.aW nm es top lo len)).2):= .trans rfl rfl
@[simp] theorem KX:bI H []=([],H):= .trans rfl rfl
def pcC (r:List GV)(x:PV×aj):List PV×aj:=(x.1::(bI x.2 r).1,(bI x.2 r).2)
@[congr] theorem aeO {r:List GV}{x y:PV×aj}(h: ∀_:Unit,x=y):pcC r x=pcC r y:=by rw [h ()]
@[simp] theorem Kc {r:List GV}{g:PV}:pcC r (g,H)=(g::(bI H r).1,(bI H r).2):= .trans rfl rfl
@[simp] theorem xh {g:GV}{r:List GV}:bI H (g::r)=pcC r (dI H g):= .trans rfl rfl
@[simp] theorem xN {p:PV}:dI H (.pure p)=(p,H):= .trans rfl rfl
@[simp] theorem KY:dI H .aS=(.slice [],H):= .trans rfl rfl
@[simp] theorem uW: ∀{ps:List PV},bI H (ps.map .pure)=(ps,H)
 | []=>rfl
 |p::ps=>by rw [List.map_cons,xh,xN,Kc,uW]
def Cj (es top lo len:Nat)(H:aj)(nm:Nm)(b:Option dM):PV×aj:=match b with
  |some (.arr es' elems vf _)=>if es'=es∧vf≤top∧lo+len≤top∧top≤elems.length then (.slice ((elems.drop lo).take len),H.set nm (.arr es' elems vf true))else (.dead,H)
  |_=>(.dead,H)
@[congr] theorem acR {es top lo len:Nat}{nm:Nm}{b b':Option dM}(h: ∀_:Unit,b=b'):Cj es top lo len H nm b=Cj es top lo len H nm b':=by rw [h ()]
@[simp] theorem Z8 {es top lo len es' vf:Nat}{nm:Nm}{elems:List (List PV)}{ro:Bool}:Cj es top lo len H nm (some (.arr es' elems vf ro))=
  if es'=es∧vf≤top∧lo+len≤top∧top≤elems.length then (.slice ((elems.drop lo).take len),H.set nm (.arr es' elems vf true))else (.dead,H):= .trans rfl rfl
@[simp] theorem Pl {nm:Nm}{es top lo len:Nat}:dI H (.aW nm es top lo len)=Cj es top lo len H nm (H.get nm):=by
 rw [mM];unfold Cj
 cases H.get nm with
 |none=>rfl
 |some b=>cases b<;>rfl
@[simp] theorem adR {x:Operand}{t:TypeId}:eP K fn ⟨dst, .call ⟨.builtin .len,#[x],#[t]⟩,ty,pos,af,gu⟩ s H=rp H ((CX K t H (ev s x)).map (.int .i64)):=by
 show (match CX K t H (ev s x)with|some n=>some (GV.pure (.int .i64 n),H)|none=>none)=_
 cases CX K t H (ev s x)<;>rfl
def Jc (d:Option TypeDesc)(H:aj)(x:GV):Option Int:=
 match d,x with
 |some (.array n _),_=>some n
 |some (.slice _), .aW _ _ _ _ len=>some len
 |some (.slice _), .hZ _ _ _ len=>some len
 |some (.slice _), .aS=>some 0
 |some (.slice _), .lits l=>some l.length
 |some (.slice _), .pure (.slice l)=>some l.length
 |some .string, .pure (.str l)=>some l.length
 |some (.map _ _), .pure .oQ=>some 0
 |some (.map _ _), .map nm=>(match H.get nm with|some (.map es)=>some es.length|_=>none)
 |_,_=>none
@[simp] theorem acS {t:TypeId}{x:GV}:CX K t H x=Jc (K.P.underlying t) H x:= .trans rfl rfl
@[simp] theorem acT {e:TypeId}{nm:Nm}{es top lo len:Nat}:Jc (some (.slice e)) H (.aW nm es top lo len)=some (len:Int):= .trans rfl rfl
@[simp] theorem Z9 {e:TypeId}:Jc (some (.slice e)) H .aS=some 0:= .trans rfl rfl
@[simp] theorem aaa {e:TypeId}{l:List (List PV)}:Jc (some (.slice e)) H (.pure (.slice l))=some (l.length:Int):= .trans rfl rfl
@[simp] theorem SY {t:Operand}{i:Nat}:eP K fn ⟨dst, .extract t i,ty,pos,af,gu⟩ s H=rv H (match ev s t with| .tuple l=>l[i]? | .pure (.tuple l)=>(match l[i]? with|some v=>some (.pure v)|none=>none)|_=>none):=by
 simp only [eP]
 cases ev s t with
 |tuple l=>simp only;cases l[i]? <;>rfl
 |pure p=>
  cases p with
  |tuple l=>simp only;cases l[i]? <;>rfl
  |_=>rfl
 |_=>rfl
@[simp] theorem aab {r:GV}:qa [r]=r:= .trans rfl rfl
@[simp] theorem aac:qa []= .pure (.tuple []):= .trans rfl rfl
@[simp] theorem aad {a b:GV}{l:List GV}:qa (a::b::l)=mkTuple (a::b::l):= .trans rfl rfl
@[simp] theorem po {p:PV}:dt H (.pure p)=(.pure p,H):= .trans rfl rfl
@[simp] theorem AJ {nm:Nm}{o:Nat}:dt H (.aD nm o)=(.aD nm o,H):= .trans rfl rfl
@[simp] theorem WV {p:PV}:canon (.pure p)= .pure p:= .trans rfl rfl
@[simp] theorem WW {nm:Nm}{o:Nat}:canon (.aD nm o)= .aD nm o:= .trans rfl rfl
@[simp] theorem WX:canon .aS= .pure (.slice []):= .trans rfl rfl
@[simp] theorem aae {nm:Nm}{es top lo len:Nat}:canon (.aW nm es top lo len)= .aW nm es top lo len:= .trans rfl rfl
@[simp] theorem FC {l:List GV}:canon (.agg l)=dm (l.map cK):= .trans rfl rfl
@[simp] theorem SZ {p:PV}:cK (.pure p)= .pure p:= .trans rfl rfl
@[simp] theorem S5:cK .aS= .pure (.slice []):= .trans rfl rfl
@[simp] theorem WY {nm:Nm}{es top lo len:Nat}:cK (.aW nm es top lo len)= .aW nm es top lo len:= .trans rfl rfl
@[simp] theorem S6 {l:List GV}:canon (.tuple l)=mkTuple (l.map fun g=>match g with| .agg l=>dm (l.map cK)|g=>cK g):= .trans rfl rfl
@[simp] theorem WZ {l0:Nat}{p:PV}:clean H l0 (.pure p)= .pure p:= .trans rfl rfl
@[simp] theorem W0 {l0:Nat}:clean H l0 .aS= .aS:= .trans rfl rfl
@[simp] theorem W9 {l0:Nat}{nm:Nm}{o:Nat}:clean H l0 (.aD nm o)=if nm.1≤l0 then .aD nm o else aP:= .trans rfl rfl
@[simp] theorem aaf {l0:Nat}{nm:Nm}:clean H l0 (.map nm)=if nm.1≤l0 then .map nm else aP:= .trans rfl rfl
@[simp] theorem aag {l0:Nat}{nm:Nm}{es top lo len:Nat}:clean H l0 (.aW nm es top lo len)=if nm.1≤l0 then .aW nm es top lo len else .pure (ig H nm es top lo len):= .trans rfl rfl
def aeP (f:Nat)(a:List GV)(x:Option (List GV)):GV:=match x with|some c=> .func f a c|none=>aP
@[simp] theorem Xa {l0:Nat}{f:Nat}{a c:List GV}:clean H l0 (.func f a c)=if fU l0 a && fU l0 c then .func f a c else if fU l0 a then aeP f a (rN H l0 c)else aP:= .trans rfl rfl
@[simp] theorem pR {l0:Nat}{l:List GV}:clean H l0 (.agg l)=dm (l.map (cL H l0)):= .trans rfl rfl
@[simp] theorem S7 {l0:Nat}{l:List GV}:clean H l0 (.tuple l)=mkTuple (l.map (ju H l0)):= .trans rfl rfl
@[simp] theorem Xb {l0:Nat}{l:List GV}:ju H l0 (.agg l)=dm (l.map (cL H l0)):= .trans rfl rfl
@[simp] theorem S8 {l0:Nat}{p:PV}:ju H l0 (.pure p)= .pure p:= .trans rfl rfl
@[simp] theorem S9 {l0:Nat}:ju H l0 .aS= .aS:= .trans rfl rfl
@[simp] theorem Xc {l0:Nat}{nm:Nm}{es top lo len:Nat}:ju H l0 (.aW nm es top lo len)=if nm.1≤l0 then .aW nm es top lo len else .pure (ig H nm es top lo len):= .trans rfl rfl
@[simp] theorem lZ {l0:Nat}{p:PV}:cL H l0 (.pure p)= .pure p:= .trans rfl rfl
@[simp] theorem Pm {l0:Nat}:cL H l0 .aS= .aS:= .trans rfl rfl
@[simp] theorem Xd {l0:Nat}{nm:Nm}{es top lo len:Nat}:cL H l0 (.aW nm es top lo len)=if nm.1≤l0 then .aW nm es top lo len else .pure (ig H nm es top lo len):= .trans rfl rfl
def slD (es top lo len:Nat)(b:Option dM):PV:=match b with
 |some (.arr es' elems vf _)=>if es'=es∧vf≤top∧lo+len≤top∧top≤elems.length then .slice ((elems.drop lo).take len)else .dead
 |_=> .dead
@[simp] theorem adS {es top lo len es' vf:Nat}{elems:List (List PV)}{ro:Bool}:slD es top lo len (some (.arr es' elems vf ro))=if es'=es∧vf≤top∧lo+len≤top∧top≤elems.length then .slice ((elems.drop lo).take len)else .dead:= .trans rfl rfl
@[simp] theorem ur {nm:Nm}{es top lo len:Nat}:js H nm es top lo len=slD es top lo len (H.get nm):=by
 unfold js slD
 cases H.get nm with
 |none=>rfl
 |some b=>cases b<;>rfl
def slM (es top lo len:Nat)(b:Option dM):PV:=match b with
 |some (.rm _ rows n)=>if es=1∧lo+len≤top∧top≤n then .slice (((rows.drop lo).take len).map fun r=> [.slice r])else .dead
 |b=>slD es top lo len b
@[simp] theorem adT {es top lo len es' vf:Nat}{elems:List (List PV)}{ro:Bool}:slM es top lo len (some (.arr es' elems vf ro))=if es'=es∧vf≤top∧lo+len≤top∧top≤elems.length then .slice ((elems.drop lo).take len)else .dead:= .trans rfl rfl
@[simp] theorem Pn {nm:Nm}{es top lo len:Nat}:ig H nm es top lo len=slM es top lo len (H.get nm):=by
 unfold ig;rw [ur];unfold slM
 cases H.get nm with
 |none=>rfl
 |some b=>cases b<;>rfl
@[simp] theorem aah {l0:Nat}:fU l0 []=true:= .trans rfl rfl
@[simp] theorem Xe {l0:Nat}{nm:Nm}{o:Nat}{r:List GV}:fU l0 (.aD nm o::r)=(decide (nm.1≤l0) && fU l0 r):= .trans rfl rfl
theorem aa {f:Nat}{c:Nat}{r:GV}{fr:Fr}(h:K.IT f=false):fX K f c r (fr::H)=some (canon (clean (fr::H) (H.length-1) r),H):=by
 unfold fX;simp [h]
end
end
end Go.Gh
