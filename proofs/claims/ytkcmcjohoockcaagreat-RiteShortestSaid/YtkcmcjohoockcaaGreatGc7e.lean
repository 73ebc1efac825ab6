/- Texts joined: the evaluator over ghost values, its soundness, the walks. Spaces struck and names made short by a program, for the size. -/
import Derived.Test.YtkcmcjohoockcaaGreatGc7d
namespace Go.Gh
set_option linter.unusedVariables false
set_option linter.unusedSimpArgs false
set_option linter.unnecessarySimpa false
set_option maxRecDepth 100000
set_option maxHeartbeats 8000000
section
def IV (w0 w:World)(S:Nat→Prop)(μ:Mu)(P:Program)(o:Oper)(u:Value)(b:Nat):Prop:=
 u= .pointer (some ⟨b,0,none⟩)∧w0.heap.size≤b∧b<w.heap.size∧ ¬S b∧(∀nm t,μ nm t≠some b)∧
 ∃ty v cs,o.op= .alloc ty∧cw P ty=some (ofConst v)∧bC (ofConst v)=some cs∧w.heap[b]? =some (.cells v.cells ty (0,0))
section
variable {w w':World} {S S':Nat→Prop} {μ μ':Mu} {ℓ:Nat}
theorem IV.ev {w0:World}{P:Program}{o:Oper}{u:Value}{b:Nat}(h:IV w0 w S μ P o u b)(e:Ev ℓ w S μ w' S' μ'):IV w0 w' S' μ' P o u b:=by
 obtain⟨h1,h2,h3,h4,h5,ty,v,cs,h6,h7,h8,h9⟩:=h;refine⟨h1,h2,Nat.lt_of_lt_of_le h3 e.size,fun hs=> ?_,fun nm t hm=> ?_,ty,v,cs,h6,h7,h8,by rw [e.same b h3 (.inr h5)];exact h9⟩
 ·rcases e.xc b hs h3 with h|⟨nm,t,h⟩
  ·exact h4 h
  ·exact h5 _ _ h
 ·obtain⟨nm',t',h'⟩:=e.own nm t b hm h3;exact h5 _ _ h'
end
section
variable (K:Ctx) (rec:Rec) (fn:FuncId) (ops:Array Oper) (st0:bN) (base:Nat) (r:Option Nat) (w0:World) (S0:Nat→Prop) (μ0:Mu)
abbrev TT (j:Nat):TS:=dT K rec fn ops.toList st0 j
abbrev KK (j:Nat):Nat:=dk K rec fn ops.toList st0 j
abbrev VV (j:Nat):GV:=dv K rec fn ops.toList st0 j
structure lH (listed:Array Bool)(a:Act)(w:World)(S:Nat→Prop)(μ:Mu)(e:Nat)(pd:Nat→Nat):Prop where
 sz:listed.size=ops.size
 Xr:DE ops listed
 le:e≤ops.size
 ww: ∀j,j<ops.size→KK K rec fn ops st0 j=3→(listed.getD j false=true↔j<e)
 al: ∀j,j<e→KK K rec fn ops st0 j=2→listed.getD j false=true
 v1: ∀(j:Nat) (o:Oper) (d:Nat),ops.toList[j]? =some o→o.dst=some d→listed.getD j false=true→(KK K rec fn ops st0 j=2→j<e)→aC w S μ (st0.h.length-1) (a.tmps.getD d undef) (VV K rec fn ops st0 j)
 v0: ∀t,(∀(j:Nat) (o:Oper),ops.toList[j]? =some o→listed.getD j false=true→o.dst≠some t)→aC w S μ (st0.h.length-1) (a.tmps.getD t undef) (look st0.s t)
 pa: ∀(j:Nat) (o:Oper) (d:Nat),ops.toList[j]? =some o→o.dst=some d→listed.getD j false=true→KK K rec fn ops st0 j=2→e≤j→IV w0 w S μ K.P o (a.tmps.getD d undef) (pd j)
 Gm: ∀i j,i<ops.size→j<ops.size→listed.getD i false=true→listed.getD j false=true→KK K rec fn ops st0 i=2→KK K rec fn ops st0 j=2→e≤i→e≤j→pd i=pd j→i=j
 nt:a.tmps.size=st0.nt
 low:base≤w.heap.size
 defs:tY base w S μ a.defers
 round: ∀l,r=some l→ ∃q:Loop,w.heap[l]? =some (.loop q)
 ev:Ev (st0.h.length-1) w0 S0 μ0 w S μ
end
section
variable {K:Ctx} {rec:Rec} {fn:FuncId} {ops:Array Oper} {st0:bN} {base:Nat} {r:Option Nat} {w0:World} {S0:Nat→Prop} {μ0:Mu}
variable {listed:Array Bool} {a:Act} {w w':World} {S S':Nat→Prop} {μ μ':Mu} {e:Nat} {pd:Nat→Nat}
theorem lH.step (h : lH K rec fn ops st0 base r w0 S0 μ0 listed a w S μ e pd) (hlt : ∀ b, S b → b < w.heap.size) (he : Ev (st0.h.length - 1) w S μ w' S' μ') :
    lH K rec fn ops st0 base r w0 S0 μ0 listed a w' S' μ' e pd :=
  { h with
    v1 := fun j o d h1 h2 h3 h4 => he.val hlt (Nat.le_refl _) (h.v1 j o d h1 h2 h3 h4)
    v0 := fun t ht => he.val hlt (Nat.le_refl _) (h.v0 t ht)
    pa := fun j o d h1 h2 h3 h4 h5 => (h.pa j o d h1 h2 h3 h4 h5).ev he
    low := Nat.le_trans h.low he.size
    defs := h.defs.ev he
    round := o0 h.round he
    ev := h.ev.trans he }
theorem lH.acg (h : lH K rec fn ops st0 base r w0 S0 μ0 listed a w S μ e pd) {i : Nat} (hi : listed.getD i false = false) (b : Nat) :
    lH K rec fn ops st0 base r w0 S0 μ0 listed a w S μ e (fun j => if j = i then b else pd j) :=
  { h with
    pa := fun j o d h1 h2 h3 h4 h5 => by
      have : j ≠ i := fun e => by rw [e, hi] at h3; cases h3
      simp only [if_neg this]
      exact h.pa j o d h1 h2 h3 h4 h5
    Gm := fun j k hj hk h1 h2 h3 h4 h5 h6 h7 => by
      have n1 : j ≠ i := fun e => by rw [e, hi] at h1; cases h1
      have n2 : k ≠ i := fun e => by rw [e, hi] at h2; cases h2
      simp only [if_neg n1, if_neg n2] at h7
      exact h.Gm j k hj hk h1 h2 h3 h4 h5 h6 h7 }
theorem toList_get {j:Nat}{o:Oper}:ops.toList[j]? =some o↔ops[j]? =some o:=by rw [Array.getElem?_toList]
theorem mP {i:Nat}(h:i∈Region.ready .any ops listed)(hsz:listed.size=ops.size):listed.getD i false=false∧i<ops.size∧ ∃o,ops.toList[i]? =some o∧ops[i]? =some o∧ ∀e∈o.after,Region.binds .any e=true→listed.getD e.on false=true:=by
 obtain⟨h1,o,h2,h3⟩:=mem_ready.1 h;have hi:i<ops.size:=(Array.getElem?_eq_some_iff.1 h2).1;refine⟨?_,hi,o,toList_get.2 h2,h2,h3⟩;rw [Array.getD_eq_getD_getElem?]at h1⊢;rw [Array.getElem?_eq_getElem (by omega)]at h1⊢;exact h1
theorem lH.put (D:wC K fn ops.toList (Region.before ops)) (h:lH K rec fn ops st0 base r w0 S0 μ0 listed a w S μ e pd) {i e':Nat} {o:Oper} (hi:i∈Region.ready .any ops listed) (ho:ops.toList[i]? =some o)
  (hd: ∀d,o.dst=some d→d<st0.nt) (u:Value) (hu:KK K rec fn ops st0 i≠2→aC w S μ (st0.h.length-1) u (VV K rec fn ops st0 i))
  (ha:KK K rec fn ops st0 i=2→IV w0 w S μ K.P o u (pd i)∧ ∀j,j<ops.size→listed.getD j false=true→KK K rec fn ops st0 j=2→e≤j→pd j≠pd i)
  (he:(KK K rec fn ops st0 i≠3∧e'=e)∨(KK K rec fn ops st0 i=3∧e=i∧e'=i+1)):
  lH K rec fn ops st0 base r w0 S0 μ0 (listed.setIfInBounds i true) (a.put o.dst u) w S μ e' pd:=by
 obtain⟨hl,hin,o',ho',_,haft⟩:=mP hi h.sz;rw [ho]at ho';cases ho';have hset: ∀j,(listed.setIfInBounds i true).getD j false=true↔j=i∨listed.getD j false=true:=fun j=>wB (by rw [h.sz];exact hin);have hpast: ∀j d (oj:Oper),ops.toList[j]? =some oj→oj.dst=some d→j≠i→(a.put o.dst u).tmps.getD d undef=a.tmps.getD d undef:=fun j d oj hj hdj hne=>by
  cases hod:o.dst with
  |none=>rfl
  |some d'=>
   have:d≠d':=fun e=>hne (Nx D.nodup hj ho hdj (by rw [hod,e]));rw [kb a d' u d (by rw [h.nt];exact hd d' hod),if_neg this]
 have hee:e≤e':=by rcases he with ⟨_,h'⟩|⟨_,h1,h2⟩<;>omega
 have hlow:KK K rec fn ops st0 i=2→e≤i:=fun h2=>by
  rcases Nat.lt_or_ge i e with h'|h'
  ·have:=h.al i h' h2;rw [hl]at this;cases this
  ·exact h'
 refine⟨by rw [Array.size_setIfInBounds];exact h.sz,fun j oj hj hlj ed hed hb=> ?_, ?_,fun j hj h3=> ?_,fun j hj h2=> ?_,fun j oj d hj hdj hlj h2=> ?_,fun t ht=> ?_,fun j oj d hj hdj hlj h2 hle=> ?_,
  fun j k hj hk hlj hlk h2 h2' hle hle' heq=> ?_, ?_,h.low, ?_,h.round,h.ev⟩
 ·refine(hset _).2 (.inr ?_);rcases(hset j).1 hlj with rfl|hlj
  ·have:=toList_get.2 hj;rw [ho]at this;cases this;exact haft ed hed hb
  ·exact h.Xr j oj hj hlj ed hed hb
 ·have:=h.le;rcases he with ⟨_,h'⟩|⟨_,h1,h2⟩<;>omega
 ·rw [hset j];rcases he with ⟨h4,h5⟩|⟨h4,h5,h6⟩
  ·have:j≠i:=fun e=>h4 (e▸h3);rw [h5,←h.ww j hj h3];simp [this]
  ·rw [h.ww j hj h3];omega
 ·refine(hset j).2 ?_;by_cases e1:j=i
  ·exact .inl e1
  ·refine .inr (h.al j ?_ h2);rcases he with ⟨_,h'⟩|⟨_,h1,h2⟩<;>omega
 ·by_cases e1:j=i
  ·subst e1;rw [ho]at hj;cases hj;rw [hdj,kb a d u d (by rw [h.nt];exact hd d hdj),if_pos rfl];refine hu fun h2'=> ?_;have:=h2 h2';have:=hlow h2';rcases he with ⟨h4,h5⟩|⟨h4,h5,h6⟩
   ·omega
   ·rw [h2']at h4;cases h4
  ·rw [hpast j d oj hj hdj e1];refine h.v1 j oj d hj hdj (((hset j).1 hlj).resolve_left e1) fun h2'=> ?_;have:=h2 h2';rcases he with ⟨_,h'⟩|⟨_,h1,h2⟩<;>omega
 ·have hne:o.dst≠some t:=ht i o ho ((hset i).2 (.inl rfl));have:(a.put o.dst u).tmps.getD t undef=a.tmps.getD t undef:=by
   cases hod:o.dst with
   |none=>rfl
   |some d'=>
    have:t≠d':=fun e=>hne (by rw [hod,e]);rw [kb a d' u t (by rw [h.nt];exact hd d' hod),if_neg this]
  rw [this];exact h.v0 t fun j oj hj hlj=>ht j oj hj ((hset j).2 (.inr hlj))
 ·by_cases e1:j=i
  ·subst e1;rw [ho]at hj;cases hj;rw [hdj,kb a d u d (by rw [h.nt];exact hd d hdj),if_pos rfl];exact(ha h2).1
  ·rw [hpast j d oj hj hdj e1];exact h.pa j oj d hj hdj (((hset j).1 hlj).resolve_left e1) h2 (by omega)
 ·by_cases e1:j=i
  ·subst e1;by_cases e2:k=j
   ·exact e2.symm
   ·exact absurd heq.symm ((ha h2).2 k hk (((hset k).1 hlk).resolve_left e2) h2' (by omega))
  ·by_cases e2:k=i
   ·subst e2;exact absurd heq ((ha h2').2 j hj (((hset j).1 hlj).resolve_left e1) h2 (by omega))
   ·exact h.Gm j k hj hk (((hset j).1 hlj).resolve_left e1) (((hset k).1 hlk).resolve_left e2) h2 h2' (by omega) (by omega) heq
 ·cases hod:o.dst with
  |none=>exact h.nt
  |some d=>simpa [Act.put]using h.nt
 ·have:(a.put o.dst u).defers=a.defers:=by cases o.dst<;>rfl
  rw [this];exact h.defs
theorem gE {nt j:Nat}{o:Oper}(ho:ops.toList[j]? =some o)(h:lA K rec fn ops.toList (Region.before ops) st0 nt j o):
  (KK K rec fn ops st0 j=0∧dy ops.toList (TT K rec fn ops st0 j).s o=some false∧VV K rec fn ops st0 j=ly∧(TT K rec fn ops st0 (j+1)).f=(TT K rec fn ops st0 j).f∧(TT K rec fn ops st0 (j+1)).b=(TT K rec fn ops st0 j).b)∨
  (KK K rec fn ops st0 j=1∧dy ops.toList (TT K rec fn ops st0 j).s o=some true∧cn K fn o=true∧(∃Hx,dZ K fn o (TT K rec fn ops st0 j).s (TT K rec fn ops st0 j).b=some (VV K rec fn ops st0 j,Hx))∧
   (TT K rec fn ops st0 (j+1)).f=(TT K rec fn ops st0 j).f∧(TT K rec fn ops st0 (j+1)).b=(TT K rec fn ops st0 j).b)∨
  (KK K rec fn ops st0 j=2∧dy ops.toList (TT K rec fn ops st0 j).s o=some true∧cn K fn o=false∧cF o=true∧cE K rec fn o (TT K rec fn ops st0 j).s (TT K rec fn ops st0 j).f=some (VV K rec fn ops st0 j,(TT K rec fn ops st0 (j+1)).f)∧
   (TT K rec fn ops st0 (j+1)).b=(TT K rec fn ops st0 j).b)∨
  (KK K rec fn ops st0 j=3∧dy ops.toList (TT K rec fn ops st0 j).s o=some true∧cn K fn o=false∧cF o=false∧cE K rec fn o (TT K rec fn ops st0 j).s (TT K rec fn ops st0 j).f=some (VV K rec fn ops st0 j,(TT K rec fn ops st0 (j+1)).f)∧
   (TT K rec fn ops st0 (j+1)).b=(TT K rec fn ops st0 (j+1)).f):=by
 have hk:=h.kind;obtain⟨e1,-,-⟩:=zI K rec fn ops.toList st0 ho hk;have eb:(TT K rec fn ops st0 (j+1)).b=if KK K rec fn ops st0 j=3 then (TT K rec fn ops st0 (j+1)).f else (TT K rec fn ops st0 j).b:=by
  show (dT K rec fn ops.toList st0 (j+1)).b=_
  rw [e1]
 unfold nW at hk;split at hk
 ·rename_i hw;simp only [Option.some.injEq,Prod.mk.injEq]at hk;obtain⟨k1,k2,k3⟩:=hk;refine .inl ⟨k1.symm,hw,k2.symm,k3.symm, ?_⟩;rw [eb,if_neg (by rw [show KK K rec fn ops st0 j=0 from k1.symm];omega)]
 ·rename_i hw;split at hk
  ·rename_i hp;split at hk
   ·rename_i v Hx hop;simp only [Option.some.injEq,Prod.mk.injEq]at hk;obtain⟨k1,k2,k3⟩:=hk;refine .inr (.inl ⟨k1.symm,hw,hp,⟨Hx,by rw [hop,k2]⟩,k3.symm, ?_⟩);rw [eb,if_neg (by rw [show KK K rec fn ops st0 j=1 from k1.symm];omega)]
   ·cases hk
  ·rename_i hp;split at hk
   ·rename_i v H hs;simp only [Option.some.injEq,Prod.mk.injEq]at hk;obtain⟨k1,k2,k3⟩:=hk;have hp':cn K fn o=false:=(by simpa using hp);by_cases ha:cF o=true
    ·rw [if_pos ha]at k1;refine .inr (.inr (.inl ⟨k1.symm,hw,hp',ha,by rw [hs,k2,k3], ?_⟩));rw [eb,if_neg (by rw [show KK K rec fn ops st0 j=2 from k1.symm];omega)]
    ·rw [if_neg ha]at k1;refine .inr (.inr (.inr ⟨k1.symm,hw,hp',by simpa using ha,by rw [hs,k2,k3], ?_⟩));rw [eb,if_pos k1.symm]
   ·cases hk
 ·cases hk
theorem mQ (ok : ∀ (j : Nat) (o : Oper), ops.toList[j]? = some o → lA K rec fn ops.toList (Region.before ops) st0 st0.nt j o) {e : Nat} : ∀ i, e ≤ i → i ≤ ops.size → (∀ x, e ≤ x → x < i → KK K rec fn ops st0 x ≠ 3) →
    (TT K rec fn ops st0 i).b = (TT K rec fn ops st0 e).b := by
  intro i
  induction i with
  | zero => intro h1 _ _; have : e = 0 := by omega
            rw [this]
  | succ i ih =>
    intro h1 h2 h3
    by_cases e1 : e = i + 1
    · rw [e1]
    · have ho : ops.toList[i]? = some ops[i] := by simp [show i < ops.size by omega]
      have h4 := h3 i (by omega) (by omega)
      rw [← ih (by omega) (by omega) fun x hx hx' => h3 x hx (by omega)]
      rcases gE ho (ok i _ ho) with h | h | h | h
      · exact h.2.2.2.2
      · exact h.2.2.2.2.2
      · exact h.2.2.2.2.2
      · exact absurd h.1 h4
theorem IW (p:Nat→Prop)(e:Nat): ∀i,e≤i→(∀x,e≤x→x<i→ ¬p x)∨ ∃x,e≤x∧x<i∧p x∧ ∀y,e≤y→y<x→ ¬p y:=by
 intro i
 induction i with
 |zero=>intro h;exact .inl fun x _ h=>by omega
 |succ i ih=>
  intro h;rcases Nat.lt_or_ge i e with h'|h'
  ·exact .inl fun x h1 h2=>by omega
  rcases ih h' with h1|⟨x,h1,h2,h3,h4⟩
  ·by_cases hp:p i
   ·exact .inr ⟨i,h',by omega,hp,h1⟩
   ·refine .inl fun x hx hx'=> ?_;by_cases e1:x=i
    ·rw [e1];exact hp
    ·exact h1 x hx (by omega)
  ·exact .inr ⟨x,h1,by omega,h3,h4⟩
theorem Ny (p:Nat→Prop)(i:Nat): ∀e,(∀x,i≤x→x<e→ ¬p x)∨ ∃x,i≤x∧x<e∧p x∧ ∀y,x<y→y<e→ ¬p y:=by
 intro e
 induction e with
 |zero=>exact .inl fun x _ h=>by omega
 |succ e ih=>
  by_cases hp:i≤e∧p e
  ·exact .inr ⟨e,hp.1,by omega,hp.2,fun y h1 h2=>by omega⟩
  ·rcases ih with h|⟨x,h1,h2,h3,h4⟩
   ·refine .inl fun x h1 h2 hx=> ?_;by_cases e1:x=e
    ·subst e1;exact hp ⟨h1,hx⟩
    ·exact h x h1 (by omega) hx
   ·refine .inr ⟨x,h1,by omega,h3,fun y hy hy' hpy=> ?_⟩;by_cases e1:y=e
    ·subst e1;exact hp ⟨by omega,hpy⟩
    ·exact h4 y hy (by omega) hpy
theorem wE {o:Oper}{s:aZ}{v:GV}{H:aj}(h:sameAt K fn o s v H=true): ∃Hx,dZ K fn o s H=some (v,Hx):=by
 unfold sameAt at h;split at h
 ·rename_i v' Hx hg;exact⟨Hx,by rw [hg,GV.beq_eq _ _ h]⟩
 ·cases h
theorem Nz (ok: ∀(j:Nat) (o:Oper),ops.toList[j]? =some o→lA K rec fn ops.toList (Region.before ops) st0 st0.nt j o)
  (h:lH K rec fn ops st0 base r w0 S0 μ0 listed a w S μ e pd) {i:Nat} {o:Oper} (hi:i∈Region.ready .any ops listed) (ho:ops.toList[i]? =some o) (hk:KK K rec fn ops st0 i=1):
  cn K fn o=true∧dZ K fn o (TT K rec fn ops st0 i).s (TT K rec fn ops st0 e).b=some (VV K rec fn ops st0 i,(TT K rec fn ops st0 e).b):=by
 obtain⟨hl,hin,o',ho',ho2,haft⟩:=mP hi h.sz;rw [ho]at ho';cases ho';have hbefore: ∀b,((Region.before ops).getD i 0).testBit b=true→listed.getD b false=true:=fun b hb=>jX h.Xr i b hb fun o' ho' ed hed hbe=>by
  rw [ho2]at ho';cases ho';exact haft ed hed hbe
 have hs:=ok i o ho;obtain⟨hp,Hx,hg⟩:cn K fn o=true∧ ∃Hx,dZ K fn o (TT K rec fn ops st0 i).s (TT K rec fn ops st0 i).b=some (VV K rec fn ops st0 i,Hx):=by
  rcases gE ho hs with h|h|h|h
  ·have:=h.1;omega
  ·exact⟨h.2.2.1,h.2.2.2.1⟩
  ·have:=h.1;omega
  ·have:=h.1;omega
 refine⟨hp, ?_⟩
 suffices hx: ∃Hx,dZ K fn o (TT K rec fn ops st0 i).s (TT K rec fn ops st0 e).b=some (VV K rec fn ops st0 i,Hx)by
  obtain⟨Hy,hy⟩:=hx;rw [BD K hp hy]at hy;exact hy
 cases hR:Fp o with
 |false=>exact⟨_,DD K hp hR hg⟩
 |true=>
  rcases Nat.lt_or_ge i e with hie|hie
  ·rcases Ny (fun x=>KK K rec fn ops st0 x=3) (i+1) e with h1|⟨x,h1,h2,h3,h4⟩
   ·have e1:=mQ ok (e:=i+1) e (by omega) h.le h1;have e2:(TT K rec fn ops st0 (i+1)).b=(TT K rec fn ops st0 i).b:=mQ ok (i+1) (by omega) (by omega) fun x hx hx' h3=>by
     have:x=i:=(by omega);rw [this]at h3;omega
    rw [e1,e2];exact⟨_,hg⟩
   ·have hle:=h.le;have hox:ops.toList[x]? =some ops[x]:=by simp [show x<ops.size by omega]
    have e1:=mQ ok (e:=x+1) e (by omega) h.le fun y hy hy'=>h4 y (by omega) hy';have e2:(TT K rec fn ops st0 (x+1)).b=(TT K rec fn ops st0 (x+1)).f:=by
     rcases gE hox (ok x _ hox)with h|h|h|h
     ·have:=h.1;omega
     ·have:=h.1;omega
     ·have:=h.1;omega
     ·exact h.2.2.2.2.2
    rw [e1,e2];rcases(ok x _ hox).wr h3 i (by omega) hk o ho hR with h5|h5
    ·exfalso;have hlx:=(h.ww x (by omega) h3).2 h2;have:=pZ h.Xr hlx h5;rw [hl]at this;cases this
    ·exact wE h5
  ·rcases IW (fun x=>KK K rec fn ops st0 x=3) e i hie with h1|⟨x,h1,h2,h3,h4⟩
   ·rw [←mQ ok i hie (by omega) h1];exact⟨_,hg⟩
   ·rw [←mQ ok x h1 (by omega) h4];rcases hs.rw hk hR x h2 h3 with h5|h5
    ·exfalso;have:=(h.ww x (by omega) h3).1 (hbefore x h5);omega
    ·exact wE h5
theorem zJ (D:wC K fn ops.toList (Region.before ops)) (ok: ∀(j:Nat) (o:Oper),ops.toList[j]? =some o→lA K rec fn ops.toList (Region.before ops) st0 st0.nt j o)
  (h:lH K rec fn ops st0 base r w0 S0 μ0 listed a w S μ e pd) {i:Nat} {o:Oper} (hi:i∈Region.ready .any ops listed) (ho:ops.toList[i]? =some o) {t:Nat}
  (ht:t∈jB K fn o∨t∈mK ops.toList o) (hal: ∀(j:Nat) (oj:Oper),ops.toList[j]? =some oj→oj.dst=some t→KK K rec fn ops st0 j=2→j<i→j<e):
  aC w S μ (st0.h.length-1) (a.tmps.getD t undef) (look (TT K rec fn ops st0 i).s t):=by
 obtain⟨hl,hin,o',ho',ho2,haft⟩:=mP hi h.sz;rw [ho]at ho';cases ho';have hbefore: ∀b,((Region.before ops).getD i 0).testBit b=true→listed.getD b false=true:=fun b hb=>jX h.Xr i b hb fun o' ho' ed hed hbe=>by
  rw [ho2]at ho';cases ho';exact haft ed hed hbe
 rcases Ez K rec fn ops.toList (Region.before ops) st0 st0.nt ok D.nodup i t (by simp;omega)with ⟨j,oj,h1,h2,h3,h4⟩|⟨h1,h2⟩
 ·show aC w S μ _ _ (look (dT K rec fn ops.toList st0 i).s t)
  rw [h4];rcases D.dep j i oj o t h2 ho h3 ht with h5|⟨h5,h6⟩|⟨h5,h6⟩
  ·omega
  ·exact h.v1 j oj t h2 h3 (hbefore j h6) fun hk=>hal j oj h2 h3 hk h1
  ·omega
 ·show aC w S μ _ _ (look (dT K rec fn ops.toList st0 i).s t)
  rw [h2];refine h.v0 t fun j oj hj hlj hdj=> ?_;rcases Nat.lt_or_ge j i with h3|h3
  ·exact h1 j oj h3 hj hdj
  ·rcases D.dep j i oj o t hj ho hdj ht with h5|⟨h5,h6⟩|⟨h5,h6⟩
   ·subst h5;rw [hl]at hlj;cases hlj
   ·omega
   ·have:=pZ h.Xr hlj h6;rw [hl]at this;cases this
theorem Gn (ok: ∀(j:Nat) (o:Oper),ops.toList[j]? =some o→lA K rec fn ops.toList (Region.before ops) st0 st0.nt j o)
  (h:lH K rec fn ops st0 base r w0 S0 μ0 listed a w S μ e pd) (hH:a9 w S μ (TT K rec fn ops st0 e).f) (hlen:(TT K rec fn ops st0 e).f.length=st0.h.length) (hpos:0<st0.h.length) (he:e<ops.size)
  (h3:KK K rec fn ops st0 e≠3) (h2:KK K rec fn ops st0 e=2→listed.getD e false=true):
  ∃μ',lH K rec fn ops st0 base r w0 S0 μ0 listed a w S μ' (e+1) pd∧a9 w S μ' (TT K rec fn ops st0 (e+1)).f∧(TT K rec fn ops st0 (e+1)).f.length=st0.h.length:=by
 have ho:ops.toList[e]? =some ops[e]:=by simp [he]
 have go: ∀μ',(KK K rec fn ops st0 e=2→ ∀d,ops[e].dst=some d→aC w S μ' (st0.h.length-1) (a.tmps.getD d undef) (VV K rec fn ops st0 e))→
   (∀n t b,μ n t=some b→μ' n t=some b)→(∀j,e<j→j<ops.size→listed.getD j false=true→KK K rec fn ops st0 j=2→ ∀nm t,μ' nm t≠some (pd j))→
   tY base w S μ' a.defers→Ev (st0.h.length-1) w0 S0 μ0 w S μ'→lH K rec fn ops st0 base r w0 S0 μ0 listed a w S μ' (e+1) pd:=by
  intro μ' hv hm hpd hdef hev;have hmono: ∀{v:Value} {g:GV},aC w S μ (st0.h.length-1) v g→aC w S μ' (st0.h.length-1) v g:=fun hv=>hv.mono (fun _ h=>h) (fun _ _=>rfl) (fun _ _ h=>h) (fun n t b _ h=>hm n t b h) (Nat.le_refl _)
  refine {h with
   le:=he
   ww:=fun j hj hj3=>by
    rw [h.ww j hj hj3];have:j≠e:=fun e1=>h3 (e1▸hj3);omega
   al:=fun j hj hj2=>by
    by_cases e1:j=e
    ·rw [e1];exact h2 (e1▸hj2)
    ·exact h.al j (by omega) hj2
   v1:=fun j o d hj hd hl hk=>by
    by_cases e1:j=e∧KK K rec fn ops st0 j=2
    ·obtain⟨e1,e2⟩:=e1;subst e1;rw [ho]at hj;cases hj;exact hv e2 d hd
    ·refine hmono (h.v1 j o d hj hd hl fun hk'=> ?_);have:=hk hk';have:j≠e:=fun e2=>e1 ⟨e2,hk'⟩;omega
   v0:=fun t ht=>hmono (h.v0 t ht)
   pa:=fun j o d hj hd hl hk hle=>by
    obtain⟨p1,p2,p3,p4,p5,p6⟩:=h.pa j o d hj hd hl hk (by omega);have hjs:j<ops.size:=(by have:=(List.getElem?_eq_some_iff.1 hj).1;simpa using this);exact⟨p1,p2,p3,p4,hpd j (by omega) hjs hl hk,p6⟩
   Gm:=fun i j hi hj hli hlj hki hkj hei hej=>h.Gm i j hi hj hli hlj hki hkj (by omega) (by omega)
   defs:=hdef
   ev:=hev}
 rcases gE ho (ok e _ ho)with q|q|q|q
 ·refine⟨μ,go μ (fun h=>by have:=q.1;omega) (fun _ _ _ h=>h) (fun j h1 h2 h3 h4=> ?_) h.defs h.ev,by rw [q.2.2.2.1];exact hH,by rw [q.2.2.2.1];exact hlen⟩;have hoj:ops.toList[j]? =some ops[j]:=(by simp [h2]);obtain⟨d,t,hd,_⟩: ∃d t,ops[j].dst=some d∧ops[j].op= .alloc t:=by
   rcases gE hoj (ok j _ hoj)with q|q|q|q
   ·have:=q.1;omega
   ·have:=q.1;omega
   ·obtain⟨d,t,h1,h2,_⟩:=jc q.2.2.2.1;exact⟨d,t,h1,h2⟩
   ·have:=q.1;omega
  exact(h.pa j _ d hoj hd h3 h4 (by omega)).2.2.2.2.1
 ·refine⟨μ,go μ (fun h=>by have:=q.1;omega) (fun _ _ _ h=>h) (fun j h1 h2 h3 h4=> ?_) h.defs h.ev,by rw [q.2.2.2.2.1];exact hH,by rw [q.2.2.2.2.1];exact hlen⟩;have hoj:ops.toList[j]? =some ops[j]:=(by simp [h2]);obtain⟨d,t,hd,_⟩: ∃d t,ops[j].dst=some d∧ops[j].op= .alloc t:=by
   rcases gE hoj (ok j _ hoj)with q|q|q|q
   ·have:=q.1;omega
   ·have:=q.1;omega
   ·obtain⟨d,t,h1,h2,_⟩:=jc q.2.2.2.1;exact⟨d,t,h1,h2⟩
   ·have:=q.1;omega
  exact(h.pa j _ d hoj hd h3 h4 (by omega)).2.2.2.2.1
 ·obtain⟨q1,q2,q3,q4,q5,q6⟩:=q;obtain⟨d,ty,hd,hop,_⟩:=jc q4;obtain⟨p1,p2,p3,p4,p5,ty',v,cs,p6,p7,p8,p9⟩:=h.pa e _ d ho hd (h2 q1) q1 (Nat.le_refl _);have hgo:gP ops[e]=none:=(by unfold gP;rw [hop]);unfold cE at q5;rw [hgo]at q5;simp only at q5;have hty:ty=ty':=(by rw [hop]at p6;cases p6;rfl);subst hty;unfold dZ at q5;rw [hop]at q5;simp only [hd,p7,p8]at q5
  cases hnew:iz (TT K rec fn ops st0 e).f d (.box cs)with
  |none=>rw [hnew]at q5;cases q5
  |some x=>
   obtain⟨nm,H1⟩:=x;rw [hnew]at q5;simp only [Option.some.injEq,Prod.mk.injEq]at q5;obtain⟨q5,q7⟩:=q5;obtain⟨rfl,g2,g3,rfl⟩:=j7 hnew;have hno: ∀t c,μ ((TT K rec fn ops st0 e).f.length-1,d) t≠some c:=fun t c hc=>by
    obtain⟨y,hy⟩:=hH.lC _ _ _ hc;rw [g3]at hy;cases hy
   have hA:=hH.BA g3 g2 (b:=pd e) p3 p5 (x:= .box cs) ⟨pd e,v.cells,ty,Mu.bu _ _ _ _,p4,p9,(fB (fo v) p8)⟩;refine⟨_,go _ (fun _ d' hd'=> ?_) (fun n t b hb=>Ek hH g3 _ _ n t b hb) (fun j h1 h2' h3' h4' nm t hm=> ?_) ⟨fun dd hdd=> ?_,h.defs.apart⟩ (h.ev.BA hno p2),by rw [←q7];exact hA,by rw [←q7,aj.length_set];exact hlen⟩
   ·rw [hd]at hd';cases hd';rw [p1,←q5];exact .ay _ _ _ (by simp only [hlen];omega) (Mu.bu _ _ _ _)
   ·have hoj:ops.toList[j]? =some ops[j]:=(by simp [h2']);obtain⟨dj,_,hdj,_⟩: ∃d t,ops[j].dst=some d∧ops[j].op= .alloc t:=by
     rcases gE hoj (ok j _ hoj)with q|q|q|q
     ·have:=q.1;omega
     ·have:=q.1;omega
     ·obtain⟨d,t,h1,h2,_⟩:=jc q.2.2.2.1;exact⟨d,t,h1,h2⟩
     ·have:=q.1;omega
    have hP:=h.pa j _ dj hoj hdj h3' h4' (by omega);by_cases en:nm=((TT K rec fn ops st0 e).f.length-1,d)
    ·subst en;by_cases et:t=0
     ·subst et;rw [Mu.bu]at hm;have:pd e=pd j:=(by simpa using hm);have:=h.Gm e j he h2' (h2 q1) h3' q1 h4' (Nat.le_refl _) (by omega) this;omega
     ·rw [Mu.cD _ _ _ et]at hm;exact hno _ _ hm
    ·rw [Mu.cW _ _ _ _ en]at hm;exact hP.2.2.2.2.1 _ _ hm
   ·obtain⟨q,k1,k2,k3,k4,k5⟩:=h.defs.each dd hdd;refine⟨q,k1,k2,k3,k4,fun nm t hm=> ?_⟩;by_cases en:nm=((TT K rec fn ops st0 e).f.length-1,d)
    ·subst en;by_cases et:t=0
     ·subst et;rw [Mu.bu]at hm;have:pd e=q:=(by simpa using hm);rw [this,k3]at p9;cases p9
     ·rw [Mu.cD _ _ _ et]at hm;exact hno _ _ hm
    ·rw [Mu.cW _ _ _ _ en]at hm;exact k5 _ _ hm
 ·exact absurd q.1 h3
theorem yA (ok : ∀ (j : Nat) (o : Oper), ops.toList[j]? = some o → lA K rec fn ops.toList (Region.before ops) st0 st0.nt j o) (hpos : 0 < st0.h.length) : ∀ (n i e : Nat) (μ : Mu), i - e = n → e ≤ i → i ≤ ops.size →
    lH K rec fn ops st0 base r w0 S0 μ0 listed a w S μ e pd → a9 w S μ (TT K rec fn ops st0 e).f → (TT K rec fn ops st0 e).f.length = st0.h.length →
    (∀ x, e ≤ x → x < i → KK K rec fn ops st0 x ≠ 3 ∧ (KK K rec fn ops st0 x = 2 → listed.getD x false = true)) →
    ∃ μ', lH K rec fn ops st0 base r w0 S0 μ0 listed a w S μ' i pd ∧ a9 w S μ' (TT K rec fn ops st0 i).f ∧ (TT K rec fn ops st0 i).f.length = st0.h.length := by
  intro n
  induction n with
  | zero => intro i e μ h1 h2 h3 h hH hl _
            have : e = i := by omega
            subst this; exact ⟨μ, h, hH, hl⟩
  | succ n ih =>
    intro i e μ h1 h2 h3 h hH hl hx
    obtain ⟨g1, g2⟩ := hx e (Nat.le_refl _) (by omega)
    obtain ⟨μ1, k1, k2, k3⟩ := Gn ok h hH hl hpos (by omega) g1 g2
    exact ih i (e + 1) μ1 (by omega) (by omega) h3 k1 k2 k3 fun x hx1 hx2 => hx x (by omega) hx2
end
end
section
section
variable {K:Ctx} {rec:Rec} {fn:FuncId} {ops:Array Oper} {st0:bN} {base:Nat} {r:Option Nat} {w0:World} {S0:Nat→Prop} {μ0:Mu}
variable {listed:Array Bool} {a:Act} {w w':World} {S S':Nat→Prop} {μ μ':Mu} {e:Nat} {pd:Nat→Nat}
theorem Gp {P:Program}{o:Oper}{ty:TypeId}{v:Value}(hop:o.op= .alloc ty)(hz:cw P ty=some (ofConst v))(w:World):
  ∃v',(execOp a.eval o).run P w= .ok (.value (.pointer (some ⟨w.heap.size,0,none⟩))) (w.alloc (.cells v'.cells ty))∧cw P ty=some (ofConst v'):=by
 obtain⟨v',h1,h2⟩:=oI (P:=P) w hz;refine⟨v', ?_,by rw [hz,h2]⟩;obtain⟨dst,op,type,pos,after,guard⟩:=o;simp only at hop;subst hop;simp [execOp,Instr.alloc,h1,newVar,newRow]
theorem BK {s:aZ}{H H':aj}{v:GV}{o:Oper}(ha:cF o=true)(h:cE K rec fn o s H=some (v,H')):
  ∃d ty z cs,o.dst=some d∧o.op= .alloc ty∧o.guard=none∧cw K.P ty=some (ofConst z)∧bC (ofConst z)=some cs:=by
 obtain⟨d,ty,h1,h2,h3⟩:=jc ha;have hgo:gP o=none:=(by unfold gP;rw [h2]);unfold cE at h;rw [hgo]at h;simp only at h;unfold dZ at h;rw [h2]at h;simp only [h1]at h
 cases hz:cw K.P ty with
 |none=>rw [hz]at h;cases h
 |some z=>
  have hz': ∃zv,z=ofConst zv:=by
   unfold cw at hz;split at hz
   ·split at hz
    ·rename_i zv _;exact⟨zv,by simpa using hz.symm⟩
    ·cases hz
   ·cases hz
  obtain⟨zv,rfl⟩:=hz';rw [hz]at h;simp only at h
  cases hc:bC (ofConst zv)with
  |none=>rw [hc]at h;cases h
  |some cs=>exact⟨d,ty,zv,cs,h1,h2,h3,hz,hc⟩
theorem uQ {i:Nat} {o:Oper} {Kn:Act→World→Prop} {Q:Exit→Act→World→Prop} {P:Program} (ho:ops[i]? =some o) {b:Bool} (hw:Region.wanted o (yielded ops a.tmps)=b)
  (h:if b then o.wpIn (Fw r) 0 P a w Kn Q else Kn (a.put o.dst undef) w):wpOpIn (Fw r) 0 P ops Q i Kn a w:=by
 unfold wpOpIn;simp only [ho,hw]
 cases b with
 |true=>simpa using h
 |false=>simp only [Bool.false_eq_true,if_false]at h⊢;exact⟨fun _ _=>trivial,h⟩
theorem BL (D:wC K fn ops.toList (Region.before ops)) (ok: ∀(j:Nat) (o:Oper),ops.toList[j]? =some o→lA K rec fn ops.toList (Region.before ops) st0 st0.nt j o) (hpos:0<st0.h.length)
  (h:lH K rec fn ops st0 base r w0 S0 μ0 listed a w S μ e pd) (hH:a9 w S μ (TT K rec fn ops st0 e).f) (hlen:(TT K rec fn ops st0 e).f.length=st0.h.length) (hall: ∀j,j<ops.size→listed.getD j false=true)
  {st':bN} (h1:st'.s=(TT K rec fn ops st0 ops.size).s) (h2:st'.h=(TT K rec fn ops st0 ops.size).f) (h3:st'.nt=st0.nt):lF base r st0 w0 S0 μ0 .normal st' .normal a w:=by
 obtain⟨μ',k1,k2,k3⟩:=yA ok hpos _ ops.size e μ rfl h.le (Nat.le_refl _) h hH hlen fun x hx hx2=>by
  refine⟨fun h4=> ?_,fun _=>hall x hx2⟩;have:=(h.ww x hx2 h4).1 (hall x hx2);omega
 refine⟨rfl,by rw [h2,k3],h3,S,μ',⟨by rw [h2];exact k2,fun t=> ?_,by rw [h3];exact k1.nt,by rw [h2,k3];exact hpos,k1.low,k1.defs,k1.round⟩,k1.ev.level (by omega)⟩;rw [h2,k3,h1];rcases Ez K rec fn ops.toList (Region.before ops) st0 st0.nt ok D.nodup ops.size t (by simp)with ⟨j,oj,q1,q2,q3,q4⟩|⟨q1,q2⟩
 ·show aC w S μ' _ _ (look (dT K rec fn ops.toList st0 ops.size).s t)
  rw [q4];exact k1.v1 j oj t q2 q3 (hall j q1) fun _=>q1
 ·show aC w S μ' _ _ (look (dT K rec fn ops.toList st0 ops.size).s t)
  rw [q2];refine k1.v0 t fun j oj hj hlj=>q1 j oj ?_ hj;have:=(List.getElem?_eq_some_iff.1 hj).1;simpa using this
theorem IX (hK:iJ K) (hrec:lS K.P rec) (D:wC K fn ops.toList (Region.before ops)) (ok: ∀(j:Nat) (o:Oper),ops.toList[j]? =some o→lA K rec fn ops.toList (Region.before ops) st0 st0.nt j o) (hpos:0<st0.h.length)
  {st':bN} (z1:st'.s=(TT K rec fn ops st0 ops.size).s) (z2:st'.h=(TT K rec fn ops st0 ops.size).f) (z3:st'.nt=st0.nt):
  ∀(fuel:Nat) (listed:Array Bool) (a:Act) (w:World) (S:Nat→Prop) (μ:Mu) (e:Nat) (pd:Nat→Nat),lB listed ops.size≤fuel→lH K rec fn ops st0 base r w0 S0 μ0 listed a w S μ e pd→
   a9 w S μ (TT K rec fn ops st0 e).f→(TT K rec fn ops st0 e).f.length=st0.h.length→(TT K rec fn ops st0 e).f=(TT K rec fn ops st0 e).b→
   wpAnyIn (Fw r) 0 K.P .any ops (lF base r st0 w0 S0 μ0 .normal st') fuel listed a w:=by
 intro fuel
 induction fuel with
 |zero=>
  intro listed a w S μ e pd hu h hH hlen hfb;have hall:=xg (Nat.le_zero.1 hu);refine⟨?_,BL D ok hpos h hH hlen hall z1 z2 z3⟩
  cases hr:Region.ready .any ops listed with
  |nil=>rfl
  |cons i l=>
   obtain⟨g1,g2,_⟩:=mP (i:=i) (by rw [hr];exact List.mem_cons_self ..) h.sz;rw [hall i g2]at g1;cases g1
 |succ fuel ih=>
  intro listed a w S μ e pd hu h hH hlen hfb;refine⟨fun hr=>BL D ok hpos h hH hlen (DF h.sz (fun j o hj=>D.back j o (toList_get.2 hj)) hr) z1 z2 z3,fun i hi=> ?_⟩;obtain⟨hl,hin,o,ho,ho2,haft⟩:=mP hi h.sz;have hbefore: ∀b,((Region.before ops).getD i 0).testBit b=true→listed.getD b false=true:=fun b hb=>jX h.Xr i b hb fun o' ho' ed hed hbe=>by
   rw [ho2]at ho';cases ho';exact haft ed hed hbe
  have hs:=ok i o ho;have hul:=BG hin h.sz hl;have hguard: ∀b,dy ops.toList (TT K rec fn ops st0 i).s o=some b→Region.wanted o (yielded ops a.tmps)=b:=fun b hb=>by
   have h1: ∀t,t∈mK ops.toList o→aC w S μ (st0.h.length-1) (a.tmps.getD t undef) (look (TT K rec fn ops st0 i).s t):=fun t ht=>by
    refine zJ D ok h hi ho (.inr ht) fun j oj hj hd hk hji=> ?_;exfalso;have hja:cF oj=true:=by
     rcases gE hj (ok j _ hj)with q|q|q|q
     ·have:=q.1;omega
     ·have:=q.1;omega
     ·exact q.2.2.2.1
     ·have:=q.1;omega
    exact D.acd j i oj o t hj ho hd hja ht
   have h2:=wD (mK ops.toList o) h1;have h3:dy ops.toList (bh (TT K rec fn ops st0 i).s (mK ops.toList o)) o=some b:=by
    rw [←hb];exact xh fun t ht=>fQ _ t _ ht
   have:=te h2 h3;simpa using this
  rcases gE ho hs with q|q|q|q
  ·
   refine uQ ho2 (hguard false q.2.1) ?_;simp only [Bool.false_eq_true,if_false];have h':=lH.put D h hi ho hs.dst undef (e':=e) (fun _=>by rw [q.2.2.1];exact yj) (fun h2=>by have:=q.1;omega) (.inl ⟨by rw [q.1];omega,rfl⟩);exact ih _ _ w S μ e pd (by omega) h' hH hlen hfb
  ·
   refine uQ ho2 (hguard true q.2.1) ?_;simp only [if_true];obtain⟨hp,hg⟩:=Nz ok h hi ho q.1;rw [←hfb]at hg;have hslots:=wD (a:=a) (w:=w) (S:=S) (μ:=μ) (k:=st0.h.length-1) (s:=(TT K rec fn ops st0 i).s) (jB K fn o) fun t ht=>zJ D ok h hi ho (.inl ht) fun j oj hj hd hk hji=>by
    exfalso;have hja:cF oj=true:=by
     rcases gE hj (ok j _ hj)with q|q|q|q
     ·have:=q.1;omega
     ·have:=q.1;omega
     ·exact q.2.2.2.1
     ·have:=q.1;omega
    have:=(D.ace j i oj o t hj ho hd hja ht).1;rw [hp]at this;cases this
   have hgo:gP o=none:=by
    cases hgc:gP o with
    |none=>rfl
    |some x=>
     exfalso;obtain⟨dst,op,type,pos,after,guard⟩:=o;unfold gP at hgc;simp only at hgc;split at hgc
     ·unfold cn at hp;simp at hp
     ·cases hgc
   have hstep:cE K rec fn o (bh (TT K rec fn ops st0 i).s (jB K fn o)) (TT K rec fn ops st0 e).f=some (VV K rec fn ops st0 i,(TT K rec fn ops st0 e).f):=by
    rw [ug K (s':=(TT K rec fn ops st0 i).s) fun t ht=>fQ _ t _ ht];unfold cE;rw [hgo];exact hg
   rw [←hlen]at hslots;refine uI K hK hrec hH (by rw [hlen];exact hpos) hslots hstep fun u w' S' μ' hv hh he hl'=> ?_;rw [hlen]at he hv;have h1:=h.step hH.slt he;have h':=lH.put D h1 hi ho hs.dst u (e':=e) (fun _=>hv) (fun h2=>by have:=q.1;omega) (.inl ⟨by rw [q.1];omega,rfl⟩);exact ih _ _ w' S' μ' e pd (by omega) h' hh hlen hfb
  ·
   obtain⟨q1,q2,q3,q4,q5,q6⟩:=q;refine uQ ho2 (hguard true q2) ?_;simp only [if_true];obtain⟨d,ty,z,cs,hd,hop,hgu,hz,hc⟩:=BK q4 q5;refine⟨fun _ _=>trivial, ?_⟩;rw [Oper.semAt_eq _ _ _ (fun c e=>by rw [hop]at e;cases e)];obtain⟨v',hrun,hz'⟩:=Gp (a:=a) (P:=K.P) hop hz w;rw [hrun,Oper.uponIn_value];obtain⟨s1,s2⟩:=hH.skip (st0.h.length-1) (.cells v'.cells ty);have h1:=(h.step hH.slt s2).acg hl w.heap.size;have hc':bC (ofConst v')=some cs:=by
    rw [hz]at hz';simp only [Option.some.injEq]at hz';rw [←hz'];exact hc
   have h':=lH.put D h1 hi ho hs.dst (.pointer (some ⟨w.heap.size,0,none⟩)) (e':=e) (fun h2=>absurd q1 h2) (fun _=>⟨⟨by simp,by simp only [if_true];exact h.ev.size,by simp only [if_true];rw [ct];omega,
     by simp only [if_true];exact fun hs=>by have:=hH.slt _ hs;omega,by simp only [if_true];exact fun nm t hm=>by have:=hH.lt _ _ _ hm;omega,ty,v',cs,hop,hz',hc',by simp only [if_true];exact cO _ _⟩,
     fun j hj hlj hk hle=>by
      have hne:j≠i:=fun e1=>(by rw [e1,hl]at hlj;cases hlj);simp only [if_true,if_neg hne];have hoj:ops.toList[j]? =some ops[j]:=(by simp [hj]);obtain⟨dj,hdj⟩: ∃d,ops[j].dst=some d:=by
       rcases gE hoj (ok j _ hoj)with q|q|q|q
       ·have:=q.1;omega
       ·have:=q.1;omega
       ·obtain⟨d,t,h1,h2,_⟩:=jc q.2.2.2.1;exact⟨d,h1⟩
       ·have:=q.1;omega
      have:=(h.pa j _ dj hoj hdj hlj hk hle).2.2.1;omega⟩) (.inl ⟨by rw [q1];omega,rfl⟩)
   exact ih _ _ _ S μ e _ (by omega) h' s1 hlen hfb
  ·
   obtain⟨q1,q2,q3,q4,q5,q6⟩:=q;refine uQ ho2 (hguard true q2) ?_;simp only [if_true];have hei:e≤i:=by
    rcases Nat.lt_or_ge i e with h'|h'
    ·have:=(h.ww i hin q1).2 h';rw [hl]at this;cases this
    ·exact h'
   obtain⟨μ1,k1,k2,k3⟩:=yA ok hpos _ i e μ rfl hei (by omega) h hH hlen fun x hx hx2=>by
    have hox:ops.toList[x]? =some ops[x]:=by simp [show x<ops.size by omega]
    refine⟨fun h3=> ?_,fun h2=> ?_⟩
    ·have:=(h.ww x (by omega) h3).1 (hbefore x (hs.ww q1 x hx2 h3));omega
    ·have hxa:cF ops[x]=true:=by
      rcases gE hox (ok x _ hox)with q|q|q|q
      ·have:=q.1;omega
      ·have:=q.1;omega
      ·exact q.2.2.2.1
      ·have:=q.1;omega
     exact hbefore x (D.acf x i _ o hox ho hxa q3 q4 hx2)
   have hslots:=wD (a:=a) (w:=w) (S:=S) (μ:=μ1) (k:=st0.h.length-1) (s:=(TT K rec fn ops st0 i).s) (jB K fn o) fun t ht=>zJ D ok k1 hi ho (.inl ht) fun j oj hj hd hk hji=>hji;have hstep:cE K rec fn o (bh (TT K rec fn ops st0 i).s (jB K fn o)) (TT K rec fn ops st0 i).f=some (VV K rec fn ops st0 i,(TT K rec fn ops st0 (i+1)).f):=by
    rw [ug K (s':=(TT K rec fn ops st0 i).s) fun t ht=>fQ _ t _ ht];exact q5
   rw [←k3]at hslots;refine uI K hK hrec k2 (by rw [k3];exact hpos) hslots hstep fun u w' S' μ' hv hh he hl'=> ?_;rw [k3]at he;rw [hl',k3]at hv;have h1:=k1.step k2.slt he;have h':=lH.put D h1 hi ho hs.dst u (e':=i+1) (fun _=>hv) (fun h2=>by rw [q1]at h2;cases h2) (.inr ⟨q1,rfl,rfl⟩);exact ih _ _ w' S' μ' (i+1) pd (by omega) h' hh (by rw [hl',k3]) q6.symm
theorem a9.draw {H:aj}(h:a9 w S μ H)(n:Nat):a9 {w with drawn:=n} S μ H:=
 ⟨fun nm x hx t b hb=>gJ.mono (w:=w) (w':={heap:=w.heap,tape:=w.tape,drawn:=n,os:=w.os,output:=w.output}) (S:=S) (S':=S) (μ:=μ) (μ':=μ) (fun _ h=>h) (fun _ _=>rfl) (fun _ _ h=>h) (fun _ _ _ _ h=>h) (fun _=>rfl) (fun _ _ _=>rfl) (fun _ _ _ h=>h) (h.jd nm x hx t b hb),h.lC,h.iI,h.lt,h.slt⟩
theorem Ev.draw (ℓ n:Nat):Ev ℓ w S μ {w with drawn:=n} S μ:=
 ⟨rfl,rfl,rfl,Nat.le_refl _,fun _ h=>h,fun _ _ _=>rfl,fun _ _ h=>h,fun _ r h=>⟨r,h⟩,fun _ _ _ _ h=>h,fun nm t _ h _=>⟨nm,t,h⟩,fun _ h _=> .inl h⟩
end
theorem IY (K:Ctx)(hK:iJ K):BB K:=by
 intro rec hrec fn id ops st e st' h base r w S μ a hst;simp only [cM]at h;split at h
 ·rename_i hd;split at h
  ·rename_i st1 a8;simp only [Option.some.injEq,Prod.mk.injEq]at h;obtain⟨rfl,rfl⟩:=h;have D:=BI K hd;obtain⟨g1,g2,g3,g4⟩:=BE K rec fn ops.toList (Region.before ops) st ops.toList 0 [] [] st.h st rfl rfl rfl rfl rfl (fun x h=>by omega) (fun q h=>by omega) a8;have hlen:ops.toList.length=ops.size:=(by simp);rw [hlen]at g2 g3;refine wpIn_region_any hK.mixed ?_;have hE:Ev (st.h.length-1) w S μ {w with drawn:=w.drawn+1} S μ:=Ev.draw _ _;have hfalse: ∀j,(Array.replicate ops.size false).getD j false=false:=fun j=>by
    rw [Array.getD_eq_getD_getElem?];by_cases hj:j<ops.size
    ·simp [hj]
    ·simp [hj]
   refine IX (base:=base) (r:=r) (w0:=w) (S0:=S) (μ0:=μ) hK hrec D (fun j o ho=>g1 j o (by omega) ho) hst.pos g2 g3 g4 ops.size (Array.replicate ops.size false) a
    {w with drawn:=w.drawn+1} S μ 0 (fun _=>0) ?_ ?_ ?_ ?_ ?_
   ·unfold lB;refine Nat.le_trans (List.length_filter_le _ _) (by simp)
   ·refine⟨by simp,fun j o _ hl=> ?_,Nat.zero_le _,fun j _ _=> ?_,fun j h=>by omega,fun j o d _ _ hl=> ?_,fun t _=> ?_,fun j o d _ _ hl=> ?_,fun i j _ _ hl=> ?_,hst.nt,hst.low,hst.defs.ev hE,o0 hst.round hE,hE⟩
    ·rw [hfalse]at hl;cases hl
    ·rw [hfalse];simp
    ·rw [hfalse]at hl;cases hl
    ·exact hE.val hst.heap.slt (Nat.le_refl _) (hst.ez t)
    ·rw [hfalse]at hl;cases hl
    ·rw [hfalse]at hl;cases hl
   ·exact hst.heap.draw _
   ·rfl
   ·rfl
  ·cases h
 ·cases h
theorem j9 (K:Ctx)(hK:iJ K)(n:Nat):lS K.P (c9 K n):=IT K hK (IY K hK) n
end
section
section
variable (K:Ctx) {rec:Rec} {F:Nat→Rec}
def pM {α:Type}(F:Nat→Rec)(X:Rec→Option α)(r:α):Prop:= ∃N,∀n,N≤n→X (F n)=some r
theorem pM.const {α:Type}{x:Option α}{r:α}(h:x=some r):pM F (fun _=>x) r:=⟨0,fun _ _=>h⟩
def Lim (rec:Rec)(F:Nat→Rec):Prop:= ∀fn c st r,rec fn c st=some r→pM F (fun rec=>rec fn c st) r
variable (hF:Lim rec F)
include hF
theorem nH {f:FuncId}{args:List GV}{c:Nat}{H:aj}{r:GV×aj}(h:bK K rec f args c H=some r):pM F (fun rec=>bK K rec f args c H) r:=by
 unfold bK at h;split at h
 ·cases h
 ·rename_i fn hfn;split at h
  ·cases h
  ·rename_i code hcode;split at h
   ·cases h
   ·rename_i hc
    cases hr:rec f code ⟨slotsOf 0 (args.map canon),[]::H,fn.ntmps⟩with
    |none=>rw [hr]at h;cases h
    |some x=>
     rw [hr]at h;obtain⟨N,hN⟩:=hF _ _ _ _ hr;refine⟨N,fun n hn=> ?_⟩;have:=hN n hn;simp only at this;simp only [bK,hfn,hcode,hc,if_false,this];exact h
theorem BM {f:FuncId}{args:List GV}{c:Nat}{H:aj}{r:GV×aj}(h:iP K rec f args c H=some r):pM F (fun rec=>iP K rec f args c H) r:=by
 unfold iP at h;split at h
 ·cases h
 ·rename_i hn;split at h
  ·rename_i v H0 hg;obtain⟨N,hN⟩:=nH K hF hg;refine⟨N,fun n hn'=> ?_⟩;have:=hN n hn';simp only at this;simp only [iP,hn,this];exact h
  ·cases h
 ·rename_i nm hn;split at h
  ·rename_i cs hbx;split at h
   ·cases h
   ·rename_i hcs;split at h
    ·rename_i v H0 hg;obtain⟨N,hN⟩:=nH K hF hg;refine⟨N,fun n hn'=> ?_⟩;have:=hN n hn';simp only at this;simp only [iP,hn,hbx,hcs,if_false,this];exact h
    ·cases h
  ·cases h
theorem sH {f:FuncId}{args:List GV}{c:Nat}{H:aj}{r:GV×aj}(h:aL K rec f args c H=some r):pM F (fun rec=>aL K rec f args c H) r:=by
 unfold aL at h⊢;split at h
 ·rename_i hc;simp only [hc,if_true];exact .const h
 ·rename_i hc;simp only [hc,if_false];split at h
  ·rename_i hb;simp only [hb,if_true];exact BM K hF h
  ·rename_i hb;simp only [hb,if_false];split at h
   ·rename_i hf;simp only [hf,if_true];exact nH K hF h
   ·rename_i hf;simp only [hf,if_false];exact nH K hF h
theorem DG {nm:Nm}{args:List GV}{H:aj}{r:GV×aj}(h:ground rec nm args H=some r):pM F (fun rec=>ground rec nm args H) r:=by
 unfold ground at h;split at h
 ·rename_i l hl;split at h
  ·rename_i hs;split at h
   ·rename_i s hp;split at h
    ·rename_i st ha;obtain⟨N1,h1⟩:=hF _ _ _ _ ha;split at h
     ·rename_i fr H1 hst;split at h
      ·rename_i l1 hl1;split at h
       ·cases h
       ·rename_i hl1s
        cases hb:rec l.fn l.body ⟨st.s,fr::aj.set H1 nm (.loop {l1 with state:= .busy}),l.nt⟩with
        |none=>rw [hb]at h;cases h
        |some x=>
         rw [hb]at h;obtain⟨N2,h2⟩:=hF _ _ _ _ hb;refine⟨max N1 N2,fun n hn=> ?_⟩;have e1:=h1 n (by omega);have e2:=h2 n (by omega);simp only at e1 e2;simp only [ground,hl,hs,hp,e1,hst,hl1,hl1s,if_true,if_false,e2];exact h
      ·cases h
     ·cases h
    ·cases h
   ·cases h
  ·cases h
 ·cases h
theorem wF {f:GV}{args:List GV}{c:Nat}{H:aj}{r:GV×aj}(h:mV K rec f args c H=some r):pM F (fun rec=>mV K rec f args c H) r:=by
 unfold mV at h;split at h
 ·exact sH K hF h
 ·exact sH K hF h
 ·cases h
theorem uh {f:GV}{args:List GV}{c:Nat}{H:aj}{r:GV×aj}(h:dJ K rec f args c H=some r):pM F (fun rec=>dJ K rec f args c H) r:=by
 unfold dJ at h⊢;split at h
 ·exact DG hF h
 ·exact wF K hF h
theorem yB {fn:FuncId}{o:Oper}{s:aZ}{H:aj}{r:GV×aj}(h:cE K rec fn o s H=some r):pM F (fun rec=>cE K rec fn o s H) r:=by
 unfold cE at h⊢;split at h
 ·rename_i f args hg
  cases hl:K.lift fn (o.dst.getD 0)with
  |none=>
   rw [hl]at h;simp only at h⊢;exact uh K hF h
  |some t=>
   rw [hl]at h;simp only at h⊢;split at h
   ·rename_i x hx;obtain⟨N,hN⟩:=uh K hF hx;refine⟨N,fun n hn=> ?_⟩;have:=hN n hn;simp only at this;simp only [this];exact h
   ·cases h
 ·exact .const h
theorem wG {fn:FuncId}{all:List Oper}: ∀{ops:List Oper} {st st':bN},qI K rec fn all ops st=some st'→pM F (fun rec=>qI K rec fn all ops st) st'
 | [],st,st',h=> .const h
 |o::r,st,st',h=>by
  simp only [qI]at h;split at h
  ·rename_i hw;split at h
   ·rename_i st1 hp;obtain⟨N,hN⟩:=wG h;refine⟨N,fun n hn=> ?_⟩;simp only [qI,hw,hp];exact hN n hn
   ·cases h
  ·rename_i hw;split at h
   ·rename_i v H hs;obtain⟨N1,h1⟩:=yB K hF hs;split at h
    ·rename_i st1 hp;obtain⟨N,hN⟩:=wG h;refine⟨max N1 N,fun n hn=> ?_⟩;have e1:=h1 n (by omega);simp only at e1;simp only [qI,hw,e1,hp];exact hN n (by omega)
    ·cases h
   ·cases h
  ·cases h
theorem kQ {fn:FuncId}{all:List Oper}{pre:Array Nat}: ∀{ops:List Oper} {i:Nat} {wl:List (Nat×aj)} {rl:List CS} {hb:aj} {st st':bN},ia K rec fn all pre i ops wl rl hb st=some st'→
  pM F (fun rec=>ia K rec fn all pre i ops wl rl hb st) st'
 | [],i,wl,rl,hb,st,st',h=> .const h
 |o::r,i,wl,rl,hb,st,st',h=>by
  simp only [ia]at h;split at h
  ·rename_i hw;split at h
   ·rename_i st1 hp;obtain⟨N,hN⟩:=kQ h;refine⟨N,fun n hn=> ?_⟩;simp only [ia,hw,hp];exact hN n hn
   ·cases h
  ·rename_i hw;split at h
   ·rename_i hpure;split at h
    ·rename_i v Hx hop;split at h
     ·rename_i st1 hput;split at h
      ·rename_i hR;split at h
       ·rename_i hall;obtain⟨N,hN⟩:=kQ h;refine⟨N,fun n hn=> ?_⟩;simp only [ia,hw,hpure,hop,hput,hR,hall,if_true];exact hN n hn
       ·cases h
      ·rename_i hR;obtain⟨N,hN⟩:=kQ h;refine⟨N,fun n hn=> ?_⟩;simp only [ia,hw,hpure,hop,hput,hR,if_true,if_false,Bool.false_eq_true];exact hN n hn
     ·cases h
    ·cases h
   ·rename_i hpure;split at h
    ·rename_i v H hs;obtain⟨N1,h1⟩:=yB K hF hs;split at h
     ·rename_i st1 hput;split at h
      ·rename_i ha;obtain⟨N,hN⟩:=kQ h;refine⟨max N1 N,fun n hn=> ?_⟩;have e1:=h1 n (by omega);simp only at e1;simp only [ia,hw,hpure,e1,hput,ha,if_true,if_false,Bool.false_eq_true];exact hN n (by omega)
      ·rename_i ha;split at h
       ·rename_i hall;obtain⟨N,hN⟩:=kQ h;refine⟨max N1 N,fun n hn=> ?_⟩;have e1:=h1 n (by omega);simp only at e1;simp only [ia,hw,hpure,e1,hput,ha,hall,if_true,if_false,Bool.false_eq_true];exact hN n (by omega)
       ·cases h
     ·cases h
    ·cases h
  ·cases h
theorem tj {fn:FuncId}{c:Code}{st:bN}{r:GX×bN}(h:cM K rec fn c st=some r):pM F (fun rec=>cM K rec fn c st) r:=by
 unfold cM at h;split at h
 ·exact .const h
 ·exact .const h
 ·rename_i id ops
  cases hg:qI K rec fn ops.toList ops.toList st with
  |none=>rw [hg]at h;cases h
  |some st1=>
   rw [hg]at h;obtain⟨N,hN⟩:=wG K hF hg;refine⟨N,fun n hn=> ?_⟩;have:=hN n hn;simp only at this;simp only [cM,this];exact h
 ·rename_i id ops;split at h
  ·rename_i hd
   cases hg:ia K rec fn ops.toList (Region.before ops) 0 ops.toList [] [] st.h st with
   |none=>rw [hg]at h;cases h
   |some st1=>
    rw [hg]at h;obtain⟨N,hN⟩:=kQ K hF hg;refine⟨N,fun n hn=> ?_⟩;have:=hN n hn;simp only at this;simp only [cM,hd,this,if_true];exact h
  ·cases h
 ·rename_i a b
  cases ha:rec fn a st with
  |none=>rw [ha]at h;cases h
  |some x=>
   obtain⟨e,st1⟩:=x;obtain⟨N1,h1⟩:=hF _ _ _ _ ha;rw [ha]at h
   cases e with
   |normal=>
    simp only at h;obtain⟨N2,h2⟩:=hF _ _ _ _ h;refine⟨max N1 N2,fun n hn=> ?_⟩;have e1:=h1 n (by omega);have e2:=h2 n (by omega);simp only at e1 e2;simp only [cM,e1,e2]
   |exit id=>exact⟨N1,fun n hn=>by have e1:=h1 n hn;simp only at e1;simp only [cM,e1];exact h⟩
   |ret=>exact⟨N1,fun n hn=>by have e1:=h1 n hn;simp only at e1;simp only [cM,e1];exact h⟩
 ·rename_i c x y;split at h
  ·rename_i b hb
   cases b with
   |true=>
    obtain⟨N,hN⟩:=hF _ _ _ _ (by simpa using h);exact⟨N,fun n hn=>by have:=hN n hn;simp only at this;simp only [cM,hb,if_true,this]⟩
   |false=>
    obtain⟨N,hN⟩:=hF _ _ _ _ (by simpa using h);exact⟨N,fun n hn=>by have:=hN n hn;simp only at this;simp only [cM,hb,Bool.false_eq_true,if_false,this]⟩
  ·cases h
 ·rename_i id c
  cases hc:rec fn c st with
  |none=>rw [hc]at h;cases h
  |some x=>
   obtain⟨N,hN⟩:=hF _ _ _ _ hc;rw [hc]at h;exact⟨N,fun n hn=>by have:=hN n hn;simp only at this;simp only [cM,this];exact h⟩
 ·rename_i c;simp only at h
  cases hc:rec fn c {st with s:=kf ((K.ig fn (aX c)).map (·.1)) st.s,h:=[]::st.h}with
  |none=>rw [hc]at h;cases h
  |some x=>
   obtain⟨e,st1⟩:=x;obtain⟨N1,h1⟩:=hF _ _ _ _ hc;rw [hc]at h
   cases e with
   |normal=>
    simp only at h
    cases hs:vU K fn c st1 with
    |none=>rw [hs]at h;cases h
    |some st2=>
     rw [hs]at h;simp only at h;obtain⟨N2,h2⟩:=hF _ _ _ _ h;refine⟨max N1 N2,fun n hn=> ?_⟩;have e1:=h1 n (by omega);have e2:=h2 n (by omega);simp only at e1 e2;simp only [cM,e1,hs,e2]
   |exit id=>exact⟨N1,fun n hn=>by have e1:=h1 n hn;simp only at e1;simp only [cM,e1];exact h⟩
   |ret=>exact⟨N1,fun n hn=>by have e1:=h1 n hn;simp only at e1;simp only [cM,e1];exact h⟩
 ·obtain⟨N,hN⟩:=hF _ _ _ _ h;exact⟨N,fun n hn=>by have:=hN n hn;simp only at this;simp only [cM,this]⟩
 ·exact .const h
 ·exact .const h
 ·rename_i f ps assign body;simp only at h;split at h
  ·rename_i nm H hn
   cases hg:mV K rec (ev st.s f) [.yield nm] 0 H with
   |none=>rw [hg]at h;cases h
   |some x=>
    obtain⟨N,hN⟩:=wF K hF hg;rw [hg]at h;refine⟨N,fun n hnn=> ?_⟩;have:=hN n hnn;simp only at this;simp only [cM,hn,this];exact h
  ·cases h
 ·cases h
end
section
variable (K:Ctx)
theorem mX: ∀m,Lim (c9 K m) (c9 K)
 |0=>fun fn c st r h=>by simp [c9]at h
 |m+1=>fun fn c st r h=>by
  obtain⟨N,hN⟩:=tj K (mX m) h;refine⟨N+1,fun n hn=> ?_⟩;obtain⟨k,rfl⟩: ∃k,n=k+1:=⟨n-1,by omega⟩;exact hN k (by omega)
open Classical in
noncomputable def aE:Rec:=fun fn c st=>if h: ∃r,pM (c9 K) (fun rec=>rec fn c st) r then some (Classical.choose h)else none
theorem kJ {fn:FuncId}{c:Code}{st:bN}{r:GX×bN}:aE K fn c st=some r↔pM (c9 K) (fun rec=>rec fn c st) r:=by
 unfold aE;constructor
 ·intro h;split at h
  ·rename_i hx;cases h;exact Classical.choose_spec hx
  ·cases h
 ·intro h;have hx: ∃r,pM (c9 K) (fun rec=>rec fn c st) r:=⟨r,h⟩;rw [dif_pos hx];obtain⟨N1,h1⟩:=h;obtain⟨N2,h2⟩:=Classical.choose_spec hx;have e1:=h1 (max N1 N2) (by omega);have e2:=h2 (max N1 N2) (by omega);rw [←e2,←e1]
theorem fj (fn:FuncId)(c:Code)(st:bN):aE K fn c st=cM K (aE K) fn c st:=by
 refine Option.ext fun r=> ?_;constructor
 ·intro h;obtain⟨N,hN⟩:=(kJ K).1 h;have h1:cM K (c9 K N) fn c st=some r:=hN (N+1) (by omega);have hL:Lim (c9 K N) (fun _=>aE K):=fun fn c st r h=>⟨0,fun _ _=>(kJ K).2 (mX K N fn c st r h)⟩;obtain⟨M,h2⟩:=tj K hL h1;exact h2 M (Nat.le_refl _)
 ·intro h;obtain⟨N,hN⟩:=tj K (F:=c9 K) (fun fn c st r h=>(kJ K).1 h) h;refine(kJ K).2 ⟨N+1,fun n hn=> ?_⟩;obtain⟨k,rfl⟩: ∃k,n=k+1:=⟨n-1,by omega⟩;exact hN k (by omega)
theorem AZ (hK:iJ K):lS K.P (aE K):=fun fn c st e st' h=>by
 obtain⟨N,hN⟩:=(kJ K).1 h;exact j9 K hK N fn c st e st' (hN N (Nat.le_refl _))
end
end
section
def IZ (K:Ctx)(fn:FuncId)(o:Oper):Bool:= !cn K fn o && !cF o
def xi (K:Ctx)(fn:FuncId)(o:Oper):Bool:=cn K fn o && Fp o
def I1 (K:Ctx)(fn:FuncId)(L:List (Nat×Nat))(all:List Oper)(pre:Array Nat):Bool:=
 all.zipIdx.all fun(oi,i)=>all.zipIdx.all fun(oq,q)=>
  decide (i≤q)||(pre.getD i 0).testBit q||
   ((!(IZ K fn oi && IZ K fn oq)) && (L.contains (i,q)||(!(IZ K fn oi && xi K fn oq) && !(xi K fn oi && IZ K fn oq))))
structure ZS where
 i:Nat
 o:Oper
 s:aZ
 v:GV
 h:aj
section
variable (K:Ctx) (fn:FuncId)
def lU (nt:Nat):Option Tmp→Prop
 |none=>True
 |some d=>d<nt
def mh {α:Type}(x:Option α)(k:α→Prop):Prop:= ∃r,x=some r∧k r
def qa (all:List Oper):List Oper→bN→(bN→Prop)→Prop
 | [],st,Q=>Q st
 |o::r,st,Q=>
  mh (dy all st.s o) fun b=>
   if b=false then lU st.nt o.dst∧qa all r ⟨lG st.s o.dst ly,st.h,st.nt⟩ Q
   else mh (cE K (aE K) fn o st.s st.h) fun x=>lU st.nt o.dst∧qa all r ⟨lG st.s o.dst x.1,x.2,st.nt⟩ Q
def jx (all:List Oper)(L:List (Nat×Nat)):Nat→List Oper→List ZS→List (Nat×aj)→aj→bN→(bN→Prop)→Prop
 |_,[],_,_,_,st,Q=>Q st
 |i,o::r,obl,old,hb,st,Q=>
  mh (dy all st.s o) fun b=>
   if b=false then lU st.nt o.dst∧jx all L (i+1) r obl old hb ⟨lG st.s o.dst ly,st.h,st.nt⟩ Q
   else if cn K fn o=true then
    mh (dZ K fn o st.s hb) fun x=>lU st.nt o.dst∧(∀y∈old,y.1=i→y.2=hb∨sameAt K fn o st.s x.1 y.2=true)∧
     jx all L (i+1) r ((L.filter fun p=>p.2==i).map (fun p=>⟨p.1,o,st.s,x.1,hb⟩)++obl) old hb ⟨lG st.s o.dst x.1,st.h,st.nt⟩ Q
   else
    mh (cE K (aE K) fn o st.s st.h) fun x=>lU st.nt o.dst∧
     if cF o=true then jx all L (i+1) r obl old hb ⟨lG st.s o.dst x.1,x.2,st.nt⟩ Q
     else (∀y∈obl,y.i=i→x.2=y.h∨sameAt K fn y.o y.s y.v x.2=true)∧
      jx all L (i+1) r obl ((L.filter fun p=>p.2==i).map (fun p=>(p.1,hb))++old) x.2 ⟨lG st.s o.dst x.1,x.2,st.nt⟩ Q
theorem sk {st:bN}{d:Option Tmp}(v:GV)(h:lU st.nt d):st.put d v=some ⟨lG st.s d v,st.h,st.nt⟩:=by
 cases d with
 |none=>rfl
 |some d=>simp only [lU]at h;simp only [bN.put,h,if_true,lG]
theorem o7 {all:List Oper}{Q:bN→Prop}: ∀{ops:List Oper} {st:bN},qa K fn all ops st Q→ ∃st',qI K (aE K) fn all ops st=some st'∧Q st'
 | [],st,h=>⟨st,rfl,h⟩
 |o::r,st,h=>by
  simp only [qa]at h;obtain⟨b,hw,h⟩:=h
  cases b with
  |false=>
   simp only [if_true]at h;obtain⟨st',g1,g2⟩:=o7 h.2;exact⟨st',by simp only [qI,hw,sk _ h.1];exact g1,g2⟩
  |true=>
   simp only [Bool.true_eq_false,if_false]at h;obtain⟨⟨v,H⟩,hg,h1,h2⟩:=h;obtain⟨st',g1,g2⟩:=o7 h2;exact⟨st',by simp only [qI,hw,hg,sk (st:=⟨st.s,H,st.nt⟩) v h1];exact g1,g2⟩
theorem yC {o:Oper}{s:aZ}{v:GV}{H Hx:aj}(h:dZ K fn o s H=some (v,Hx)):sameAt K fn o s v H=true:=by
 unfold sameAt;rw [h];simp
theorem zK {all:List Oper}{L:List (Nat×Nat)}{pre:Array Nat}(hst:I1 K fn L all pre=true){Q:bN→Prop}: ∀(ops:List Oper) (i:Nat) (obl:List ZS) (old:List (Nat×aj)) (wl:List (Nat×aj)) (rl:List CS) (hb:aj) (st:bN),
  all.drop i=ops→
  (∀x∈wl,x.1<i∧(∃o,all[x.1]? =some o∧IZ K fn o=true)∧ ∀j,(j,x.1)∈L→(j,x.2)∈old)→
  (∀q∈rl,q.i<i∧(∃o,all[q.i]? =some o∧xi K fn o=true)∧(∃h Hx,dZ K fn q.o q.s h=some (q.v,Hx)∧ ∀j,(j,q.i)∈L→(⟨j,q.o,q.s,q.v,h⟩:ZS)∈obl))→
  jx K fn all L i ops obl old hb st Q→ ∃st',ia K (aE K) fn all pre i ops wl rl hb st=some st'∧Q st':=by
 intro ops
 induction ops with
 |nil=>intro i obl old wl rl hb st _ _ _ h;exact⟨st,rfl,h⟩
 |cons o r ih=>
  intro i obl old wl rl hb st hd hwl hrl h;have ho:all[i]? =some o:=by
   have:(all.drop i)[0]? =some o:=(by rw [hd];rfl);rw [List.getElem?_drop]at this;simpa using this
  have hd':all.drop (i+1)=r:=by
   have:(all.drop i).drop 1=r:=by rw [hd];rfl
   rwa [List.drop_drop]at this
  have hstat: ∀q oq,q<i→all[q]? =some oq→(pre.getD i 0).testBit q=true∨
    ((!(IZ K fn o && IZ K fn oq)) && (L.contains (i,q)||(!(IZ K fn o && xi K fn oq) && !(xi K fn o && IZ K fn oq))))=true:=by
   intro q oq hq hoq;have h1:=List.all_eq_true.1 hst _ (mem_zipIdx' ho);have h2:=List.all_eq_true.1 h1 _ (mem_zipIdx' hoq);simp only [Bool.or_eq_true,decide_eq_true_eq]at h2;rcases h2 with (h2|h2)|h2
   ·omega
   ·exact .inl h2
   ·exact .inr h2
  simp only [jx]at h;obtain⟨b,hw,h⟩:=h
  cases b with
  |false=>
   simp only [if_true]at h;obtain⟨h1,h2⟩:=h;obtain⟨st',g1,g2⟩:=ih (i+1) obl old wl rl hb _ hd' (fun x hx=>⟨by have:=(hwl x hx).1;omega,(hwl x hx).2⟩) (fun q hq=>⟨by have:=(hrl q hq).1;omega,(hrl q hq).2⟩) h2;exact⟨st',by simp only [ia,hw,sk _ h1];exact g1,g2⟩
  |true=>
   simp only [Bool.true_eq_false,if_false]at h;by_cases hp:cn K fn o=true
   ·rw [if_pos hp]at h;obtain⟨⟨v,Hx⟩,hg,h1,h2,h3⟩:=h;simp only at h2 h3;simp only [ia,hw,hp,if_true,hg,sk _ h1];have hold: ∀x∈wl,Fp o=true→((pre.getD i 0).testBit x.1||sameAt K fn o st.s v x.2)=true:=by
     intro x hx hR;obtain⟨x1,⟨ox,x2,x3⟩,x4⟩:=hwl x hx;rcases hstat x.1 ox x1 x2 with h4|h4
     ·rw [h4];rfl
     ·have hrd:xi K fn o=true:=(by unfold xi;rw [hp,hR];rfl);rw [hrd,x3]at h4;simp only [Bool.and_true,Bool.true_and,Bool.not_true,Bool.and_false,Bool.or_false,Bool.and_eq_true]at h4;have hm:(i,x.1)∈L:=(by simpa using h4.2);rcases h2 _ (x4 i hm) rfl with h5|h5
      ·have:sameAt K fn o st.s v x.2=true:=(by rw [h5];exact yC K fn hg);rw [this];simp
      ·rw [h5];simp
    cases hR:Fp o with
    |true=>
     have hall:(wl.all fun x=>(pre.getD i 0).testBit x.1||sameAt K fn o st.s v x.2)=true:=List.all_eq_true.2 fun x hx=>hold x hx hR;simp only [if_true,hall];refine ih (i+1) _ old wl _ hb _ hd' (fun x hx=>⟨by have:=(hwl x hx).1;omega,(hwl x hx).2⟩) (fun q hq=> ?_) h3;rcases List.mem_cons.1 hq with rfl|hq
     ·refine⟨by simp,⟨o,ho,by unfold xi;rw [hp,hR];rfl⟩,hb,Hx,hg,fun j hj=>List.mem_append_left _ (List.mem_map.2 ⟨(j,i),List.mem_filter.2 ⟨hj,by simp⟩,rfl⟩)⟩
     ·obtain⟨q1,q2,hh,Hy,q3,q4⟩:=hrl q hq;exact⟨by omega,q2,hh,Hy,q3,fun j hj=>List.mem_append_right _ (q4 j hj)⟩
    |false=>
     simp only [Bool.false_eq_true,if_false];refine ih (i+1) _ old wl rl hb _ hd' (fun x hx=>⟨by have:=(hwl x hx).1;omega,(hwl x hx).2⟩) (fun q hq=> ?_) h3;obtain⟨q1,q2,hh,Hy,q3,q4⟩:=hrl q hq;exact⟨by omega,q2,hh,Hy,q3,fun j hj=>List.mem_append_right _ (q4 j hj)⟩
   ·rw [if_neg hp]at h;obtain⟨⟨v,H⟩,hg,h1,h2⟩:=h;simp only at h2;have hp':cn K fn o=false:=(by simpa using hp);simp only [ia,hw,hp,if_false,hg,Bool.false_eq_true,sk (st:=⟨st.s,H,st.nt⟩) v h1];by_cases ha:cF o=true
    ·rw [if_pos ha]at h2;simp only [ha,if_true];exact ih (i+1) obl old wl rl hb _ hd' (fun x hx=>⟨by have:=(hwl x hx).1;omega,(hwl x hx).2⟩) (fun q hq=>⟨by have:=(hrl q hq).1;omega,(hrl q hq).2⟩) h2
    ·rw [if_neg ha]at h2;have ha':cF o=false:=(by simpa using ha);have hW:IZ K fn o=true:=(by unfold IZ;rw [hp',ha'];rfl);have hnR:xi K fn o=false:=(by unfold xi;rw [hp'];rfl);obtain⟨h3,h4⟩:=h2;have hwl2:(wl.all fun x=>(pre.getD i 0).testBit x.1)=true:=List.all_eq_true.2 fun x hx=>by
      obtain⟨x1,⟨ox,x2,x3⟩,x4⟩:=hwl x hx;rcases hstat x.1 ox x1 x2 with h4|h4
      ·exact h4
      ·rw [hW,x3]at h4;simp at h4
     have hrl2:(rl.all fun q=>(pre.getD i 0).testBit q.i||sameAt K fn q.o q.s q.v H)=true:=List.all_eq_true.2 fun q hq=>by
      obtain⟨q1,⟨oq,q2,q2'⟩,hh,Hy,q3,q4⟩:=hrl q hq;rcases hstat q.i oq q1 q2 with h4|h4
      ·rw [h4];rfl
      ·rw [hW,q2',hnR]at h4;simp only [Bool.and_true,Bool.true_and,Bool.not_true,Bool.false_and,Bool.or_false,Bool.and_eq_true]at h4;have hm:(i,q.i)∈L:=(by simpa using h4.2);rcases h3 _ (q4 i hm) rfl with h5|h5
       ·have:sameAt K fn q.o q.s q.v H=true:=by
         simp only at h5;rw [h5];exact yC K fn q3
        rw [this];simp
       ·simp only at h5;rw [h5];simp
     simp only [ha,hwl2,hrl2,Bool.and_self,if_true,if_false,Bool.false_eq_true];refine ih (i+1) obl _ _ rl H _ hd' (fun x hx=> ?_) (fun q hq=>⟨by have:=(hrl q hq).1;omega,(hrl q hq).2⟩) h4;rcases List.mem_cons.1 hx with rfl|hx
     ·exact⟨by simp,⟨o,ho,hW⟩,fun j hj=>List.mem_append_left _ (List.mem_map.2 ⟨(j,i),List.mem_filter.2 ⟨hj,by simp⟩,rfl⟩)⟩
     ·obtain⟨x1,x2,x3⟩:=hwl x hx;exact⟨by omega,x2,fun j hj=>List.mem_append_right _ (x3 j hj)⟩
end
def bE (K:Ctx)(N:FuncId→Nat→List (Nat×Nat))(fn:FuncId):Code→Bool
 | .region id ops true=>zj K fn ops.toList (Region.before ops) && I1 K fn (N fn id) ops.toList (Region.before ops)
 | .seq a b=>bE K N fn a && bE K N fn b
 | .cond _ a b=>bE K N fn a && bE K N fn b
 | .block _ a=>bE K N fn a
 | .loop a=>bE K N fn a
 | .scope a=>bE K N fn a
 | .rangeFunc _ _ a b=>bE K N fn a && bE K N fn b
 |_=>true
section
variable (K:Ctx) (N:FuncId→Nat→List (Nat×Nat)) (fn:FuncId)
def WP (c:Code)(st:bN)(Q:GX→bN→Prop):Prop:=bE K N fn c=true→ ∃e st',aE K fn c st=some (e,st')∧Q e st'
def tn (id:Nat)(Q:GX→bN→Prop)(e:GX)(st:bN):Prop:=match e with| .exit id'=>if id'=id then Q .normal st else Q (.exit id') st|e=>Q e st
theorem qT (H:aj)(l0:Nat)(s:aZ): ∀ks,bh (cb H l0 s) ks=cb H l0 (bh s ks)
 | []=>rfl
 |t::r=>by
  simp only [bh,cb,qT H l0 s r];congr 2
  induction s with
  |nil=>rfl
  |cons x s ih=>
   obtain⟨d,v⟩:=x;simp only [cb,look];split
   ·rfl
   ·exact ih
def BN (W:aZ→aj→Nat→Prop)(ks ks2:List Nat)(Q:GX→bN→Prop)(e:GX)(st:bN):Prop:=
 match st.h with
 |fr::H=>0<H.length∧(match e with
  | .normal=>W (cb (fr::H) (H.length-1) (bh st.s ks)) H st.nt
  |e=>Q e ⟨cb (fr::H) (H.length-1) (bh st.s ks2),H,st.nt⟩)
 | []=>False
def zL (W:aZ→aj→Nat→Prop)(ks ks2:List Nat)(Q:GX→bN→Prop)(e:GX)(st:bN):Prop:=
 match st.h with
 |fr::H=>0<H.length∧(match e with
  | .normal=>mh (qc ⟨cb (fr::H) (H.length-1) (bh st.s ks),H,st.nt⟩) fun st=>W st.s st.h st.nt
  |e=>Q e ⟨cb (fr::H) (H.length-1) (bh st.s ks2),H,st.nt⟩)
 | []=>False
def Ue (b:Bool)(c:Code)(ks ks2:List Nat)(Q:GX→bN→Prop)(s:aZ)(H:aj)(nt:Nat):Prop:=
 bE K N fn c=true→K.ig fn (aX c)=some (ks,ks2)→K.ij fn (aX c)=b→ ∃e st',(match aE K fn c ⟨s,[]::H,nt⟩with
  |some (.normal,st)=>(match vU K fn c st with|some st=>aE K fn (.loop c) st|none=>none)
  |some (e,st)=>(match ku (some ks2) st with|some st=>some (e,st)|none=>none)
  |none=>none)=some (e,st')∧Q e st'
def gS (c:Code)(ks ks2:List Nat)(Q:GX→bN→Prop)(s:aZ)(H:aj)(nt:Nat):Prop:=Ue K N fn false c ks ks2 Q s H nt
def uk (c:Code)(ks ks2:List Nat)(Q:GX→bN→Prop)(s:aZ)(H:aj)(nt:Nat):Prop:=Ue K N fn true c ks ks2 Q s H nt
def asB:GV→Option Bool
 | .pure (.bool b)=>some b
 |_=>none
def wp:Code→bN→(GX→bN→Prop)→Prop
 | .skip,st,Q=>Q .normal st
 | .label _,st,Q=>Q .normal st
 | .exit id,st,Q=>Q (.exit id) st
 | .ret,st,Q=>Q .ret st
 | .region _ ops false,st,Q=>qa K fn ops.toList ops.toList st (Q .normal)
 | .region id ops true,st,Q=>jx K fn ops.toList (N fn id) 0 ops.toList [] [] st.h st (Q .normal)
 | .seq a b,st,Q=>wp a st fun e st=>match e with| .normal=>wp b st Q|e=>Q e st
 | .cond c x y,st,Q=>mh (asB (ev st.s c)) fun b=>if b=true then wp x st Q else wp y st Q
 | .block id c,st,Q=>wp c st (tn id Q)
 | .loop c,st,Q=>mh (K.ig fn (aX c)) fun a=>if K.ij fn (aX c)=true then uk K N fn c a.1 a.2 Q (bh st.s a.1) st.h st.nt else gS K N fn c a.1 a.2 Q (bh st.s a.1) st.h st.nt
 | .rangeFunc f ps assign body,st,Q=>WP K N fn (.rangeFunc f ps assign body) st Q
 | .scope c,st,Q=>wp c st Q
 |_,_,_=>False
theorem gW: ∀(c:Code) {st:bN} {Q:GX→bN→Prop},wp K N fn c st Q→WP K N fn c st Q
 | .skip,st,Q,h=>fun _=>⟨_,_,by rw [fj];rfl,h⟩
 | .label _,st,Q,h=>fun _=>⟨_,_,by rw [fj];rfl,h⟩
 | .exit id,st,Q,h=>fun _=>⟨_,_,by rw [fj];rfl,h⟩
 | .ret,st,Q,h=>fun _=>⟨_,_,by rw [fj];rfl,h⟩
 | .region id ops false,st,Q,h=>fun _=>by
  obtain⟨st',h1,h2⟩:=o7 K fn h;rw [fj];exact⟨_,_,by simp only [cM,h1],h2⟩
 | .region id ops true,st,Q,h=>fun hg=>by
  simp only [bE,Bool.and_eq_true]at hg;obtain⟨st',h1,h2⟩:=zK K fn hg.2 _ 0 [] [] [] [] _ _ rfl (by simp) (by simp) h;rw [List.drop_zero]at h1;rw [fj];exact⟨_,_,by simp only [cM,hg.1,if_true,h1],h2⟩
 | .seq a b,st,Q,h=>fun hg=>by
  simp only [bE,Bool.and_eq_true]at hg;obtain⟨e,st1,h1,h2⟩:=gW a h hg.1;rw [fj];simp only [cM,h1]
  cases e with
  |normal=>
   obtain⟨e2,st2,h3,h4⟩:=gW b h2 hg.2;exact⟨e2,st2,h3,h4⟩
  |exit id=>exact⟨_,_,rfl,h2⟩
  |ret=>exact⟨_,_,rfl,h2⟩
 | .cond c x y,st,Q,h=>fun hg=>by
  simp only [bE,Bool.and_eq_true]at hg;obtain⟨b,h1,h2⟩:=h;have hc:ev st.s c= .pure (.bool b):=by
   unfold asB at h1;split at h1
   ·rename_i b' hb;rw [hb];cases h1;rfl
   ·cases h1
  rw [fj];simp only [cM,hc]
  cases b with
  |true=>
   simp only [if_true]at h2⊢;exact gW x h2 hg.1
  |false=>
   simp only [Bool.false_eq_true,if_false]at h2⊢;exact gW y h2 hg.2
 | .block id c,st,Q,h=>fun hg=>by
  obtain⟨e,st1,h1,h2⟩:=gW c h (by simpa only [bE]using hg);rw [fj];simp only [cM,h1]
  cases e with
  |exit id'=>
   simp only [tn]at h2;split at h2
   ·rename_i he;exact⟨_,_,by simp only [he,if_true],h2⟩
   ·rename_i he;exact⟨_,_,by simp only [he,if_false],h2⟩
  |normal=>exact⟨_,_,rfl,h2⟩
  |ret=>exact⟨_,_,rfl,h2⟩
 | .loop c,st,Q,h=>fun hg=>by
  obtain⟨⟨ks,ks2⟩,ha,h⟩:=h;have h0:Ue K N fn (K.ij fn (aX c)) c ks ks2 Q (bh st.s ks) st.h st.nt:=by
   cases hc:K.ij fn (aX c)with
   |true=>simp only [hc,if_true]at h;exact h
   |false=>simp only [hc,Bool.false_eq_true,if_false]at h;exact h
  obtain⟨e,st',h1,h2⟩:=h0 (by simpa only [bE]using hg) ha rfl;refine⟨e,st', ?_,h2⟩;rw [fj];simp only [cM,ha,Option.map_some,kf];exact h1
 | .rangeFunc f ps assign body,st,Q,h=>h
 | .scope c,st,Q,h=>fun hg=>by
  obtain⟨e,st1,h1,h2⟩:=gW c h (by simpa only [bE]using hg);rw [fj];exact⟨e,st1,by simp only [cM,h1],h2⟩
 | .goto _,_,_,h=>h.elim
 | .refuse _,_,_,h=>h.elim
theorem Gq (s:aZ)(ks:List Nat):bh (bh s ks) ks=bh s ks:=by
 have h: ∀l:List Nat,(∀t∈l,t∈ks)→bh (bh s ks) l=bh s l:=by
  intro l
  induction l with
  |nil=>intro _;rfl
  |cons t r ih=>
   intro hl;simp only [bh,fQ s t ks (hl t (List.mem_cons_self ..)),ih fun q hq=>hl q (List.mem_cons_of_mem _ hq)]
 exact h ks fun _ h=>h
theorem ax {c:Code}{ks ks2:List Nat}{Q:GX→bN→Prop}{s:aZ}{H:aj}{nt:Nat}(h:wp K N fn c ⟨s,[]::H,nt⟩ (BN (gS K N fn c ks ks2 Q) ks ks2 Q)):gS K N fn c ks ks2 Q s H nt:=fun hg ha hc=>by
 obtain⟨e,st1,h1,h2⟩:=gW K N fn c h hg;rw [h1];unfold BN at h2;split at h2
 ·rename_i fr H1 hh;obtain⟨h3,h4⟩:=h2;have hne: ¬H1.length=0:=by omega
  cases e with
  |normal=>
   simp only [vU,hc,Bool.false_eq_true,ku,hh,hne,if_false,kf];simp only at h4;obtain⟨e2,st2,g1,g2⟩:=h4 hg ha hc;refine⟨e2,st2, ?_,g2⟩;rw [fj];simp only [cM,ha,Option.map_some,kf];rw [qT];exact g1
  |exit id=>
   simp only [ku,hh,hne,if_false,kf];exact⟨_,_,rfl,h4⟩
  |ret=>
   simp only [ku,hh,hne,if_false,kf];exact⟨_,_,rfl,h4⟩
 ·exact h2.elim
theorem sv {c:Code}{ks ks2:List Nat}{Q:GX→bN→Prop}{s:aZ}{H:aj}{nt:Nat}(h:wp K N fn c ⟨s,[]::H,nt⟩ (zL (uk K N fn c ks ks2 Q) ks ks2 Q)):uk K N fn c ks ks2 Q s H nt:=fun hg ha hc=>by
 obtain⟨e,st1,h1,h2⟩:=gW K N fn c h hg;rw [h1];unfold zL at h2;split at h2
 ·rename_i fr H1 hh;obtain⟨h3,h4⟩:=h2;have hne: ¬H1.length=0:=by omega
  cases e with
  |normal=>
   simp only at h4;obtain⟨st2,k1,k2⟩:=h4;have hs:st2.s=cb (fr::H1) (H1.length-1) (bh st1.s ks):=by
    unfold qc at k1;split at k1
    ·split at k1
     ·cases k1
     ·cases k1;rfl
    ·cases k1
   simp only [vU,hc,if_true,ku,hh,hne,if_false,ha,Option.map_some,kf,k1];obtain⟨e2,st3,g1,g2⟩:=k2 hg ha hc;refine⟨e2,st3, ?_,g2⟩;rw [fj];simp only [cM,ha,Option.map_some,kf];rw [hs,qT,Gq,←hs];exact g1
  |exit id=>
   simp only [ku,hh,hne,if_false,kf];exact⟨_,_,rfl,h4⟩
  |ret=>
   simp only [ku,hh,hne,if_false,kf];exact⟨_,_,rfl,h4⟩
 ·exact h2.elim
def DH (f:FuncId)(g:Func)(c:Nat)(R:GV×aj→Prop)(e:GX)(st:bN):Prop:=
 (match e with| .exit _=>False|_=>True)∧mh (fh K g st) fun rs=>mh (gG K f c (pY rs) st.h) R
theorem aK {f:FuncId} {g:Func} {code:Code} {args:List GV} {c:Nat} {H:aj} {R:GV×aj→Prop} (hf:K.P.funcs[f]? =some g) (hb:g.body=some code)
  (hn:(g.name== "runtime.NumGoroutine")=false) (hgood:bE K N f code=true) (hl:args.length≤g.ntmps) (hH:0<H.length)
  (h:wp K N f code ⟨slotsOf 0 (args.map canon),[]::H,g.ntmps⟩ (DH K f g c R)):mh (bK K (aE K) f args c H) R:=by
 obtain⟨e,st,h1,h2,rs,h3,x,h4,h5⟩:=gW K N f code h hgood;refine⟨x, ?_,h5⟩;have hnt: ¬g.ntmps<args.length:=(by omega);have hH0: ¬H.length=0:=(by omega);simp only [bK,hf,hb,hn,hnt,hH0,decide_false,Bool.or_self,Bool.false_eq_true,if_false,h1]
 cases e with
 |exit id=>exact h2.elim
 |normal=>
  simp only [h3];rw [←h4];rcases rs with _|⟨r,_|⟨r2,l⟩⟩<;>rfl
 |ret=>
  simp only [h3];rw [←h4];rcases rs with _|⟨r,_|⟨r2,l⟩⟩<;>rfl
theorem tN {f:FuncId}{args:List GV}{c:Nat}{H:aj}{rec:Rec}(hc:K.wT f=false)(hb:K.Aa f=false)(hz:bs H args=(args,H)):aL K rec f args c H=bK K rec f args c H:=by
 unfold aL;rw [hc,hb,hz];simp
theorem tq {f:FuncId}{args:List GV}{c:Nat}{H:aj}{rec:Rec}(hc:K.wT f=false)(hb:K.Aa f=true):aL K rec f args c H=iP K rec f ((bs H args).1.map canon) c H:=by
 unfold aL;rw [hc,hb];simp
theorem iD {f:FuncId} {args args':List GV} {c:Nat} {H:aj} {rec:Rec} {p:PV} (hc:K.wT f=false) (hb:K.Aa f=true) (hz:(bs H args).1.map canon=args') (hq:mW args'=some none) (hH:0<H.length)
  (h0: ∀H:aj,0<H.length→bK K rec f args' c H=some (.pure p,H)) (hf:jo p=true):aL K rec f args c H=some (.pure p,H):=by
 rw [tq K hc hb,hz];unfold iP;rw [hq];simp only;rw [h0 _ (by simpa [hY]using hH)];simp only [lO,vR,pW,oP,hf,if_true,refs,fT,dX,dedup,lN]
theorem bf {f:FuncId} {g:Func} {code:Code} {args:List GV} {c:Nat} {H:aj} {R:GV×aj→Prop} (hf:K.P.funcs[f]? =some g) (hb:g.body=some code)
  (hn:(g.name== "runtime.NumGoroutine")=false) (hgood:bE K N f code=true) (hz:bs H args=(args,H)) (hc:K.wT f=false) (hbo:K.Aa f=false) (hl:args.length≤g.ntmps) (hH:0<H.length)
  (h:wp K N f code ⟨slotsOf 0 (args.map canon),[]::H,g.ntmps⟩ (DH K f g c R)):mh (aL K (aE K) f args c H) R:=by
 rw [tN K hc hbo hz];exact aK K N hf hb hn hgood hl hH h
theorem ba {f:FuncId} {g:Func} {code:Code} {args:List GV} {c:Nat} {H:aj} {R:GV×aj→Prop} (hf:K.P.funcs[f]? =some g) (hb:g.body=some code)
  (hn:(g.name== "runtime.NumGoroutine")=false) (hgood:bE K N f code=true) (hz:K.EP f=false) (hc:K.wT f=false) (hbo:K.Aa f=false) (hl:args.length≤g.ntmps) (hH:0<H.length)
  (h:wp K N f code ⟨slotsOf 0 (args.map canon),[]::H,g.ntmps⟩ (DH K f g c R)):mh (aL K (aE K) f args c H) R:=by
 have h0:=aK K N hf hb hn hgood hl hH h;unfold aL;rw [hz,hc,hbo];simpa using h0
end
end
section
section
variable {K:Ctx} {N:FuncId→Nat→List (Nat×Nat)} {fn:FuncId}
@[congr] theorem aci {α:Type}{x y:Option α}{k:α→Prop}(h: ∀_:Unit,x=y):mh x k=mh y k:=by rw [h ()]
@[simp] theorem jf {α:Type}{x:α}{k:α→Prop}:mh (some x) k=k x:=by
 unfold mh;simp
@[simp] theorem wp_skip {st:bN}{Q:GX→bN→Prop}:wp K N fn .skip st Q=Q .normal st:=by rw [wp]
@[simp] theorem wp_exit {id:Nat}{st:bN}{Q:GX→bN→Prop}:wp K N fn (.exit id) st Q=Q (.exit id) st:=by rw [wp]
@[simp] theorem wp_ret {st:bN}{Q:GX→bN→Prop}:wp K N fn .ret st Q=Q .ret st:=by rw [wp]
@[simp] theorem wp_region {id:Nat}{ops:Array Oper}{st:bN}{Q:GX→bN→Prop}:wp K N fn (.region id ops false) st Q=qa K fn ops.toList ops.toList st (Q .normal):=by rw [wp]
@[simp] theorem aa8 {id:Nat}{ops:Array Oper}{st:bN}{Q:GX→bN→Prop}:wp K N fn (.region id ops true) st Q=jx K fn ops.toList (N fn id) 0 ops.toList [] [] st.h st (Q .normal):=by rw [wp]
def iS (b:Code)(Q:GX→bN→Prop)(e:GX)(st:bN):Prop:=match e with| .normal=>wp K N fn b st Q|e=>Q e st
@[simp] theorem wp_seq {a b:Code}{st:bN}{Q:GX→bN→Prop}:wp K N fn (.seq a b) st Q=wp K N fn a st (iS (K:=K) (N:=N) (fn:=fn) b Q):=by rw [wp];rfl
@[simp] theorem bX {b:Code}{Q:GX→bN→Prop}{st:bN}:iS (K:=K) (N:=N) (fn:=fn) b Q .normal st=wp K N fn b st Q:= .trans rfl rfl
@[simp] theorem Xs {b:Code}{Q:GX→bN→Prop}{id:Nat}{st:bN}:iS (K:=K) (N:=N) (fn:=fn) b Q (.exit id) st=Q (.exit id) st:= .trans rfl rfl
@[simp] theorem ZT {b:Code}{Q:GX→bN→Prop}{st:bN}:iS (K:=K) (N:=N) (fn:=fn) b Q .ret st=Q .ret st:= .trans rfl rfl
@[simp] theorem wp_cond {c:Operand}{x y:Code}{st:bN}{Q:GX→bN→Prop}:wp K N fn (.cond c x y) st Q=mh (asB (ev st.s c)) fun b=>if b=true then wp K N fn x st Q else wp K N fn y st Q:=by rw [wp]
@[simp] theorem ZU {b:Bool}:asB (.pure (.bool b))=some b:= .trans rfl rfl
@[simp] theorem wp_block {id:Nat}{c:Code}{st:bN}{Q:GX→bN→Prop}:wp K N fn (.block id c) st Q=wp K N fn c st (tn id Q):=by rw [wp]
@[simp] theorem JD {id:Nat}{Q:GX→bN→Prop}{st:bN}:tn id Q .normal st=Q .normal st:= .trans rfl rfl
@[simp] theorem Uf {id:Nat}{Q:GX→bN→Prop}{st:bN}:tn id Q .ret st=Q .ret st:= .trans rfl rfl
@[simp] theorem Qi {id id':Nat}{Q:GX→bN→Prop}{st:bN}:tn id Q (.exit id') st=if id'=id then Q .normal st else Q (.exit id') st:= .trans rfl rfl
@[simp] theorem wp_loop {c:Code}{st:bN}{Q:GX→bN→Prop}:wp K N fn (.loop c) st Q=mh (K.ig fn (aX c)) fun a=>if K.ij fn (aX c)=true then uk K N fn c a.1 a.2 Q (bh st.s a.1) st.h st.nt else gS K N fn c a.1 a.2 Q (bh st.s a.1) st.h st.nt:=by rw [wp]
@[simp] theorem NA {f:Operand}{ps:Array Tmp}{as b:Code}{st:bN}{Q:GX→bN→Prop}:wp K N fn (.rangeFunc f ps as b) st Q=WP K N fn (.rangeFunc f ps as b) st Q:=by rw [wp]
@[simp] theorem NB {W:aZ→aj→Nat→Prop}{ks ks2:List Nat}{Q:GX→bN→Prop}{s:aZ}{fr:Fr}{H:aj}{nt:Nat}:
  BN W ks ks2 Q .normal ⟨s,fr::H,nt⟩=(0<H.length∧W (cb (fr::H) (H.length-1) (bh s ks)) H nt):= .trans rfl rfl
@[simp] theorem Ug {W:aZ→aj→Nat→Prop}{ks ks2:List Nat}{Q:GX→bN→Prop}{s:aZ}{fr:Fr}{H:aj}{nt id:Nat}:
  BN W ks ks2 Q (.exit id) ⟨s,fr::H,nt⟩=(0<H.length∧Q (.exit id) ⟨cb (fr::H) (H.length-1) (bh s ks2),H,nt⟩):= .trans rfl rfl
@[simp] theorem Xt {W:aZ→aj→Nat→Prop}{ks ks2:List Nat}{Q:GX→bN→Prop}{s:aZ}{fr:Fr}{H:aj}{nt:Nat}:
  BN W ks ks2 Q .ret ⟨s,fr::H,nt⟩=(0<H.length∧Q .ret ⟨cb (fr::H) (H.length-1) (bh s ks2),H,nt⟩):= .trans rfl rfl
@[simp] theorem JE {W:aZ→aj→Nat→Prop}{ks ks2:List Nat}{Q:GX→bN→Prop}{s:aZ}{fr:Fr}{H:aj}{nt:Nat}:
  zL W ks ks2 Q .normal ⟨s,fr::H,nt⟩=(0<H.length∧mh (qc ⟨cb (fr::H) (H.length-1) (bh s ks),H,nt⟩) fun st=>W st.s st.h st.nt):= .trans rfl rfl
@[simp] theorem Qj {W:aZ→aj→Nat→Prop}{ks ks2:List Nat}{Q:GX→bN→Prop}{s:aZ}{fr:Fr}{H:aj}{nt id:Nat}:
  zL W ks ks2 Q (.exit id) ⟨s,fr::H,nt⟩=(0<H.length∧Q (.exit id) ⟨cb (fr::H) (H.length-1) (bh s ks2),H,nt⟩):= .trans rfl rfl
@[simp] theorem Qk {f:FuncId}{g:Func}{c:Nat}{R:GV×aj→Prop}{st:bN}:DH K f g c R .normal st=mh (fh K g st) fun rs=>mh (gG K f c (pY rs) st.h) R:=by simp [DH]
@[simp] theorem ZV {f:FuncId}{g:Func}{c:Nat}{R:GV×aj→Prop}{st:bN}:DH K f g c R .ret st=mh (fh K g st) fun rs=>mh (gG K f c (pY rs) st.h) R:=by simp [DH]
@[simp] theorem JF {s:aZ}:bh s []=[]:= .trans rfl rfl
@[simp] theorem I3 {s:aZ}{t:Nat}{r:List Nat}:bh s (t::r)=(t,look s t)::bh s r:= .trans rfl rfl
@[simp] theorem I4 {H:aj}{l0:Nat}:cb H l0 []=[]:= .trans rfl rfl
@[simp] theorem GK {H:aj}{l0:Nat}{t:Nat}{v:GV}{r:aZ}:cb H l0 ((t,v)::r)=(t,clean H l0 v)::cb H l0 r:= .trans rfl rfl
@[simp] theorem look_nil {t:Nat}:look [] t=aP:= .trans rfl rfl
@[simp] theorem Uh {d t:Nat}{v:GV}{s:aZ}:look ((d,v)::s) t=if t=d then v else look s t:= .trans rfl rfl
@[simp] theorem acj {s:aZ}{t:Nat}:ev s (.tmp t)=look s t:= .trans rfl rfl
@[simp] theorem ZW {s:aZ}{v:Value}:ev s (.const v)=ofConst v:= .trans rfl rfl
@[simp] theorem aa9 {s:aZ}{f:Nat}:ev s (.func f)= .pure (.fn f):= .trans rfl rfl
@[simp] theorem Ql {k:IntKind}{n:Int}:ofConst (.int k n)= .pure (.int k n):= .trans rfl rfl
@[simp] theorem NC {b:Bool}:ofConst (.bool b)= .pure (.bool b):= .trans rfl rfl
@[simp] theorem ND:ofConst (.slice none 0 0)= .aV:= .trans rfl rfl
@[simp] theorem NF:ofConst (.pointer none)= .pure .qF:= .trans rfl rfl
@[simp] theorem NG:ofConst .nilFunc= .pure .gf:= .trans rfl rfl
@[simp] theorem Xu {s:aZ}{v:GV}:lG s none v=s:= .trans rfl rfl
@[simp] theorem Xv {s:aZ}{d:Nat}{v:GV}:lG s (some d) v=(d,v)::s:= .trans rfl rfl
@[simp] theorem Ui {nt:Nat}:lU nt none=True:= .trans rfl rfl
@[simp] theorem Uj {nt d:Nat}:lU nt (some d)=(d<nt):= .trans rfl rfl
@[simp] theorem Qm {i:Nat}:slotsOf i []=[]:= .trans rfl rfl
@[simp] theorem NH {i:Nat}{v:GV}{l:List GV}:slotsOf i (v::l)=(i,v)::slotsOf (i+1) l:= .trans rfl rfl
@[simp] theorem Xw {all:List Oper}{st:bN}{Q:bN→Prop}:qa K fn all [] st Q=Q st:= .trans rfl rfl
@[simp] theorem Uk {all:List Oper}{o:Oper}{r:List Oper}{st:bN}{Q:bN→Prop}:qa K fn all (o::r) st Q=mh (dy all st.s o) fun b=>
      if b=false then lU st.nt o.dst∧qa K fn all r ⟨lG st.s o.dst ly,st.h,st.nt⟩ Q
      else mh (cE K (aE K) fn o st.s st.h) fun x=>lU st.nt o.dst∧qa K fn all r ⟨lG st.s o.dst x.1,x.2,st.nt⟩ Q:= .trans rfl rfl
@[simp] theorem Ul {all:List Oper}{L:List (Nat×Nat)}{i:Nat}{obl:List ZS}{old:List (Nat×aj)}{hb:aj}{st:bN}{Q:bN→Prop}:jx K fn all L i [] obl old hb st Q=Q st:= .trans rfl rfl
@[simp] theorem Qn {all:List Oper}{L:List (Nat×Nat)}{i:Nat}{o:Oper}{r:List Oper}{obl:List ZS}{old:List (Nat×aj)}{hb:aj}{st:bN}{Q:bN→Prop}:
  jx K fn all L i (o::r) obl old hb st Q=mh (dy all st.s o) fun b=>
   if b=false then lU st.nt o.dst∧jx K fn all L (i+1) r obl old hb ⟨lG st.s o.dst ly,st.h,st.nt⟩ Q
   else if cn K fn o=true then
    mh (dZ K fn o st.s hb) fun x=>lU st.nt o.dst∧(∀y∈old,y.1=i→y.2=hb∨sameAt K fn o st.s x.1 y.2=true)∧
     jx K fn all L (i+1) r ((L.filter fun p=>p.2==i).map (fun p=>⟨p.1,o,st.s,x.1,hb⟩)++obl) old hb ⟨lG st.s o.dst x.1,st.h,st.nt⟩ Q
   else
    mh (cE K (aE K) fn o st.s st.h) fun x=>lU st.nt o.dst∧
     if cF o=true then jx K fn all L (i+1) r obl old hb ⟨lG st.s o.dst x.1,x.2,st.nt⟩ Q
     else (∀y∈obl,y.i=i→x.2=y.h∨sameAt K fn y.o y.s y.v x.2=true)∧
      jx K fn all L (i+1) r obl ((L.filter fun p=>p.2==i).map (fun p=>(p.1,hb))++old) x.2 ⟨lG st.s o.dst x.1,x.2,st.nt⟩ Q:= .trans rfl rfl
def ui:List Oper→Nat→Option Nat
 | [],_=>none
 |o::r,j=>if j=0 then o.dst else ui r (j-1)
@[simp] theorem Um {o:Oper}{r:List Oper}{j:Nat}:ui (o::r) j=if j=0 then o.dst else ui r (j-1):= .trans rfl rfl
def yD (s:aZ)(want:Bool):Option Nat→Option Bool
 |none=>none
 |some d=>(match look s d with| .pure (.bool b)=>some (b==want)| .pure (.tuple [])=>some false|_=>none)
def EA (want:Bool):GV→Option Bool
 | .pure (.bool b)=>some (b==want)
 | .pure (.tuple [])=>some false
 |_=>none
@[simp] theorem Un {want b:Bool}:EA want (.pure (.bool b))=some (b==want):= .trans rfl rfl
@[simp] theorem Qo {want:Bool}:EA want ly=some false:= .trans rfl rfl
@[congr] theorem ZX {s:aZ}{want:Bool}{x y:Option Nat}(h: ∀_:Unit,x=y):yD s want x=yD s want y:=by rw [h ()]
@[simp] theorem Uo {s:aZ}{want:Bool}{d:Nat}:yD s want (some d)=EA want (look s d):=by
 unfold yD EA;rfl
theorem qb: ∀(l:List Oper) (j:Nat),ui l j=(l[j]?).bind (·.dst)
 | [],j=>by simp [ui]
 |o::r,0=>by simp [ui]
 |o::r,j+1=>by simp [ui,qb r j]
@[simp] theorem NI {all:List Oper}{s:aZ}{dst:Option Tmp}{op:Op}{ty:TypeId}{pos:String}{af:Array Edge}:dy all s ⟨dst,op,ty,pos,af,none⟩=some true:= .trans rfl rfl
@[simp] theorem NJ {all:List Oper}{s:aZ}{dst:Option Tmp}{op:Op}{ty:TypeId}{pos:String}{af:Array Edge}{j:Nat}{want:Bool}:
  dy all s ⟨dst,op,ty,pos,af,some (j,want)⟩=yD s want (ui all j):=by
 rw [qb];unfold dy yD;simp only
 cases all[j]? with
 |none=>rfl
 |some oj=>
  simp only [Option.bind_some]
  cases oj.dst with
  |none=>rfl
  |some d=>rfl
variable {rec:Rec} {dst:Option Tmp} {ty:TypeId} {pos:String} {af:Array Edge} {gu:Option (Nat×Bool)} {s:aZ} {H:aj}
def EB (r:Option Nat)(H:aj)(b:GV)(z:GV×aj):Option (GV×aj):=match r with
 |none=>rV H b z
 |some key=>rY H b key z
@[simp] theorem Uq {H:aj}{b:GV}{z:GV×aj}:EB none H b z=rV H b z:= .trans rfl rfl
def yE (x:Option Tmp)(r:Option Nat)(s:aZ)(H:aj)(y:Option (GV×aj)):Option (GV×aj):=match x with
 |none=>y
 |some t=>(match y with|some z=>EB r H (look s t) z|none=>none)
@[congr] theorem ZY {x x':Option Tmp}{r:Option Nat}{s:aZ}{H:aj}{y y':Option (GV×aj)}(h: ∀_:Unit,x=x')(h': ∀_:Unit,y=y'):yE x r s H y=yE x' r s H y':=by rw [h (),h' ()]
@[simp] theorem Ur {r:Option Nat}{s:aZ}{H:aj}{y:Option (GV×aj)}:yE none r s H y=y:= .trans rfl rfl
@[simp] theorem Us {t:Tmp}{r:Option Nat}{s:aZ}{H:aj}{z:GV×aj}:yE (some t) r s H (some z)=EB r H (look s t) z:= .trans rfl rfl
@[simp] theorem Ut {f:Operand}{args:Array Operand}{ats:Array TypeId}:cE K rec fn ⟨dst, .call ⟨.value f,args,ats⟩,ty,pos,af,gu⟩ s H=yE (K.lift fn (dst.getD 0)) (K.row fn (dst.getD 0)) s H (dJ K rec (ev s f) (args.toList.map (ev s)) (dst.getD 0) H):=by
 unfold cE yE;simp only [gP]
 cases K.lift fn (dst.getD 0)with
 |none=>rfl
 |some t=>simp only [EB];cases dJ K rec (ev s f) (args.toList.map (ev s)) (dst.getD 0) H<;>rfl
@[simp] theorem vq {f:Nat}{args:List GV}{c:Nat}:dJ K rec (.pure (.fn f)) args c H=aL K rec f args c H:= .trans rfl rfl
@[simp] theorem mY {f:Nat}{first cap args:List GV}{c:Nat}:dJ K rec (.func f first cap) args c H=aL K rec f (first++args++cap) c H:= .trans rfl rfl
@[simp] theorem JG {nm:Nm}{args:List GV}{c:Nat}:dJ K rec (.yield nm) args c H=ground rec nm args H:= .trans rfl rfl
end
end
section
section
variable {K:Ctx} {fn:FuncId} {rec:Rec} {dst:Option Tmp} {ty:TypeId} {pos:String} {af:Array Edge} {gu:Option (Nat×Bool)} {s:aZ} {H:aj}
@[simp] theorem Uu (x:Operand):cE K rec fn ⟨dst, .move x,ty,pos,af,gu⟩ s H=dZ K fn ⟨dst, .move x,ty,pos,af,gu⟩ s H:= .trans rfl rfl
@[simp] theorem NK (x:Operand):cE K rec fn ⟨dst, .assign x,ty,pos,af,gu⟩ s H=dZ K fn ⟨dst, .assign x,ty,pos,af,gu⟩ s H:= .trans rfl rfl
@[simp] theorem Uv (c a b:Operand):cE K rec fn ⟨dst, .pick c a b,ty,pos,af,gu⟩ s H=dZ K fn ⟨dst, .pick c a b,ty,pos,af,gu⟩ s H:= .trans rfl rfl
@[simp] theorem Qp (t:TypeId):cE K rec fn ⟨dst, .alloc t,ty,pos,af,gu⟩ s H=dZ K fn ⟨dst, .alloc t,ty,pos,af,gu⟩ s H:= .trans rfl rfl
@[simp] theorem Xx (t:TypeId)(x:Operand):cE K rec fn ⟨dst, .box t x,ty,pos,af,gu⟩ s H=dZ K fn ⟨dst, .box t x,ty,pos,af,gu⟩ s H:= .trans rfl rfl
@[simp] theorem Qq (t:TypeId)(ps:Array (Nat×Operand)):cE K rec fn ⟨dst, .build t ps,ty,pos,af,gu⟩ s H=dZ K fn ⟨dst, .build t ps,ty,pos,af,gu⟩ s H:= .trans rfl rfl
@[simp] theorem Gr (t:TypeId)(n:Nat)(ps:Array (Nat×Operand)):cE K rec fn ⟨dst, .buildSlice t n ps,ty,pos,af,gu⟩ s H=dZ K fn ⟨dst, .buildSlice t n ps,ty,pos,af,gu⟩ s H:= .trans rfl rfl
@[simp] theorem Uw (t:TypeId)(a:Operand):cE K rec fn ⟨dst, .load t a,ty,pos,af,gu⟩ s H=dZ K fn ⟨dst, .load t a,ty,pos,af,gu⟩ s H:= .trans rfl rfl
@[simp] theorem Qr (t:TypeId)(a x:Operand):cE K rec fn ⟨dst, .store t a x,ty,pos,af,gu⟩ s H=dZ K fn ⟨dst, .store t a x,ty,pos,af,gu⟩ s H:= .trans rfl rfl
@[simp] theorem I5 (x:Operand):cE K rec fn ⟨dst, .nilCheck x,ty,pos,af,gu⟩ s H=dZ K fn ⟨dst, .nilCheck x,ty,pos,af,gu⟩ s H:= .trans rfl rfl
@[simp] theorem Qs (op:BinOp)(t:TypeId)(x y:Operand)(d:TypeId):cE K rec fn ⟨dst, .binOp op t x y d,ty,pos,af,gu⟩ s H=dZ K fn ⟨dst, .binOp op t x y d,ty,pos,af,gu⟩ s H:= .trans rfl rfl
@[simp] theorem Ux (op:UnOp)(t:TypeId)(x:Operand):cE K rec fn ⟨dst, .unOp op t x,ty,pos,af,gu⟩ s H=dZ K fn ⟨dst, .unOp op t x,ty,pos,af,gu⟩ s H:= .trans rfl rfl
@[simp] theorem JH (a b:TypeId)(x:Operand):cE K rec fn ⟨dst, .convert a b x,ty,pos,af,gu⟩ s H=dZ K fn ⟨dst, .convert a b x,ty,pos,af,gu⟩ s H:= .trans rfl rfl
@[simp] theorem I6 (f:Fn)(a c:Array Operand):cE K rec fn ⟨dst, .makeFunc f a c,ty,pos,af,gu⟩ s H=dZ K fn ⟨dst, .makeFunc f a c,ty,pos,af,gu⟩ s H:= .trans rfl rfl
@[simp] theorem JI (t:TypeId)(r:Option Operand):cE K rec fn ⟨dst, .makeMap t r,ty,pos,af,gu⟩ s H=dZ K fn ⟨dst, .makeMap t r,ty,pos,af,gu⟩ s H:= .trans rfl rfl
@[simp] theorem GL (t:TypeId)(l c:Operand):cE K rec fn ⟨dst, .makeSlice t l c,ty,pos,af,gu⟩ s H=dZ K fn ⟨dst, .makeSlice t l c,ty,pos,af,gu⟩ s H:= .trans rfl rfl
@[simp] theorem Qt (t:TypeId)(x:Operand)(lo hi mx:Option Operand):cE K rec fn ⟨dst, .slice t x lo hi mx,ty,pos,af,gu⟩ s H=dZ K fn ⟨dst, .slice t x lo hi mx,ty,pos,af,gu⟩ s H:= .trans rfl rfl
@[simp] theorem GM (t:TypeId)(x:Operand)(f:Nat):cE K rec fn ⟨dst, .fieldAddr t x f,ty,pos,af,gu⟩ s H=dZ K fn ⟨dst, .fieldAddr t x f,ty,pos,af,gu⟩ s H:= .trans rfl rfl
@[simp] theorem GN (t:TypeId)(x i:Operand):cE K rec fn ⟨dst, .indexAddr t x i,ty,pos,af,gu⟩ s H=dZ K fn ⟨dst, .indexAddr t x i,ty,pos,af,gu⟩ s H:= .trans rfl rfl
@[simp] theorem NL (t:TypeId)(x k:Operand)(ok:Bool):cE K rec fn ⟨dst, .lookup t x k ok,ty,pos,af,gu⟩ s H=dZ K fn ⟨dst, .lookup t x k ok,ty,pos,af,gu⟩ s H:= .trans rfl rfl
@[simp] theorem GO (t:TypeId)(m k v:Operand):cE K rec fn ⟨dst, .mapUpdate t m k v,ty,pos,af,gu⟩ s H=dZ K fn ⟨dst, .mapUpdate t m k v,ty,pos,af,gu⟩ s H:= .trans rfl rfl
@[simp] theorem JJ (t:Operand)(i:Nat):cE K rec fn ⟨dst, .extract t i,ty,pos,af,gu⟩ s H=dZ K fn ⟨dst, .extract t i,ty,pos,af,gu⟩ s H:= .trans rfl rfl
@[simp] theorem JK (b:Builtin)(args:Array Operand)(ats:Array TypeId):cE K rec fn ⟨dst, .call ⟨.builtin b,args,ats⟩,ty,pos,af,gu⟩ s H=dZ K fn ⟨dst, .call ⟨.builtin b,args,ats⟩,ty,pos,af,gu⟩ s H:= .trans rfl rfl
@[simp] theorem Qu (x:Operand):cn K fn ⟨dst, .move x,ty,pos,af,gu⟩=true:= .trans rfl rfl
@[simp] theorem JL (x:Operand):cn K fn ⟨dst, .assign x,ty,pos,af,gu⟩=true:= .trans rfl rfl
@[simp] theorem Qv (c a b:Operand):cn K fn ⟨dst, .pick c a b,ty,pos,af,gu⟩=true:= .trans rfl rfl
@[simp] theorem NM (t:TypeId):cn K fn ⟨dst, .alloc t,ty,pos,af,gu⟩=false:= .trans rfl rfl
@[simp] theorem NO (t:TypeId)(ps:Array (Nat×Operand)):cn K fn ⟨dst, .build t ps,ty,pos,af,gu⟩=true:= .trans rfl rfl
@[simp] theorem Qw (t:TypeId)(a:Operand):cn K fn ⟨dst, .load t a,ty,pos,af,gu⟩=true:= .trans rfl rfl
@[simp] theorem NP (t:TypeId)(a x:Operand):cn K fn ⟨dst, .store t a x,ty,pos,af,gu⟩=false:= .trans rfl rfl
@[simp] theorem GP (x:Operand):cn K fn ⟨dst, .nilCheck x,ty,pos,af,gu⟩=true:= .trans rfl rfl
@[simp] theorem NQ (op:BinOp)(t:TypeId)(x y:Operand)(d:TypeId):cn K fn ⟨dst, .binOp op t x y d,ty,pos,af,gu⟩=true:= .trans rfl rfl
@[simp] theorem Qx (op:UnOp)(t:TypeId)(x:Operand):cn K fn ⟨dst, .unOp op t x,ty,pos,af,gu⟩=true:= .trans rfl rfl
@[simp] theorem I7 (a b:TypeId)(x:Operand):cn K fn ⟨dst, .convert a b x,ty,pos,af,gu⟩=true:= .trans rfl rfl
@[simp] theorem NR (t:TypeId)(x:Operand)(lo hi mx:Option Operand):cn K fn ⟨dst, .slice t x lo hi mx,ty,pos,af,gu⟩=true:= .trans rfl rfl
@[simp] theorem Gs (t:TypeId)(x:Operand)(f:Nat):cn K fn ⟨dst, .fieldAddr t x f,ty,pos,af,gu⟩=true:= .trans rfl rfl
@[simp] theorem NS (t:TypeId)(x:Operand)(f:Nat):cn K fn ⟨dst, .field t x f,ty,pos,af,gu⟩=true:= .trans rfl rfl
@[simp] theorem Gt (t:TypeId)(x i:Operand):cn K fn ⟨dst, .indexAddr t x i,ty,pos,af,gu⟩=true:= .trans rfl rfl
@[simp] theorem I8 (t:Operand)(i:Nat):cn K fn ⟨dst, .extract t i,ty,pos,af,gu⟩=true:= .trans rfl rfl
@[simp] theorem EC (t:TypeId)(n:Nat)(ps:Array (Nat×Operand)):cn K fn ⟨dst, .buildSlice t n ps,ty,pos,af,gu⟩=(match dst with|some d=> !K.own fn d|none=>true):= .trans rfl rfl
@[simp] theorem Uy (args:Array Operand)(ats:Array TypeId):cn K fn ⟨dst, .call ⟨.builtin .len,args,ats⟩,ty,pos,af,gu⟩=true:= .trans rfl rfl
@[simp] theorem JM (args:Array Operand)(ats:Array TypeId):cn K fn ⟨dst, .call ⟨.builtin .append,args,ats⟩,ty,pos,af,gu⟩=false:= .trans rfl rfl
@[simp] theorem Qy (f:Operand)(args:Array Operand)(ats:Array TypeId):cn K fn ⟨dst, .call ⟨.value f,args,ats⟩,ty,pos,af,gu⟩=false:= .trans rfl rfl
@[simp] theorem JN (t:TypeId)(a x:Operand):cF ⟨dst, .store t a x,ty,pos,af,gu⟩=false:=by cases dst<;>rfl
@[simp] theorem NT (c:Call):cF ⟨dst, .call c,ty,pos,af,gu⟩=false:=by cases dst<;>rfl
@[simp] theorem JO {d:Nat}(t:TypeId):cF ⟨some d, .alloc t,ty,pos,af,none⟩=true:= .trans rfl rfl
def rv (H:aj)(x:Option GV):Option (GV×aj):=match x with|some v=>some (v,H)|none=>none
@[congr] theorem acK {x y:Option GV}(h: ∀_:Unit,x=y):rv H x=rv H y:=by rw [h ()]
@[simp] theorem aba {v:GV}:rv H (some v)=some (v,H):= .trans rfl rfl
def rp (H:aj)(x:Option PV):Option (GV×aj):=match x with|some v=>some (.pure v,H)|none=>none
@[congr] theorem acL {x y:Option PV}(h: ∀_:Unit,x=y):rp H x=rp H y:=by rw [h ()]
@[simp] theorem abb {v:PV}:rp H (some v)=some (.pure v,H):= .trans rfl rfl
def rh (x:Option aj):Option (GV×aj):=match x with|some H=>some (aP,H)|none=>none
@[simp] theorem abc:rh (some H)=some (aP,H):= .trans rfl rfl
def rn (x:Option (Nm×aj))(g:Nm→GV):Option (GV×aj):=match x with|some (nm,H)=>some (g nm,H)|none=>none
@[simp] theorem abd {nm:Nm}{g:Nm→GV}:rn (some (nm,H)) g=some (g nm,H):= .trans rfl rfl
@[simp] theorem ZZ {x:Operand}:dZ K fn ⟨dst, .move x,ty,pos,af,gu⟩ s H=rv H (some (ev s x)):= .trans rfl rfl
@[simp] theorem Uz {x:Operand}:dZ K fn ⟨dst, .assign x,ty,pos,af,gu⟩ s H=rv H (some (ev s x)):= .trans rfl rfl
def I9 (c a b:GV):Option GV:=match c with| .pure (.bool t)=>some (if t then a else b)|_=>none
@[simp] theorem UA {t:Bool}{a b:GV}:I9 (.pure (.bool t)) a b=some (if t=true then a else b):= .trans rfl rfl
@[simp] theorem Z0 {c a b:Operand}:dZ K fn ⟨dst, .pick c a b,ty,pos,af,gu⟩ s H=rv H (I9 (ev s c) (ev s a) (ev s b)):=by
 simp only [dZ];unfold I9;generalize ev s c=g;cases g with
 |pure p=>cases p<;>rfl
 |_=>rfl
def wH (H:aj)(d:Nat)(x:Option (List GV)):Option (GV×aj):=match x with|some cs=>rn (iz H d (.box cs)) (fun nm=> .ay nm 0)|none=>none
@[simp] theorem Qz {d:Nat}{cs:List GV}:wH H d (some cs)=rn (iz H d (.box cs)) (fun nm=> .ay nm 0):= .trans rfl rfl
def rE (x:Option GV):Option (List GV):=match x with|some z=>bC z|none=>none
@[simp] theorem kD {z:GV}:rE (some z)=bC z:= .trans rfl rfl
@[simp] theorem Xy {d:Nat}{t:TypeId}:dZ K fn ⟨some d, .alloc t,ty,pos,af,gu⟩ s H=wH H d (rE (cw K.P t)):=by
 simp only [dZ]
 cases h:cw K.P t with
 |none=>rfl
 |some z=>
  simp only [kD,wH]
  cases bC z with
  |none=>rfl
  |some cs=>
   simp only
   cases iz H d (.box cs)with
   |none=>rfl
   |some x=>rfl
@[simp] theorem abe {d:Nat}{t:TypeId}{x:Operand}:dZ K fn ⟨some d, .box t x,ty,pos,af,gu⟩ s H=wH H d (bC (ev s x)):=by
 simp only [dZ,wH]
 cases bC (ev s x)with
 |none=>rfl
 |some cs=>
  simp only
  cases iz H d (.box cs)with
  |none=>rfl
  |some x=>rfl
@[simp] theorem Xz {fr:Fr}{d:Nat}{b:dH}:iz (fr::H) d b=if (fr.get d).isSome then none else some ((H.length,d),fr.ins d b::H):=by
 unfold iz km;simp only [List.length_cons,Nat.add_sub_cancel];rw [if_neg (by omega)];simp only [aj.get,aj.set,if_true];cases fr.get d<;>simp
@[simp] theorem Fr.get_nil {q:Nat}:Fr.get [] q=none:= .trans rfl rfl
@[simp] theorem Fr.cL {k q:Nat}{b:dH}{r:Fr}:Fr.get ((k,b)::r) q=if q=k then some b else Fr.get r q:= .trans rfl rfl
@[simp] theorem Fr.abf {q:Nat}{x:dH}:Fr.ins q x []=[(q,x)]:= .trans rfl rfl
@[simp] theorem Fr.sm {k q:Nat}{x b:dH}{r:Fr}:Fr.ins q x ((k,b)::r)=if q=k then (q,x)::r else if q<k then (q,x)::(k,b)::r else (k,b)::Fr.ins q x r:= .trans rfl rfl
@[simp] theorem aj.e9 {fr:Fr}{nm:Nm}:aj.get (fr::H) nm=if nm.1=H.length then fr.get nm.2 else aj.get H nm:= .trans rfl rfl
@[simp] theorem aj.jJ {fr:Fr}{nm:Nm}{b:dH}:aj.set (fr::H) nm b=if nm.1=H.length then fr.ins nm.2 b::H else fr::aj.set H nm b:= .trans rfl rfl
@[simp] theorem UB {l:List GV}:bC (.agg l)=some l:= .trans rfl rfl
@[simp] theorem QA {l:List PV}:bC (.pure (.agg l))=some (l.map .pure):= .trans rfl rfl
@[simp] theorem UC {k:IntKind}{n:Int}:bC (.pure (.int k n))=some [.pure (.int k n)]:= .trans rfl rfl
@[simp] theorem QB {b:Bool}:bC (.pure (.bool b))=some [.pure (.bool b)]:= .trans rfl rfl
@[simp] theorem NU {l:List (List PV)}:bC (.pure (.slice l))=some [.pure (.slice l)]:= .trans rfl rfl
@[simp] theorem XA {f:Nat}:bC (.pure (.fn f))=some [.pure (.fn f)]:= .trans rfl rfl
@[simp] theorem QC:bC (.pure .gf)=some [.pure .gf]:= .trans rfl rfl
@[simp] theorem QD:bC .aV=some [.aV]:= .trans rfl rfl
@[simp] theorem UD {nm:Nm}{es top lo len:Nat}:bC (.a8 nm es top lo len)=some [.a8 nm es top lo len]:= .trans rfl rfl
@[simp] theorem QE {f:Nat}{a c:List GV}:bC (.func f a c)=some [.func f a c]:= .trans rfl rfl
@[simp] theorem NV {nm:Nm}:bC (.yield nm)=some [.yield nm]:= .trans rfl rfl
@[simp] theorem QF:bm []=some []:= .trans rfl rfl
@[simp] theorem zM {p:PV}{r:List GV}:bm (.pure p::r)=(bm r).map (p:: ·):=by
 simp only [bm];cases bm r<;>rfl
@[simp] theorem NW (l:List PV):bm (l.map .pure)=some l:=oS l
@[simp] theorem QG {l:List GV}{r:List GV}:bm (.agg l::r)=none:= .trans rfl rfl
@[simp] theorem NY {r:List GV}:bm (.aV::r)=none:= .trans rfl rfl
@[simp] theorem QH {nm:Nm}{es top lo len:Nat}{r:List GV}:bm (.a8 nm es top lo len::r)=none:= .trans rfl rfl
def Z1 (x:Option (List PV))(l:List GV):GV:=match x with|some ps=> .pure (.agg ps)|none=> .agg l
@[congr] theorem ack {x y:Option (List PV)}{l:List GV}(h: ∀_:Unit,x=y):Z1 x l=Z1 y l:=by rw [h ()]
@[simp] theorem Z2 {ps:List PV}{l:List GV}:Z1 (some ps) l= .pure (.agg ps):= .trans rfl rfl
@[simp] theorem Z3 {l:List GV}:Z1 none l= .agg l:= .trans rfl rfl
@[simp] theorem Gu {l:List GV}:cZ l=Z1 (bm l) l:= .trans rfl rfl
def Z4 (x:Option (List PV))(l:List GV):GV:=match x with|some ps=> .pure (.tuple ps)|none=> .tuple l
@[congr] theorem acm {x y:Option (List PV)}{l:List GV}(h: ∀_:Unit,x=y):Z4 x l=Z4 y l:=by rw [h ()]
@[simp] theorem Z5 {ps:List PV}{l:List GV}:Z4 (some ps) l= .pure (.tuple ps):= .trans rfl rfl
@[simp] theorem Z6 {l:List GV}:Z4 none l= .tuple l:= .trans rfl rfl
@[simp] theorem QI {l:List GV}:mkTuple l=Z4 (bm l) l:= .trans rfl rfl
@[simp] theorem Z7 {t:TypeId}{a:Operand}:dZ K fn ⟨dst, .load t a,ty,pos,af,gu⟩ s H=rv H (kx K.P t H (ev s a)):= .trans rfl rfl
@[simp] theorem XB {t:TypeId}{a x:Operand}:dZ K fn ⟨dst, .store t a x,ty,pos,af,gu⟩ s H=rh (oH K.P t H (ev s a) (ev s x)):= .trans rfl rfl
def ED (ag:Option Bool)(sz:Option Nat)(off:Nat)(b:Option dH):Option GV:=
 match ag,sz,b with
 |some true,some size,some (.box cs)=>if off+size≤cs.length then some (cZ ((cs.drop off).take size))else none
 |some false,some _,some (.box cs)=>cs[off]?
 |_,_,_=>none
@[simp] theorem XC {sz off:Nat}{cs:List GV}:ED (some true) (some sz) off (some (.box cs))=if off+sz≤cs.length then some (cZ ((cs.drop off).take sz))else none:= .trans rfl rfl
@[simp] theorem XD {sz off:Nat}{cs:List GV}:ED (some false) (some sz) off (some (.box cs))=cs[off]? := .trans rfl rfl
@[simp] theorem UE {P:Program}{t:TypeId}{nm:Nm}{off:Nat}:kx P t H (.ay nm off)=ED (eI P t) (bp P t) off (H.get nm):=by
 unfold kx ED;generalize eI P t=x;generalize bp P t=y;simp only;generalize aj.get H nm=z;rcases x with _|ag<;>rcases y with _|sz<;>rcases z with _|b<;>try rfl
 all_goals (cases ag<;>try rfl)
 all_goals (cases b<;>rfl)
def ldP (ag:Option Bool)(sz:Option Nat)(cs:List PV):Option GV:=
 match ag,sz with
 |some true,some size=>if size≤cs.length then some (.pure (.agg (cs.take size)))else none
 |some false,some _=>(match cs[0]? with|some p=>some (.pure p)|none=>none)
 |_,_=>none
@[simp] theorem abh {sz:Nat}{cs:List PV}:ldP (some true) (some sz) cs=if sz≤cs.length then some (.pure (.agg (cs.take sz)))else none:= .trans rfl rfl
@[simp] theorem abi {sz:Nat}{p:PV}{cs:List PV}:ldP (some false) (some sz) (p::cs)=some (.pure p):= .trans rfl rfl
@[simp] theorem UF {P:Program}{t:TypeId}{cs:List PV}:kx P t H (.b7 cs)=ldP (eI P t) (bp P t) cs:=by
 unfold kx ldP;generalize eI P t=x;generalize bp P t=y;rcases x with _|ag<;>rcases y with _|sz<;>try rfl
 all_goals (cases ag<;>rfl)
def XE (ag:Option Bool)(sz:Option Nat)(es top i off:Nat)(b:Option dH):Option GV:=
  match ag,sz,b with
  |some ag,some size,some (.arr es' elems vf _)=>if es'=es∧vf≤top∧i<top∧top≤elems.length then
        (match elems[i]? with
        |some e=>if ag then (if off+size≤e.length then some (.pure (.agg ((e.drop off).take size)))else none)else (match e[off]? with|some p=>some (.pure p)|none=>none)
        |none=>none)
      else none
  |_,_,_=>none
def Z8 (ag:Option Bool)(sz:Option Nat)(nm:Nm)(es top i off:Nat)(b:Option dH):Option GV:=
 match ag,sz,b with
 |some ag,some _,some (.qY es' rows n)=>if ag=false∧es=1∧off=0∧i<top∧top≤n then (match rows[i]? with|some r=>some (.gR nm es' i r.length)|none=>none)else none
 |ag,sz,b=>XE ag sz es top i off b
@[congr] theorem acn {ag:Option Bool}{sz:Option Nat}{nm:Nm}{es top i off:Nat}{b b':Option dH}(h: ∀_:Unit,b=b'):Z8 ag sz nm es top i off b=Z8 ag sz nm es top i off b':=by rw [h ()]
@[simp] theorem abj {ag sz:Option _}{nm:Nm}{es top i off es' vf:Nat}{elems:List (List PV)}{ro:Bool}:Z8 ag sz nm es top i off (some (.arr es' elems vf ro))=XE ag sz es top i off (some (.arr es' elems vf ro)):=by
 cases ag<;>cases sz<;>rfl
@[simp] theorem UG {P:Program}{t:TypeId}{nm:Nm}{es top i off:Nat}:kx P t H (.eC nm es top i off)=Z8 (eI P t) (bp P t) nm es top i off (H.get nm):=by
 unfold kx Z8 XE;generalize eI P t=x;generalize bp P t=y;simp only;generalize aj.get H nm=z;rcases x with _|ag<;>rcases y with _|sz<;>rcases z with _|b<;>try rfl
 all_goals (cases b<;>rfl)
@[simp] theorem abk {sz es top i off es' vf:Nat}{elems:List (List PV)}{ro:Bool}:XE (some true) (some sz) es top i off (some (.arr es' elems vf ro))=if es'=es∧vf≤top∧i<top∧top≤elems.length then
        (match elems[i]? with
        |some e=>if off+sz≤e.length then some (.pure (.agg ((e.drop off).take sz)))else none
        |none=>none)
      else none:= .trans rfl rfl
@[simp] theorem abl {sz es top i off es' vf:Nat}{elems:List (List PV)}{ro:Bool}:XE (some false) (some sz) es top i off (some (.arr es' elems vf ro))=if es'=es∧vf≤top∧i<top∧top≤elems.length then
        (match elems[i]? with
        |some e=>(match e[off]? with|some p=>some (.pure p)|none=>none)
        |none=>none)
      else none:=by
  simp only [XE];split<;>simp
def UH (k:IntKind)(a b:Int):Int:=k.wrap (BitVec.ofInt k.bits a &&& BitVec.ofInt k.bits b).toNat
def Aa (k:IntKind)(a b:Int):Int:=k.wrap (BitVec.ofInt k.bits a|||BitVec.ofInt k.bits b).toNat
def Tw (k:IntKind)(a b:Int):Int:=k.wrap (BitVec.ofInt k.bits a^^^BitVec.ofInt k.bits b).toNat
@[simp] theorem UI {t:Nat}:qA (.tmp t)=false:= .trans rfl rfl
@[simp] theorem UJ {k:IntKind}{n:Int}:qA (.const (.int k n))=false:= .trans rfl rfl
@[simp] theorem UK:qA (.const (.slice none 0 0))=true:= .trans rfl rfl
theorem DI {op:BinOp}{t d:TypeId}{x y:Operand}:dZ K fn ⟨dst, .binOp op t x y d,ty,pos,af,gu⟩ s H=rp H (Eo K op t s x y):= .trans rfl rfl
@[simp] theorem XF {op:BinOp}{t d:TypeId}{x y:Operand}:dZ K fn ⟨dst, .binOp op t x y d,ty,pos,af,gu⟩ s H=rp H (if qA y=true then iy K op t (ev s x)else fu K op t (ev s x) (ev s y)):=by
 rw [DI];rfl
section
variable {t:TypeId} {k:IntKind} {a b:Int}
@[simp] theorem Z9:fu K .add t (.pure (.int k a)) (.pure (.int k b))=some (.int k (k.wrap (a+b))):=by simp [fu,oK]
@[simp] theorem aaa:fu K .sub t (.pure (.int k a)) (.pure (.int k b))=some (.int k (k.wrap (a-b))):=by simp [fu,oK]
@[simp] theorem aab:fu K .mul t (.pure (.int k a)) (.pure (.int k b))=some (.int k (k.wrap (a*b))):=by simp [fu,oK]
@[simp] theorem aac:fu K .quo t (.pure (.int k a)) (.pure (.int k b))=if b=0 then none else some (.int k (k.wrap (a.tdiv b))):=by simp [fu,oK]
@[simp] theorem aad:fu K .rem t (.pure (.int k a)) (.pure (.int k b))=if b=0 then none else some (.int k (a.tmod b)):=by simp [fu,oK]
@[simp] theorem aae:fu K .and t (.pure (.int k a)) (.pure (.int k b))=some (.int k (UH k a b)):=by simp [fu,oK,UH]
@[simp] theorem abm:fu K .or t (.pure (.int k a)) (.pure (.int k b))=some (.int k (Aa k a b)):=by simp [fu,oK,Aa]
@[simp] theorem aaf:fu K .xor t (.pure (.int k a)) (.pure (.int k b))=some (.int k (Tw k a b)):=by simp [fu,oK,Tw]
@[simp] theorem aag:fu K .eql t (.pure (.int k a)) (.pure (.int k b))=some (.bool (a==b)):=by simp [fu,oK]
@[simp] theorem aah:fu K .neq t (.pure (.int k a)) (.pure (.int k b))=some (.bool (a !=b)):=by simp [fu,oK]
@[simp] theorem aai:fu K .lss t (.pure (.int k a)) (.pure (.int k b))=some (.bool (decide (a<b))):=by simp [fu,oK]
@[simp] theorem aaj:fu K .leq t (.pure (.int k a)) (.pure (.int k b))=some (.bool (decide (a≤b))):=by simp [fu,oK]
@[simp] theorem aak:fu K .gtr t (.pure (.int k a)) (.pure (.int k b))=some (.bool (decide (b<a))):=by simp [fu,oK]
@[simp] theorem aal:fu K .geq t (.pure (.int k a)) (.pure (.int k b))=some (.bool (decide (b≤a))):=by simp [fu,oK]
@[simp] theorem aam {k':IntKind}:fu K .shr t (.pure (.int k a)) (.pure (.int k' b))=if b<0 then none else some (.int k (a.fdiv (2^(min b.toNat k.bits)))):=by simp [fu,zc]
end
@[simp] theorem XG {t:TypeId}{a b:Bool}:fu K .eql t (.pure (.bool a)) (.pure (.bool b))=(match K.P.underlying t with|some .bool=>some (.bool (a==b))|_=>none):=by
 simp only [fu];cases K.P.underlying t with
 |none=>rfl
 |some x=>cases x<;>rfl
@[simp] theorem XH {t:TypeId}{a b:Bool}:fu K .neq t (.pure (.bool a)) (.pure (.bool b))=(match K.P.underlying t with|some .bool=>some (.bool (!(a==b)))|_=>none):=by
 simp only [fu];cases K.P.underlying t with
 |none=>rfl
 |some x=>cases x<;>rfl
def XI (neg:Bool)(ks:Option (List SK))(a b:List PV):Option PV:=match ks with|some ks=>(match cg ks a b with|some q=>some (.bool (if neg then !q else q))|none=>none)|none=>none
@[simp] theorem XJ {t:TypeId}{a b:List PV}:fu K .eql t (.pure (.agg a)) (.pure (.agg b))=XI false (K.eqs t) a b:=by
 simp only [fu,XI];cases K.eqs t with
 |none=>rfl
 |some ks=>simp only;cases cg ks a b<;>rfl
@[simp] theorem XK {t:TypeId}{a b:List PV}:fu K .neq t (.pure (.agg a)) (.pure (.agg b))=XI true (K.eqs t) a b:=by
 simp only [fu,XI];cases K.eqs t with
 |none=>rfl
 |some ks=>simp only;cases cg ks a b<;>rfl
@[simp] theorem aan {neg:Bool}{ks:List SK}{a b:List PV}:XI neg (some ks) a b=(cg ks a b).map (fun q=> .bool (if neg then !q else q)):=by
 simp only [XI];cases cg ks a b<;>rfl
@[simp] theorem XL:cg [] [] []=some true:= .trans rfl rfl
@[simp] theorem XM {k:IntKind}{ks:List SK}{x y:Int}{a b:List PV}:cg (.int k::ks) (.int k x::a) (.int k y::b)=(cg ks a b).map (x==y && ·):=by
 simp only [cg,and_self,if_true];cases cg ks a b<;>rfl
def unV (op:UnOp)(x:GV):Option GV:=match op,x with
 | .not, .pure (.bool b)=>some (.pure (.bool (!b)))
 | .neg, .pure (.int k n)=>some (.pure (.int k (k.wrap (-n))))
 |_,_=>none
@[simp] theorem abn {b:Bool}:unV .not (.pure (.bool b))=some (.pure (.bool (!b))):= .trans rfl rfl
@[simp] theorem aao {op:UnOp}{t:TypeId}{x:Operand}:dZ K fn ⟨dst, .unOp op t x,ty,pos,af,gu⟩ s H=rv H (unV op (ev s x)):=by
 simp only [dZ];unfold unV;generalize ev s x=g;cases op<;>cases g<;>try rfl
 all_goals (rename_i p;cases p<;>rfl)
def cvV (a b:Option TypeDesc)(x:GV):Option GV:=match a,b,x with
 |some _,some (.int k), .pure (.int _ n)=>some (.pure (.int k (k.wrap n)))
 |some _,some .string, .pure (.str l)=>some (.pure (.str l))
 |_,_,_=>none
@[simp] theorem abo {d:TypeDesc}{k k':IntKind}{n:Int}:cvV (some d) (some (.int k)) (.pure (.int k' n))=some (.pure (.int k (k.wrap n))):= .trans rfl rfl
@[simp] theorem QJ {a b:TypeId}{x:Operand}:dZ K fn ⟨dst, .convert a b x,ty,pos,af,gu⟩ s H=rv H (cvV (K.P.underlying a) (K.P.underlying b) (ev s x)):=by
 simp only [dZ];unfold cvV;generalize ev s x=g;generalize K.P.underlying a=x1;generalize K.P.underlying b=x2;rcases x1 with _|d1<;>rcases x2 with _|d2<;>try rfl
 cases d2<;>cases g<;>try rfl
 all_goals (rename_i p;cases p<;>rfl)
def ncV (x:GV):Option GV:=match x with
 | .ay nm off=>some (.ay nm off)
 | .eC nm es top i off=>some (.eC nm es top i off)
 | .b7 cs=>some (.b7 cs)
 | .iA cs=>some (.iA cs)
 | .func f first cap=>some (.func f first cap)
 | .pure (.fn f)=>some (.pure (.fn f))
 | .yield nm=>some (.yield nm)
 |_=>none
@[simp] theorem aap {nm:Nm}{o:Nat}:ncV (.ay nm o)=some (.ay nm o):= .trans rfl rfl
@[simp] theorem NZ {x:Operand}:dZ K fn ⟨dst, .nilCheck x,ty,pos,af,gu⟩ s H=rv H (ncV (ev s x)):=by
 simp only [dZ];unfold ncV;generalize ev s x=g;cases g<;>try rfl
 all_goals (rename_i p;cases p<;>rfl)
@[simp] theorem QK {q:Nat}{nm:Nm}{o:Nat}:gZ q (.ay nm o)=some (.ay nm (o+q)):= .trans rfl rfl
@[simp] theorem QL {q:Nat}{nm:Nm}{es top i o:Nat}:gZ q (.eC nm es top i o)=some (.eC nm es top i (o+q)):= .trans rfl rfl
@[simp] theorem QM {q:Nat}{cs:List PV}:gZ q (.b7 cs)=if q≤cs.length then some (.b7 (cs.drop q))else none:= .trans rfl rfl
def faV (f:Option (Nat×Option Nat))(x:GV):Option GV:=match f with|some (off,some size)=>if size=0 then none else gZ off x|_=>none
@[simp] theorem aaq {off size:Nat}{x:GV}:faV (some (off,some size)) x=if size=0 then none else gZ off x:= .trans rfl rfl
def oa (P:Program)(t:TypeId)(f:Nat):Option (Nat×Option Nat):=(ma P t f).map fun x=>(x.1,bp P x.2)
def Zs (P:Program)(t:TypeId)(f:Nat):Option (Nat×Option Bool×Option Nat):=(ma P t f).map fun x=>(x.1,eI P x.2,bp P x.2)
@[simp] theorem JP {t:TypeId}{x:Operand}{f:Nat}:dZ K fn ⟨dst, .fieldAddr t x f,ty,pos,af,gu⟩ s H=rv H (faV (oa K.P t f) (ev s x)):=by
 simp only [dZ,faV,oa]
 cases ma K.P t f with
 |none=>rfl
 |some p=>
  obtain⟨off,ft⟩:=p;simp only [Option.map_some]
  cases bp K.P ft with
  |none=>rfl
  |some size=>
   simp only;split
   ·rfl
   ·cases gZ off (ev s x)<;>rfl
def XN (f:Option (Nat×Option Bool×Option Nat))(x:GV):Option GV:=match f,x with
 |some (off,some ag,some size), .agg cs=>if off+size≤cs.length then (if ag then some (cZ ((cs.drop off).take size))else cs[off]?)else none
 |some (off,some ag,some size), .pure (.agg cs)=>if off+size≤cs.length then (if ag then some (.pure (.agg ((cs.drop off).take size)))else (match cs[off]? with|some v=>some (.pure v)|none=>none))else none
 |_,_=>none
@[simp] theorem abp {off size:Nat}{cs:List GV}:XN (some (off,some true,some size)) (.agg cs)=if off+size≤cs.length then some (cZ ((cs.drop off).take size))else none:=by simp [XN]
@[simp] theorem aar {off size:Nat}{cs:List PV}:XN (some (off,some false,some size)) (.pure (.agg cs))=if off+size≤cs.length then (match cs[off]? with|some v=>some (.pure v)|none=>none)else none:=by simp [XN]
@[simp] theorem XO {t:TypeId}{x:Operand}{f:Nat}:dZ K fn ⟨dst, .field t x f,ty,pos,af,gu⟩ s H=rv H (XN (Zs K.P t f) (ev s x)):=by
 simp only [dZ,Zs]
 cases ma K.P t f with
 |none=>rfl
 |some p=>
  obtain⟨off,ft⟩:=p;simp only [Option.map_some];unfold XN
  cases eI K.P ft with
  |none=>rfl
  |some ag=>
   cases bp K.P ft with
   |none=>rfl
   |some size=>
    cases ev s x with
    |pure p=>
     cases p with
     |agg cs=>
      simp only;split
      ·cases ag
       ·simp only [Bool.false_eq_true,if_false];cases cs[off]? <;>rfl
       ·rfl
      ·rfl
     |_=>rfl
    |agg cs=>
     simp only;split
     ·cases ag
      ·simp only [Bool.false_eq_true,if_false];cases cs[off]? <;>rfl
      ·rfl
     ·rfl
    |_=>rfl
def fJ (P:Program)(t:TypeId):Option (Nat×Option Nat×Option Bool):=(ur P t).map fun x=>(x.1,bp P x.2,eI P x.2)
def gH (P:Program)(t:TypeId):Option (Option Nat):=(dr P t).map fun e=>bp P e
def iaS (es:Option (Option Nat))(x:GV)(i:Int):Option GV:=match es with
  |some (some size)=>(match x with
          | .a8 nm es top lo len=>if es=size∧i<len then some (.eC nm es top (lo+i.toNat) 0)else none
          | .pure (.slice l)=>(match l[i.toNat]? with|some cs=>if cs.length=size then some (.b7 cs)else none|none=>none)
          | .lits l=>(match l[i.toNat]? with|some cs=>if cs.length=size then some (.iA cs)else none|none=>none)
          | .gR nm es q len=>if es=size∧i<len then some (.je nm es q i.toNat 0)else none
          |_=>none)
  |_=>none
def XP (ar:Option (Nat×Option Nat×Option Bool))(es:Option (Option Nat))(x i:GV):Option GV:=match i with
 | .pure (.int _ i)=>if i<0 then none else
  (match ar with
  |some (n,some size,_)=>if (n:Int)≤i then none else gZ (i.toNat*size) x
  |some (_,none,_)=>none
  |none=>iaS es x i)
 |_=>none
@[simp] theorem abr {n size:Nat}{ag:Option Bool}{es:Option (Option Nat)}{x:GV}{k:IntKind}{i:Int}:XP (some (n,some size,ag)) es x (.pure (.int k i))=if i<0 then none else if (n:Int)≤i then none else gZ (i.toNat*size) x:= .trans rfl rfl
@[simp] theorem XQ {es:Option (Option Nat)}{x:GV}{k:IntKind}{i:Int}:XP none es x (.pure (.int k i))=if i<0 then none else iaS es x i:= .trans rfl rfl
@[simp] theorem abt {size:Nat}{nm:Nm}{es top lo len:Nat}{i:Int}:iaS (some (some size)) (.a8 nm es top lo len) i=if es=size∧i<len then some (.eC nm es top (lo+i.toNat) 0)else none:= .trans rfl rfl
@[simp] theorem aas {size:Nat}{l:List (List PV)}{i:Int}:iaS (some (some size)) (.pure (.slice l)) i=(match l[i.toNat]? with|some cs=>if cs.length=size then some (.b7 cs)else none|none=>none):= .trans rfl rfl
@[simp] theorem JQ {t:TypeId}{x i:Operand}:dZ K fn ⟨dst, .indexAddr t x i,ty,pos,af,gu⟩ s H=rv H (XP (fJ K.P t) (gH K.P t) (ev s x) (ev s i)):=by
 have h:lu K t (ev s x) (ev s i)=XP (fJ K.P t) (gH K.P t) (ev s x) (ev s i):=by
  unfold lu XP fJ gH;generalize ev s i=g;generalize ev s x=gx
  cases g with
  |pure p=>
   cases p with
   |int k n=>
    simp only;split
    ·rfl
    ·cases ur K.P t with
     |some p=>
      obtain⟨n,e⟩:=p;simp only [Option.map_some];cases bp K.P e<;>rfl
     |none=>
      simp only [Option.map_none]
      cases dr K.P t with
      |none=>rfl
      |some e=>
       simp only [Option.map_some];cases bp K.P e<;>rfl
   |_=>rfl
  |_=>rfl
 simp only [dZ,h];cases XP (fJ K.P t) (gH K.P t) (ev s x) (ev s i)<;>rfl
def bdV (ar:Option (Option Nat))(pl:Option (List (Nat×Nat)))(z:Option (List GV))(ps:List (Nat×GV)):Option GV:=
 match z with
 |some zs=>
  (match (match ar with
   |some (some size)=>eH (fun i=>some (i*size,size)) zs ps
   |some none=>none
   |none=>(match pl with|some l=>eH (fun i=>l[i]?) zs ps|none=>none))with
  |some cs=>some (cZ cs)
  |none=>none)
 |none=>none
def bdM (x:Option (List GV)):Option GV:=match x with|some cs=>some (cZ cs)|none=>none
@[simp] theorem aat {cs:List GV}:bdM (some cs)=some (cZ cs):= .trans rfl rfl
@[simp] theorem abv {size:Nat}{pl:Option (List (Nat×Nat))}{zs:List GV}{ps:List (Nat×GV)}:bdV (some (some size)) pl (some zs) ps=bdM (eH (fun i=>some (i*size,size)) zs ps):= .trans rfl rfl
@[simp] theorem UL {l:List (Nat×Nat)}{zs:List GV}{ps:List (Nat×GV)}:bdV none (some l) (some zs) ps=bdM (eH (fun i=>l[i]?) zs ps):= .trans rfl rfl
@[simp] theorem XR {t:TypeId}{ps:Array (Nat×Operand)}:dZ K fn ⟨dst, .build t ps,ty,pos,af,gu⟩ s H=rv H (bdV ((fJ K.P t).map (·.2.1)) (fG K.P t) (rE (cw K.P t)) (ps.toList.map (uA s))):=by
 simp only [dZ,bdV,fJ]
 cases cw K.P t with
 |none=>rfl
 |some z=>
  simp only [kD]
  cases bC z with
  |none=>rfl
  |some zs=>
   simp only
   cases ur K.P t with
   |some p=>
    obtain⟨n,e⟩:=p;simp only [Option.map_some]
    cases bp K.P e with
    |none=>rfl
    |some size=>
     simp only;cases eH (fun i=>some (i*size,size)) zs (ps.toList.map (uA s))<;>rfl
   |none=>
    simp only [Option.map_none]
    cases fG K.P t with
    |none=>rfl
    |some l=>
     simp only;cases eH (fun i=>l[i]?) zs (ps.toList.map (uA s))<;>rfl
@[simp] theorem abw {x:Nat×Operand}:uA s x=(x.1,ev s x.2):= .trans rfl rfl
@[simp] theorem XS {place:Nat→Option (Nat×Nat)}{cells:List GV}:eH place cells []=some cells:= .trans rfl rfl
def zN (place:Nat→Option (Nat×Nat))(cells:List GV)(rest:List (Nat×GV))(p:Option (Nat×Nat))(vs:Option (List GV)):Option (List GV):=
 match p,vs with
 |some (off,size),some vs=>if vs.length≠size∨off+vs.length>cells.length then none else eH place (aD cells off vs) rest
 |_,_=>none
@[congr] theorem XT {place:Nat→Option (Nat×Nat)}{cells:List GV}{rest:List (Nat×GV)}{p p':Option (Nat×Nat)}{vs vs':Option (List GV)}(h: ∀_:Unit,p=p')(h': ∀_:Unit,vs=vs'):zN place cells rest p vs=zN place cells rest p' vs':=by rw [h (),h' ()]
@[simp] theorem QN {place:Nat→Option (Nat×Nat)}{cells:List GV}{rest:List (Nat×GV)}{off size:Nat}{vs:List GV}:zN place cells rest (some (off,size)) (some vs)=
  if vs.length≠size∨off+vs.length>cells.length then none else eH place (aD cells off vs) rest:= .trans rfl rfl
@[simp] theorem UM {place:Nat→Option (Nat×Nat)}{cells:List GV}{i:Nat}{v:GV}{rest:List (Nat×GV)}:eH place cells ((i,v)::rest)=zN place cells rest (place i) (bC v):=by
 simp only [eH]
 cases place i with
 |none=>rfl
 |some p=>obtain⟨off,size⟩:=p;cases bC v<;>rfl
@[simp] theorem UN {α:Type}{l xs:List α}{off:Nat}:aD l off xs=l.take off++xs++l.drop (off+xs.length):= .trans rfl rfl
def Ja (size off:Nat)(cells':List GV×aj)(nm:Nm):Option aj:=match cells'.2.get nm with
 |some (.box cs)=>if off+size≤cs.length then some (cells'.2.set nm (.box (aD cs off cells'.1)))else none
 |_=>none
def stB (size off:Nat)(cs':List GV)(H:aj)(nm:Nm)(b:Option dH):Option aj:=match b with
 |some (.box cs)=>if off+size≤cs.length then some (H.set nm (.box (aD cs off cs')))else none
 |_=>none
@[congr] theorem acu {size off:Nat}{cs':List GV}{nm:Nm}{b b':Option dH}(h: ∀_:Unit,b=b'):stB size off cs' H nm b=stB size off cs' H nm b':=by rw [h ()]
@[simp] theorem abx {size off:Nat}{cs' cs:List GV}{nm:Nm}:stB size off cs' H nm (some (.box cs))=if off+size≤cs.length then some (H.set nm (.box (aD cs off cs')))else none:= .trans rfl rfl
@[simp] theorem XU {size off:Nat}{cs':List GV}{nm:Nm}:Ja size off (cs',H) nm=stB size off cs' H nm (H.get nm):=by
 unfold Ja stB;rfl
def UO (sz:Option Nat)(cells:Option (List GV))(k:Nat→List GV→Option aj):Option aj:=match sz,cells with|some size,some cells=>if cells.length≠size then none else k size cells|_,_=>none
@[congr] theorem acv {sz sz':Option Nat}{cells cells':Option (List GV)}{k:Nat→List GV→Option aj}(h: ∀_:Unit,sz=sz')(h': ∀_:Unit,cells=cells'):UO sz cells k=UO sz' cells' k:=by rw [h (),h' ()]
@[simp] theorem aav {size:Nat}{cells:List GV}{k:Nat→List GV→Option aj}:UO (some size) (some cells) k=if cells.length≠size then none else k size cells:= .trans rfl rfl
@[simp] theorem QO {P:Program}{t:TypeId}{nm:Nm}{off:Nat}{v:GV}:oH P t H (.ay nm off) v=UO (bp P t) (bC v) fun size cells=>Ja size off (da H nm.1 cells) nm:=by
 unfold oH UO
 cases bp P t with
 |none=>rfl
 |some size=>
  cases bC v with
  |none=>rfl
  |some cells=>rfl
def Jb (size es top i off:Nat)(ps:List PV×aj)(nm:Nm):Option aj:=match ps.2.get nm with
  |some (.arr es' elems _ ro)=>if es'=es∧ro=false∧top=elems.length∧i<top then
          (match elems[i]? with
          |some e=>if off+size≤e.length then some (ps.2.set nm (.arr es' (elems.set i (aD e off ps.1)) elems.length false))else none
          |none=>none)
        else none
  |_=>none
@[simp] theorem QP {P:Program}{t:TypeId}{nm:Nm}{es top i off:Nat}{v:GV}:oH P t H (.eC nm es top i off) v=UO (bp P t) (bC v) fun size cells=>Jb size es top i off (bO H cells) nm:=by
 unfold oH UO
 cases bp P t with
 |none=>rfl
 |some size=>
  cases bC v with
  |none=>rfl
  |some cells=>rfl
def stA (size es top i off:Nat)(ps:List PV)(H:aj)(nm:Nm)(b:Option dH):Option aj:=match b with
  |some (.arr es' elems _ ro)=>if es'=es∧ro=false∧top=elems.length∧i<top then
          (match elems[i]? with
          |some e=>if off+size≤e.length then some (H.set nm (.arr es' (elems.set i (aD e off ps)) elems.length false))else none
          |none=>none)
        else none
  |_=>none
@[congr] theorem acw {size es top i off:Nat}{ps:List PV}{nm:Nm}{b b':Option dH}(h: ∀_:Unit,b=b'):stA size es top i off ps H nm b=stA size es top i off ps H nm b':=by rw [h ()]
@[simp] theorem aby {size es top i off es' vf:Nat}{ps:List PV}{nm:Nm}{elems:List (List PV)}{ro:Bool}:stA size es top i off ps H nm (some (.arr es' elems vf ro))=if es'=es∧ro=false∧top=elems.length∧i<top then
          (match elems[i]? with
          |some e=>if off+size≤e.length then some (H.set nm (.arr es' (elems.set i (aD e off ps)) elems.length false))else none
          |none=>none)
        else none:= .trans rfl rfl
@[simp] theorem XV {size es top i off:Nat}{ps:List PV}{nm:Nm}:Jb size es top i off (ps,H) nm=stA size es top i off ps H nm (H.get nm):=by
 unfold Jb stA;rfl
@[simp] theorem Jc {l0:Nat}:da H l0 []=([],H):= .trans rfl rfl
def lcC (l0:Nat)(r:List GV)(x:GV×aj):List GV×aj:=(x.1::(da x.2 l0 r).1,(da x.2 l0 r).2)
@[congr] theorem acx {l0:Nat}{r:List GV}{x y:GV×aj}(h: ∀_:Unit,x=y):lcC l0 r x=lcC l0 r y:=by rw [h ()]
@[simp] theorem aax {l0:Nat}{r:List GV}{g:GV}:lcC l0 r (g,H)=(g::(da H l0 r).1,(da H l0 r).2):= .trans rfl rfl
@[simp] theorem GQ {l0:Nat}{g:GV}{r:List GV}:da H l0 (g::r)=lcC l0 r (eZ H l0 g):= .trans rfl rfl
@[simp] theorem Jd {l0:Nat}{p:PV}:eZ H l0 (.pure p)=(.pure p,H):= .trans rfl rfl
@[simp] theorem Je {l0:Nat}:eZ H l0 .aV=(.aV,H):= .trans rfl rfl
@[simp] theorem Jf {l0:Nat}{f:Nat}{a c:List GV}:eZ H l0 (.func f a c)=(if dE l0 a && dE l0 c then .func f a c else aP,H):= .trans rfl rfl
@[simp] theorem JR {l0:Nat}{nm:Nm}{es top lo len:Nat}:eZ H l0 (.a8 nm es top lo len)=if nm.1≤l0 then (.a8 nm es top lo len,H)else (.pure (dC H (.a8 nm es top lo len)).1,(dC H (.a8 nm es top lo len)).2):= .trans rfl rfl
@[simp] theorem JS:bO H []=([],H):= .trans rfl rfl
def pcC (r:List GV)(x:PV×aj):List PV×aj:=(x.1::(bO x.2 r).1,(bO x.2 r).2)
@[congr] theorem acy {r:List GV}{x y:PV×aj}(h: ∀_:Unit,x=y):pcC r x=pcC r y:=by rw [h ()]
@[simp] theorem aay {r:List GV}{g:PV}:pcC r (g,H)=(g::(bO H r).1,(bO H r).2):= .trans rfl rfl
@[simp] theorem Jg {g:GV}{r:List GV}:bO H (g::r)=pcC r (dC H g):= .trans rfl rfl
@[simp] theorem JT {p:PV}:dC H (.pure p)=(p,H):= .trans rfl rfl
@[simp] theorem JU:dC H .aV=(.slice [],H):= .trans rfl rfl
def BO (es top lo len:Nat)(H:aj)(nm:Nm)(b:Option dH):PV×aj:=match b with
  |some (.arr es' elems vf _)=>if es'=es∧vf≤top∧lo+len≤top∧top≤elems.length then (.slice ((elems.drop lo).take len),H.set nm (.arr es' elems vf true))else (.dead,H)
  |_=>(.dead,H)
@[congr] theorem aaz {es top lo len:Nat}{nm:Nm}{b b':Option dH}(h: ∀_:Unit,b=b'):BO es top lo len H nm b=BO es top lo len H nm b':=by rw [h ()]
@[simp] theorem XW {es top lo len es' vf:Nat}{nm:Nm}{elems:List (List PV)}{ro:Bool}:BO es top lo len H nm (some (.arr es' elems vf ro))=
  if es'=es∧vf≤top∧lo+len≤top∧top≤elems.length then (.slice ((elems.drop lo).take len),H.set nm (.arr es' elems vf true))else (.dead,H):= .trans rfl rfl
@[simp] theorem N0 {nm:Nm}{es top lo len:Nat}:dC H (.a8 nm es top lo len)=BO es top lo len H nm (H.get nm):=by
 rw [mL];unfold BO
 cases H.get nm with
 |none=>rfl
 |some b=>cases b<;>rfl
@[simp] theorem abB {x:Operand}{t:TypeId}:dZ K fn ⟨dst, .call ⟨.builtin .len,#[x],#[t]⟩,ty,pos,af,gu⟩ s H=rp H ((CP K t H (ev s x)).map (.int .i64)):=by
 show (match CP K t H (ev s x)with|some n=>some (GV.pure (.int .i64 n),H)|none=>none)=_
 cases CP K t H (ev s x)<;>rfl
def N4 (d:Option TypeDesc)(H:aj)(x:GV):Option Int:=
 match d,x with
 |some (.array n _),_=>some n
 |some (.slice _), .a8 _ _ _ _ len=>some len
 |some (.slice _), .gR _ _ _ len=>some len
 |some (.slice _), .aV=>some 0
 |some (.slice _), .lits l=>some l.length
 |some (.slice _), .pure (.slice l)=>some l.length
 |some .string, .pure (.str l)=>some l.length
 |some (.map _ _), .pure .oM=>some 0
 |some (.map _ _), .map nm=>(match H.get nm with|some (.map es)=>some es.length|_=>none)
 |_,_=>none
@[simp] theorem aaA {t:TypeId}{x:GV}:CP K t H x=N4 (K.P.underlying t) H x:= .trans rfl rfl
@[simp] theorem aaB {e:TypeId}{nm:Nm}{es top lo len:Nat}:N4 (some (.slice e)) H (.a8 nm es top lo len)=some (len:Int):= .trans rfl rfl
@[simp] theorem XX {e:TypeId}:N4 (some (.slice e)) H .aV=some 0:= .trans rfl rfl
@[simp] theorem XY {e:TypeId}{l:List (List PV)}:N4 (some (.slice e)) H (.pure (.slice l))=some (l.length:Int):= .trans rfl rfl
@[simp] theorem QQ {t:Operand}{i:Nat}:dZ K fn ⟨dst, .extract t i,ty,pos,af,gu⟩ s H=rv H (match ev s t with| .tuple l=>l[i]? | .pure (.tuple l)=>(match l[i]? with|some v=>some (.pure v)|none=>none)|_=>none):=by
 simp only [dZ]
 cases ev s t with
 |tuple l=>simp only;cases l[i]? <;>rfl
 |pure p=>
  cases p with
  |tuple l=>simp only;cases l[i]? <;>rfl
  |_=>rfl
 |_=>rfl
@[simp] theorem XZ {r:GV}:pY [r]=r:= .trans rfl rfl
@[simp] theorem X0:pY []= .pure (.tuple []):= .trans rfl rfl
@[simp] theorem X1 {a b:GV}{l:List GV}:pY (a::b::l)=mkTuple (a::b::l):= .trans rfl rfl
@[simp] theorem oX {p:PV}:dn H (.pure p)=(.pure p,H):= .trans rfl rfl
@[simp] theorem BP {nm:Nm}{o:Nat}:dn H (.ay nm o)=(.ay nm o,H):= .trans rfl rfl
@[simp] theorem UP {p:PV}:canon (.pure p)= .pure p:= .trans rfl rfl
@[simp] theorem UQ {nm:Nm}{o:Nat}:canon (.ay nm o)= .ay nm o:= .trans rfl rfl
@[simp] theorem QR {nm:Nm}:canon (.yield nm)= .yield nm:= .trans rfl rfl
@[simp] theorem UR:canon .aV= .pure (.slice []):= .trans rfl rfl
@[simp] theorem X2 {nm:Nm}{es top lo len:Nat}:canon (.a8 nm es top lo len)= .a8 nm es top lo len:= .trans rfl rfl
@[simp] theorem Gv {l:List GV}:canon (.agg l)=cZ (l.map cj):= .trans rfl rfl
@[simp] theorem QS {p:PV}:cj (.pure p)= .pure p:= .trans rfl rfl
@[simp] theorem QT:cj .aV= .pure (.slice []):= .trans rfl rfl
@[simp] theorem US {nm:Nm}{es top lo len:Nat}:cj (.a8 nm es top lo len)= .a8 nm es top lo len:= .trans rfl rfl
@[simp] theorem QU {l:List GV}:canon (.tuple l)=mkTuple (l.map fun g=>match g with| .agg l=>cZ (l.map cj)|g=>cj g):= .trans rfl rfl
@[simp] theorem UT {l0:Nat}{p:PV}:clean H l0 (.pure p)= .pure p:= .trans rfl rfl
@[simp] theorem UU {l0:Nat}:clean H l0 .aV= .aV:= .trans rfl rfl
@[simp] theorem UW {l0:Nat}{nm:Nm}{o:Nat}:clean H l0 (.ay nm o)=if nm.1≤l0 then .ay nm o else aP:= .trans rfl rfl
@[simp] theorem X3 {l0:Nat}{nm:Nm}:clean H l0 (.map nm)=if nm.1≤l0 then .map nm else aP:= .trans rfl rfl
@[simp] theorem X4 {l0:Nat}{nm:Nm}{es top lo len:Nat}:clean H l0 (.a8 nm es top lo len)=if nm.1≤l0 then .a8 nm es top lo len else .pure (hJ H nm es top lo len):= .trans rfl rfl
def acz (f:Nat)(a:List GV)(x:Option (List GV)):GV:=match x with|some c=> .func f a c|none=>aP
@[simp] theorem UX {l0:Nat}{f:Nat}{a c:List GV}:clean H l0 (.func f a c)=if dE l0 a && dE l0 c then .func f a c else if dE l0 a then acz f a (pV H l0 c)else aP:= .trans rfl rfl
@[simp] theorem UY {l0:Nat}{cs:List PV}:clean H l0 (.b7 cs)= .b7 cs:= .trans rfl rfl
@[simp] theorem sB {l0:Nat}{l:List GV}:clean H l0 (.agg l)=cZ (l.map (cI H l0)):= .trans rfl rfl
@[simp] theorem QV {l0:Nat}{l:List GV}:clean H l0 (.tuple l)=mkTuple (l.map (iB H l0)):= .trans rfl rfl
@[simp] theorem UZ {l0:Nat}{l:List GV}:iB H l0 (.agg l)=cZ (l.map (cI H l0)):= .trans rfl rfl
@[simp] theorem QW {l0:Nat}{p:PV}:iB H l0 (.pure p)= .pure p:= .trans rfl rfl
@[simp] theorem QX {l0:Nat}:iB H l0 .aV= .aV:= .trans rfl rfl
@[simp] theorem U0 {l0:Nat}{nm:Nm}{es top lo len:Nat}:iB H l0 (.a8 nm es top lo len)=if nm.1≤l0 then .a8 nm es top lo len else .pure (hJ H nm es top lo len):= .trans rfl rfl
@[simp] theorem od {l0:Nat}{p:PV}:cI H l0 (.pure p)= .pure p:= .trans rfl rfl
@[simp] theorem N5 {l0:Nat}:cI H l0 .aV= .aV:= .trans rfl rfl
@[simp] theorem U1 {l0:Nat}{nm:Nm}{es top lo len:Nat}:cI H l0 (.a8 nm es top lo len)=if nm.1≤l0 then .a8 nm es top lo len else .pure (hJ H nm es top lo len):= .trans rfl rfl
def Yi (es top lo len:Nat)(b:Option dH):PV:=match b with
 |some (.arr es' elems vf _)=>if es'=es∧vf≤top∧lo+len≤top∧top≤elems.length then .slice ((elems.drop lo).take len)else .dead
 |_=> .dead
@[simp] theorem abC {es top lo len es' vf:Nat}{elems:List (List PV)}{ro:Bool}:Yi es top lo len (some (.arr es' elems vf ro))=if es'=es∧vf≤top∧lo+len≤top∧top≤elems.length then .slice ((elems.drop lo).take len)else .dead:= .trans rfl rfl
@[simp] theorem tB {nm:Nm}{es top lo len:Nat}:jU H nm es top lo len=Yi es top lo len (H.get nm):=by
 unfold jU Yi
 cases H.get nm with
 |none=>rfl
 |some b=>cases b<;>rfl
def slM (es top lo len:Nat)(b:Option dH):PV:=match b with
 |some (.qY _ rows n)=>if es=1∧lo+len≤top∧top≤n then .slice (((rows.drop lo).take len).map fun r=> [.slice r])else .dead
 |b=>Yi es top lo len b
@[simp] theorem abD {es top lo len es' vf:Nat}{elems:List (List PV)}{ro:Bool}:slM es top lo len (some (.arr es' elems vf ro))=if es'=es∧vf≤top∧lo+len≤top∧top≤elems.length then .slice ((elems.drop lo).take len)else .dead:= .trans rfl rfl
@[simp] theorem N6 {nm:Nm}{es top lo len:Nat}:hJ H nm es top lo len=slM es top lo len (H.get nm):=by
 unfold hJ;rw [tB];unfold slM
 cases H.get nm with
 |none=>rfl
 |some b=>cases b<;>rfl
@[simp] theorem X5 {l0:Nat}:dE l0 []=true:= .trans rfl rfl
@[simp] theorem U2 {l0:Nat}{nm:Nm}{o:Nat}{r:List GV}:dE l0 (.ay nm o::r)=(decide (nm.1≤l0) && dE l0 r):= .trans rfl rfl
theorem ae {f:Nat}{c:Nat}{r:GV}{fr:Fr}(h:K.Hs f=false):gG K f c r (fr::H)=some (canon (clean (fr::H) (H.length-1) r),H):=by
 unfold gG;simp [h]
end
end
end Go.Gh
