/- Texts joined: the evaluator over ghost values, its soundness, the walks. Spaces struck and names made short by a program, for the size. -/
import Derived.Test.YtkcmcjohoockcaaGreatGc4h
namespace Go.Gh
open Go.Proofs
set_option linter.unusedVariables false
set_option linter.unusedSimpArgs false
set_option linter.unnecessarySimpa false
set_option maxRecDepth 100000
set_option maxHeartbeats 8000000
def fK:Nat→Nat|0=>90139|1=>1000000024631|_=>2000000024631
def dw:Nat→Nat|0=>110619|1=>1000000041015|_=>2000000041015
def fo:Nat→Nat|0=>217115|1=>1000000057399|_=>2000000057399
def kq:Nat→Nat|1=>2|_=>1
def gO (L:Nat)(r0:aH)(ai:List ak):dM:= .box [.pure (.int .i64 r0.wide), .pure (.int .i64 r0.deep), .aW (L,188441) 2 r0.ah.length 0 r0.ah.length, .aW (L,339993) 5 r0.ae.length 0 r0.ae.length, .aS,cv (L,393241) 1 (r0.aY.map aG),cv (L,62) 9 (ai.map ak.row)]
def dW (L q:Nat)(s:ay):dM:= .box [.aW (L,fK q) 1 s.ah.length 0 s.ah.length, .aW (L,dw q) 2 s.ao.length 0 s.ao.length, .aW (L,fo q) 2 s.ae.length 0 s.ae.length]
structure SF (F:Fr)(k1 k2 k3:Nat)(s:ay):Prop where
 h1: ∃v,v≤s.ah.length∧F.get k1=some (.arr 1 (s.ah.map aG) v false)
 h2: ∃v,v≤s.ao.length∧F.get k2=some (.arr 2 (s.ao.map aF.row) v false)
 h3: ∃v,v≤s.ae.length∧F.get k3=some (.arr 2 (s.ae.map br.row) v false)
structure FB (L:Nat)(F:Fr)(r0:aH)(ai:List ak)(sb:dM):Prop where
 ia:F.ia
 g6:F.get 6=some ir
 g7:F.get 7=some (gO L r0 ai)
 g8:F.get 8=some sb
 gp:F.get 188441=some (.arr 2 (r0.ah.map aQ.row) 0 false)
 gt:F.get 339993=some (.arr 5 (r0.ae.map aV.row) 0 false)
 gl:r0.aY≠[]→F.get 393241=some (.arr 1 (r0.aY.map aG) 0 false)
 OL:ai=[]→F.get 62=none
 ga:ai≠[]→F.get 62=some (.arr 9 (ai.map ak.row) 0 false)
 ref: ∀x∈F,x.1≠8→ ∀k,gF k=true→gE (L,k) x.2=true
structure FI (L:Nat)(F:Fr)(r0:aH)(ai:List ak)(s:ay)(q:Nat):Prop extends FB L F r0 ai (dW L q s) where
 sc:SF F (fK q) (dw q) (fo q) s
 DZ: ∀k,gF k=true→F.get k≠none→k=fK q∨k=dw q∨k=fo q
structure FM (L:Nat)(F:Fr)(r0:aH)(ai:List ak)(s:ay)(q:Nat)(t:ay):Prop extends FB L F r0 ai (dW L q s) where
 sc:SF F (fK q) (dw q) (fo q) s
 nx:SF F (fK (kq q)) (dw (kq q)) (fo (kq q)) t
 DZ: ∀k,gF k=true→F.get k≠none→(k=fK q∨k=dw q∨k=fo q)∨(k=fK (kq q)∨k=dw (kq q)∨k=fo (kq q))
theorem pQ (q:Nat)(hq:q≤2):fK q≠dw q∧fK q≠fo q∧dw q≠fo q∧fK q≠fK (kq q)∧fK q≠dw (kq q)∧fK q≠fo (kq q)∧dw q≠fK (kq q)∧dw q≠dw (kq q)∧dw q≠fo (kq q)∧fo q≠fK (kq q)∧fo q≠dw (kq q)∧fo q≠fo (kq q):=by
 match q,hq with
 |0,_=>decide
 |1,_=>decide
 |2,_=>decide
theorem tu (q:Nat):1≤kq q∧kq q≤2:=by
 unfold kq;split<;>omega
def fixed:List Nat:=[6,7,8,62,188441,339993,393241]
theorem lI (q:Nat)(hq:q≤2):(∀k∈fixed,k≠fK q)∧(∀k∈fixed,k≠dw q)∧(∀k∈fixed,k≠fo q):=by
 match q,hq with
 |0,_=>decide
 |1,_=>decide
 |2,_=>decide
theorem Hc: ∀k∈fixed,gF k=false:=by decide
theorem FB.ins {L:Nat}{F:Fr}{r0:aH}{ai:List ak}{sb:dM}(h:FB L F r0 ai sb){k:Nat}{b:dM}(hk: ∀j∈fixed,j≠k)(hb: ∀nm,gE nm b=true):FB L (F.ins k b) r0 ai sb where
 ia:=Fr.cW h.ia
 g6:=(Fr.ax _ (hk 6 (by decide)) _).trans h.g6
 g7:=(Fr.ax _ (hk 7 (by decide)) _).trans h.g7
 g8:=(Fr.ax _ (hk 8 (by decide)) _).trans h.g8
 gp:=(Fr.ax _ (hk 188441 (by decide)) _).trans h.gp
 gt:=(Fr.ax _ (hk 339993 (by decide)) _).trans h.gt
 gl:=fun hl=>(Fr.ax _ (hk 393241 (by decide)) _).trans (h.gl hl)
 OL:=fun ha=>(Fr.ax _ (hk 62 (by decide)) _).trans (h.OL ha)
 ga:=fun ha=>(Fr.ax _ (hk 62 (by decide)) _).trans (h.ga ha)
 ref:=fun x hx hne k' hk'=>by
  rcases Fr.pF h.ia hx with e|⟨e,_⟩
  ·subst e;exact hb _
  ·exact h.ref x e hne k' hk'
def qZ (F:Fr)(q v1 v2 v3:Nat)(t:ay):Fr:=((F.ins (fK q) (.arr 1 (t.ah.map aG) v1 false)).ins (dw q) (.arr 2 (t.ao.map aF.row) v2 false)).ins (fo q) (.arr 2 (t.ae.map br.row) v3 false)
theorem jB (F:Fr)(q v1 v2 v3:Nat)(t:ay){k:Nat}(h1:k≠fK q)(h2:k≠dw q)(h3:k≠fo q):(qZ F q v1 v2 v3 t).get k=F.get k:=by
 unfold qZ;rw [Fr.ax _ h3,Fr.ax _ h2,Fr.ax _ h1]
theorem z9 (F:Fr)(q:Nat)(hq:q≤2){v1 v2 v3:Nat}(t:ay)(h1:v1≤t.ah.length)(h2:v2≤t.ao.length)(h3:v3≤t.ae.length):SF (qZ F q v1 v2 v3 t) (fK q) (dw q) (fo q) t:=by
 obtain⟨n1,n2,n3,_⟩:=pQ q hq;refine⟨⟨v1,h1, ?_⟩,⟨v2,h2, ?_⟩,⟨v3,h3, ?_⟩⟩
 ·unfold qZ;rw [Fr.ax _ n2,Fr.ax _ n1,Fr.bp]
 ·unfold qZ;rw [Fr.ax _ n3,Fr.bp]
 ·unfold qZ;rw [Fr.bp]
theorem Aa {L:Nat}{F:Fr}{r0:aH}{ai:List ak}{sb:dM}(h:FB L F r0 ai sb)(q:Nat)(hq:q≤2)(v1 v2 v3:Nat)(t:ay):FB L (qZ F q v1 v2 v3 t) r0 ai sb:=by
 obtain⟨a,b,c⟩:=lI q hq;exact((h.ins a fun _=>rfl).ins b fun _=>rfl).ins c fun _=>rfl
theorem SF.other {F F':Fr}{k1 k2 k3:Nat}{s:ay}(h:SF F k1 k2 k3 s)(e1:F'.get k1=F.get k1)(e2:F'.get k2=F.get k2)(e3:F'.get k3=F.get k3):SF F' k1 k2 k3 s:=by
 obtain⟨a,b,c⟩:=h;exact⟨by rw [e1];exact a,by rw [e2];exact b,by rw [e3];exact c⟩
theorem FI.own {L:Nat}{F:Fr}{r0:aH}{ai:List ak}{s:ay}{q:Nat}(hq:q≤2)(h:FI L F r0 ai s q):FM L (qZ F (kq q) 0 0 0 s) r0 ai s q s:=by
 obtain⟨n1,n2,n3,m11,m12,m13,m21,m22,m23,m31,m32,m33⟩:=pQ q hq;have hp:=tu q
 exact {Aa h.toFB (kq q) hp.2 0 0 0 s with
  sc:=h.sc.other (jB _ _ _ _ _ _ m11 m12 m13) (jB _ _ _ _ _ _ m21 m22 m23) (jB _ _ _ _ _ _ m31 m32 m33)
  nx:=z9 F (kq q) hp.2 s (Nat.zero_le _) (Nat.zero_le _) (Nat.zero_le _)
  DZ:=fun k hk hg=>by
   by_cases h1:k=fK (kq q)
   ·exact .inr (.inl h1)
   by_cases h2:k=dw (kq q)
   ·exact .inr (.inr (.inl h2))
   by_cases h3:k=fo (kq q)
   ·exact .inr (.inr (.inr h3))
   rw [jB _ _ _ _ _ _ h1 h2 h3]at hg;exact .inl (h.DZ k hk hg)}
theorem FM.doA {L:Nat}{F:Fr}{r0:aH}{ai:List ak}{s t t':ay}{q:Nat}(hq:q≤2)(h:FM L F r0 ai s q t){v1 v2 v3:Nat}(h1:v1≤t'.ah.length)(h2:v2≤t'.ao.length)(h3:v3≤t'.ae.length):FM L (qZ F (kq q) v1 v2 v3 t') r0 ai s q t':=by
 obtain⟨n1,n2,n3,m11,m12,m13,m21,m22,m23,m31,m32,m33⟩:=pQ q hq;have hp:=tu q
 exact {Aa h.toFB (kq q) hp.2 v1 v2 v3 t' with
  sc:=h.sc.other (jB _ _ _ _ _ _ m11 m12 m13) (jB _ _ _ _ _ _ m21 m22 m23) (jB _ _ _ _ _ _ m31 m32 m33)
  nx:=z9 F (kq q) hp.2 t' h1 h2 h3
  DZ:=fun k hk hg=>by
   by_cases h1:k=fK (kq q)
   ·exact .inr (.inl h1)
   by_cases h2:k=dw (kq q)
   ·exact .inr (.inr (.inl h2))
   by_cases h3:k=fo (kq q)
   ·exact .inr (.inr (.inr h3))
   rw [jB _ _ _ _ _ _ h1 h2 h3]at hg;exact h.DZ k hk hg}
def Ab (L:Nat)(F:Fr)(r0:aH)(ai:List ak):Fr:=(F.ins 62 (.arr 9 (ai.map ak.row) 0 false)).ins 7 (gO L r0 ai)
theorem jC (L:Nat)(F:Fr)(r0:aH)(ai:List ak){k:Nat}(h1:k≠62)(h2:k≠7):(Ab L F r0 ai).get k=F.get k:=by
 unfold Ab;rw [Fr.ax _ h2,Fr.ax _ h1]
theorem yJ {L:Nat}{r0:aH}{ai:List ak}{k:Nat}(hk:gF k=true):gE (L,k) (gO L r0 ai)=true:=by
 have ne: ∀j,gF j=false→((L,j):Nm)≠(L,k):=fun j hj e=>by
  have:=(Prod.mk.inj e).2;subst this;rw [hj]at hk;cases hk
 have one: ∀j es rows,gF j=false→eY (L,k) (cv (L,j) es rows)=true:=fun j es rows hj=>by
  unfold cv;split
  ·rfl
  ·simpa [eY]using ne j hj
 have a:=ne 188441 (by decide);have b:=ne 339993 (by decide);have c:=one 393241 1 (r0.aY.map aG) (by decide);have d:=one 62 9 (ai.map ak.row) (by decide);simp only [gO,gE,gG,eY,decide_eq_true_eq,Bool.and_eq_true,true_and,and_true,c,d,ne_eq];exact⟨a,b⟩
theorem Fa {L:Nat}{F:Fr}{r0:aH}{ai acts':List ak}{sb:dM}(h:FB L F r0 ai sb)(hne:acts'≠[]):FB L (Ab L F r0 acts') r0 acts' sb where
 ia:=Fr.cW (Fr.cW h.ia)
 g6:=(jC _ _ _ _ (by decide) (by decide)).trans h.g6
 g7:=by unfold Ab;rw [Fr.bp]
 g8:=(jC _ _ _ _ (by decide) (by decide)).trans h.g8
 gp:=(jC _ _ _ _ (by decide) (by decide)).trans h.gp
 gt:=(jC _ _ _ _ (by decide) (by decide)).trans h.gt
 gl:=fun hl=>(jC _ _ _ _ (by decide) (by decide)).trans (h.gl hl)
 OL:=fun e=>absurd e hne
 ga:=fun _=>by unfold Ab;rw [Fr.ax _ (by decide),Fr.bp]
 ref:=fun x hx hne k' hk'=>by
  rcases Fr.pF (Fr.cW h.ia) hx with e|⟨e,_⟩
  ·subst e;exact yJ hk'
  ·rcases Fr.pF h.ia e with e|⟨e,_⟩
   ·subst e;rfl
   ·exact h.ref x e hne k' hk'
theorem FM.app {L:Nat}{F:Fr}{r0:aH}{ai acts':List ak}{s t:ay}{q:Nat}(hq:q≤2)(h:FM L F r0 ai s q t)(hne:acts'≠[]):FM L (Ab L F r0 acts') r0 acts' s q t:=by
 have hp:=tu q;obtain⟨a,b,c⟩:=lI q hq;obtain⟨a',b',c'⟩:=lI (kq q) hp.2;have one: ∀k,(∀j∈fixed,j≠k)→(Ab L F r0 acts').get k=F.get k:=fun k hk=>jC _ _ _ _ (hk 62 (by decide)).symm (hk 7 (by decide)).symm
 exact {Fa h.toFB hne with
  sc:=h.sc.other (one _ a) (one _ b) (one _ c)
  nx:=h.nx.other (one _ a') (one _ b') (one _ c')
  DZ:=fun k hk hg=>by
   have h1:k≠62:=fun e=>(by subst e;cases hk);have h2:k≠7:=fun e=>(by subst e;cases hk);rw [jC _ _ _ _ h1 h2]at hg;exact h.DZ k hk hg}
theorem D0 {L q:Nat}{s:ay}{k:Nat}(h1:k≠fK q)(h2:k≠dw q)(h3:k≠fo q):gE (L,k) (dW L q s)=true:=by
 simp only [dW,gE,gG,eY,Bool.and_true,Bool.and_eq_true,decide_eq_true_eq,ne_eq,Prod.mk.injEq,true_and];exact⟨fun e=>h1 e.symm,fun e=>h2 e.symm,fun e=>h3 e.symm⟩
theorem BX {L q:Nat}{s:ay}:gE (L,fK q) (dW L q s)=false∧gE (L,dw q) (dW L q s)=false∧gE (L,fo q) (dW L q s)=false:=by
 refine⟨?_, ?_, ?_⟩<;>simp [dW,gE,gG,eY]
theorem FB.qE {F:Fr}{H:aj}{r0:aH}{ai:List ak}{t:ay}{p nt:Nat}{s:bd}(hp:p≤2)(hH:0<H.length)(h:FB H.length F r0 ai (dW H.length p t))(sc:SF F (fK p) (dw p) (fo p) t)(hs: ∀k,gF k=true→jo (H.length,k) s=true):
  ∃F',Go.Gh.qE ⟨s,F::H,nt⟩=some ⟨s,F'::H,nt⟩∧FI H.length F' r0 ai t p:=by
 obtain⟨F',e,hsrt,hmem,hnf,hrf,hdead⟩:=Tr (s:=s) (F:=F) (nt:=nt) hH;refine⟨F',e, ?_⟩;have fx: ∀k∈fixed,F'.get k=F.get k:=fun k hk=>hnf k (Hc k hk);have m8:(8,dW H.length p t)∈F:=Fr.get_mem h.g8;have R:=BX (L:=H.length) (q:=p) (s:=t)
 exact {
  ia:=hsrt h.ia
  g6:=(fx 6 (by decide)).trans h.g6
  g7:=(fx 7 (by decide)).trans h.g7
  g8:=(fx 8 (by decide)).trans h.g8
  gp:=(fx 188441 (by decide)).trans h.gp
  gt:=(fx 339993 (by decide)).trans h.gt
  gl:=fun hl=>(fx 393241 (by decide)).trans (h.gl hl)
  OL:=fun ha=>(fx 62 (by decide)).trans (h.OL ha)
  ga:=fun ha=>(fx 62 (by decide)).trans (h.ga ha)
  ref:=fun x hx=>h.ref x (hmem x hx)
  sc:=sc.other (hrf _ _ m8 R.1) (hrf _ _ m8 R.2.1) (hrf _ _ m8 R.2.2)
  DZ:=fun k hk hg=>by
   by_cases h1:k=fK p
   ·exact .inl h1
   by_cases h2:k=dw p
   ·exact .inr (.inl h2)
   by_cases h3:k=fo p
   ·exact .inr (.inr h3)
   refine absurd (hdead k hk (hs k hk) fun x hx=> ?_) hg;by_cases e8:x.1=8
   ·have:x.2=dW H.length p t:=by
     have:=Fr.EA h.ia (show (x.1,x.2)∈F from hx)
     rw [e8,h.g8]at this;exact(Option.some.inj this).symm
    rw [this];exact D0 h1 h2 h3
   ·exact h.ref x hx e8 k hk}
theorem FM.fin {F:Fr}{H:aj}{r0:aH}{ai:List ak}{s t:ay}{q nt:Nat}{sl:bd}(hH:0<H.length)(h:FM H.length F r0 ai s q t)(hs: ∀k,gF k=true→jo (H.length,k) sl=true):
  ∃F',Go.Gh.qE ⟨sl,F.ins 8 (dW H.length (kq q) t)::H,nt⟩=some ⟨sl,F'::H,nt⟩∧FI H.length F' r0 ai t (kq q):=by
 have hp:=tu q;obtain⟨a',b',c'⟩:=lI (kq q) hp.2;refine FB.qE hp.2 hH ?_ ?_ hs
 ·exact {
   ia:=Fr.cW h.ia
   g6:=(Fr.ax _ (by decide) _).trans h.g6
   g7:=(Fr.ax _ (by decide) _).trans h.g7
   g8:=Fr.bp ..
   gp:=(Fr.ax _ (by decide) _).trans h.gp
   gt:=(Fr.ax _ (by decide) _).trans h.gt
   gl:=fun hl=>(Fr.ax _ (by decide) _).trans (h.gl hl)
   OL:=fun ha=>(Fr.ax _ (by decide) _).trans (h.OL ha)
   ga:=fun ha=>(Fr.ax _ (by decide) _).trans (h.ga ha)
   ref:=fun x hx hne k' hk'=>by
    rcases Fr.pF h.ia hx with e|⟨e,_⟩
    ·exact absurd (by rw [e]) hne
    ·exact h.ref x e hne k' hk'}
 ·exact h.nx.other (Fr.ax _ (a' 8 (by decide)).symm _) (Fr.ax _ (b' 8 (by decide)).symm _) (Fr.ax _ (c' 8 (by decide)).symm _)
theorem FI.same {F:Fr}{H:aj}{r0:aH}{ai:List ak}{s:ay}{q nt:Nat}{sl:bd}(hq:q≤2)(hH:0<H.length)(h:FI H.length F r0 ai s q)(hs: ∀k,gF k=true→jo (H.length,k) sl=true):
  ∃F',Go.Gh.qE ⟨sl,F::H,nt⟩=some ⟨sl,F'::H,nt⟩∧FI H.length F' r0 ai s q:=FB.qE hq hH h.toFB h.sc hs
section
theorem Fr.ss {k : Nat} {b : dM} : ∀ {f : Fr}, f.ia → f.get k = some b → f.ins k b = f
  | [], _, h => by simp at h
  | (j, c) :: r, hs, h => by
    unfold Fr.ia at hs
    rw [List.map_cons, List.pairwise_cons] at hs
    simp only [Fr.cS] at h
    simp only [Fr.rI]
    by_cases e : k = j
    · subst e
      rw [if_pos rfl] at h
      cases h
      rw [if_pos rfl]
    · rw [if_neg e] at h
      rw [if_neg e]
      have := hs.1 k (List.mem_map_of_mem (f := (·.1)) (Fr.get_mem h))
      simp only at this
      rw [if_neg (by omega), Fr.ss hs.2 h]
def su (L:Nat)(r0:aH)(ai:List ak):GV:= .agg [.pure (.int .i64 r0.wide), .pure (.int .i64 r0.deep), .aW (L,188441) 2 r0.ah.length 0 r0.ah.length, .aW (L,339993) 5 r0.ae.length 0 r0.ae.length, .aS,cv (L,393241) 1 (r0.aY.map aG),cv (L,62) 9 (ai.map ak.row)]
def JB (L q:Nat)(s:ay):GV:=kv (L,fK q) (L,dw q) (L,fo q) s
def jJ (r0:aH)(ai:List ak):aH:={r0 with ai:=ai}
section
variable {F f0:Fr} {H:aj} {r0:aH} {ai:List ak} {sb:dM} {c:Nat}
theorem kB {nm:Nm}{es:Nat}{rows:List (List PV)}(h:rows≠[]→H.get nm=some (.arr es rows 0 false)):xr H (cv nm es rows) (.slice rows):=by
 unfold cv;by_cases hr:rows=[]
 ·subst hr;rw [if_pos rfl];simp
 ·rw [if_neg hr];exact⟨rows,0,false,h hr,Nat.zero_le _,rfl,rfl,rfl,rfl⟩
theorem FB.rd (h:FB H.length F r0 ai sb)(hs:r0.seen=[]):nd (f0::F::H) (su H.length r0 ai) (.agg (jJ r0 ai).row):=by
 have ne: ¬H.length=H.length+1:=(by omega);have g: ∀k,aj.get (f0::F::H) (H.length,k)=F.get k:=fun k=>(by simp [ne]);rw [cQ];unfold su;rw [rB];simp only [jJ,om,rA,og,and_true,true_and];refine⟨⟨_,0,false,(g _).trans h.gp,Nat.zero_le _,by simp,rfl,rfl,rfl⟩,⟨_,0,false,(g _).trans h.gt,Nat.zero_le _,by simp,rfl,rfl,rfl⟩, ?_,kB fun hr=>(g _).trans (h.gl ?_),kB fun hr=>(g _).trans (h.ga ?_)⟩
 ·rw [hs];rfl
 ·intro e;rw [e]at hr;exact hr rfl
 ·intro e;rw [e]at hr;exact hr rfl
theorem SF.rd {k1 k2 k3:Nat}{s:ay}(h:SF F k1 k2 k3 s):nd (f0::F::H) (kv (H.length,k1) (H.length,k2) (H.length,k3) s) (.agg s.row):=by
 have ne: ¬H.length=H.length+1:=(by omega);have g: ∀k,aj.get (f0::F::H) (H.length,k)=F.get k:=fun k=>(by simp [ne]);obtain⟨⟨v1,a1,b1⟩,⟨v2,a2,b2⟩,⟨v3,a3,b3⟩⟩:=h;unfold kv ay.row;rw [rB];simp only [om,rA,og,and_true,true_and];exact⟨⟨_,v1,false,(g _).trans b1,a1,by simp,rfl,rfl,rfl⟩,⟨_,v2,false,(g _).trans b2,a2,by simp,rfl,rfl,rfl⟩,⟨_,v3,false,(g _).trans b3,a3,by simp,rfl,rfl,rfl⟩⟩
theorem SF.self {k1 k2 k3:Nat}{s:ay}(hF:F.ia)(h:SF F k1 k2 k3 s)(kx:k1≠k2)(lR:k1≠k3)(kD:k2≠k3): ∃v1 v2 v3,me (f0::F::H) (H.length,k1) (H.length,k2) (H.length,k3) v1 v2 v3 s:=by
 have ne: ¬H.length=H.length+1:=(by omega);have g: ∀k,aj.get (f0::F::H) (H.length,k)=F.get k:=fun k=>(by simp [ne]);have st: ∀k b,F.get k=some b→aj.set (f0::F::H) (H.length,k) b=f0::F::H:=fun k b hb=>(by simp [ne,Fr.ss hF hb]);have nn: ∀a b:Nat,a≠b→((H.length,a):Nm)≠(H.length,b):=fun a b h e=>h (Prod.mk.inj e).2;obtain⟨⟨v1,a1,b1⟩,⟨v2,a2,b2⟩,⟨v3,a3,b3⟩⟩:=h;exact⟨v1,v2,v3,{kx:=nn _ _ kx,lR:=nn _ _ lR,kD:=nn _ _ kD,g1:=(g _).trans b1,g2:=(g _).trans b2,g3:=(g _).trans b3,e1:=a1,e2:=a2,e3:=a3,s1:=st _ _ b1,s2:=st _ _ b2,s3:=st _ _ b3}⟩
structure RB (r0:aH)(n:Nat):Prop where
 hn:IntKind.i64.wrap (r0.wide*r0.deep)=n
 n0:0<n
 n9:n≤9
 wide:r0.wide≠0
 pl:r0.ah.length≤3
 tl:r0.ae.length≤4
 p0:r0.ah≠[]
 t0:r0.ae≠[]
 seen:r0.seen=[]
theorem wT {nm:Nm}(hlt:nm.1<H.length){n:Nat}(hb:RB r0 n)(h:FB H.length F r0 ai sb){k1 k2 k3:Nat}{s:ay}(hs:SF F k1 k2 k3 s)(hS:FF r0 s)(w:Nat)(hw:w<r0.ah.length)(wd:Int):
  aI KC (aC KC) 49 [.aD nm 0,su H.length r0 ai,kv (H.length,k1) (H.length,k2) (H.length,k3) s, .pure (.int .i64 w)] c (f0::F::H.set nm (bL wd))=
   some (.pure (.tuple [.agg (gC (jJ r0 ai) s w (dn n r0.ae.length r0.ah.length w) wd).1.1.row, .bool (gC (jJ r0 ai) s w (dn n r0.ae.length r0.ah.length w) wd).1.2]),f0::F::H.set nm (bL (gC (jJ r0 ai) s w (dn n r0.ae.length r0.ah.length w) wd).2)):=by
 have hl:(H.set nm (bL wd)).length=H.length:=aj.length_set _ _ _;have h':FB (H.set nm (bL wd)).length F r0 ai sb:=(by rw [hl];exact h);have hne: ¬nm.1=H.length:=(by omega);have hne2: ¬nm.1=H.length+1:=(by omega);have B:fW (f0::F::H.set nm (bL wd)) nm:=eC (eC (ld hlt));have W:bK (f0::F::H.set nm (bL wd)) nm=wd:=(by rw [dK (by simp [hl];omega),dK (by rw [hl];exact hlt),lf hlt]);have M:=FE (c:=c) (rg:=su (H.set nm (bL wd)).length r0 ai) (sg:=kv ((H.set nm (bL wd)).length,k1) ((H.set nm (bL wd)).length,k2) ((H.set nm (bL wd)).length,k3) s) (jJ r0 ai) s w n (h'.rd (f0:=f0) hb.seen) hs.rd ⟨hS.pl,hS.hl,hS.tl,hS.hr⟩ hw (by show r0.ah.length≤_;have:=hb.pl;omega) (by show r0.ae.length≤_;have:=hb.tl;omega) hb.wide hb.hn hb.n0 (by have:=hb.n9;omega) B
 rw [W,hl]at M;refine M.trans ?_;simp [hne,hne2,aj.length_set,jJ]
theorem JC {H0:aj}(hl:H0.length=H.length){k1 k2 k3:Nat}{s:ay}(hs:SF F k1 k2 k3 s)(hS:FF r0 s){w v:Nat}{a b:ak}(hw:w<r0.ah.length)(hv:v<r0.ah.length)(h1:a.aO=w)(h2:a.hand=0∨a.hand=1)(h3:b.aO=v)(h4:b.hand=0∨b.hand=1):
  aI KC (aC KC) 53 [kv (H.length,k1) (H.length,k2) (H.length,k3) s, .pure (.agg a.row), .pure (.agg b.row)] c (f0::F::H0)=some (.pure (.bool (qv s w a v b)),f0::F::H0):=by
 have e1:=hS.pl;have e2:=hS.hl;have R:nd (f0::F::H0) (kv (H.length,k1) (H.length,k2) (H.length,k3) s) (.agg s.row):=(by rw [←hl];exact hs.rd);exact FH R (show nd _ (.pure (.agg a.row)) (.agg a.row)from rfl) (show nd _ (.pure (.agg b.row)) (.agg b.row)from rfl) (by omega) (by omega) h1 h2 (by omega) (by omega) h3 h4 (by simp)
theorem Sf {H0:aj}(hl:H0.length=H.length){k1 k2 k3:Nat}{s:ay}(hF:F.ia)(hs:SF F k1 k2 k3 s)(kx:k1≠k2)(lR:k1≠k3)(kD:k2≠k3){w:Nat}{a:ak}(hb:Ex s w a)(hhl:s.ao.length≤1000000):
  ∃v1 v2 v3,v1≤s.ah.length∧v2≤s.ao.length∧v3≤s.ae.length∧
  aI KC (aC KC) 51 [kv (H.length,k1) (H.length,k2) (H.length,k3) s, .pure (.agg a.row)] c (f0::F::H0)=
   some (.pure (.tuple []),f0::((F.ins k1 (.arr 1 ((gM s w a).ah.map aG) v1 false)).ins k2 (.arr 2 ((gM s w a).ao.map aF.row) v2 false)).ins k3 (.arr 2 ((gM s w a).ae.map br.row) v3 false)::H0):=by
 obtain⟨u1,u2,u3,S⟩:=hs.self (f0:=f0) (H:=H0) hF kx lR kD;obtain⟨v1,v2,v3,a1,a2,a3,e⟩:=Sg (c:=c) S hb hhl (by simp);rw [hl]at e;refine⟨v1,v2,v3,a1,a2,a3,e.trans ?_⟩;have ne: ¬H.length=H.length+1:=(by omega);simp [cr,hl,ne]
end
end
section
section
variable {F:Fr} {H:aj} {r0:aH} {ai:List ak} {sb:dM}
theorem V5 {H0:aj}(hl:H0.length=H.length){s:ay}{q:Nat}(hq:q≤2)(h:FI H.length F r0 ai s q)(hS:FF r0 s)(p0:r0.ah≠[])(t0:r0.ae≠[])(pl:r0.ah.length≤1000000)(tl:r0.ae.length≤1000000)(a:ak):
  (match aI KC (aC KC) 50 [JB H.length q s] 54 ([(12,bR a)]::F::H0)with|some z=>rT ([(12,bR a)]::F::H0) (.aD (H.length,8) 0) z|none=>none)=
   some (JB H.length (kq q) s,[(12,bR a)]::qZ F (kq q) 0 0 0 s::H0):=by
 obtain⟨kx,lR,kD,_⟩:=pQ q hq;obtain⟨u1,u2,u3,S⟩:=h.sc.self (f0:=[(12,bR a)]) (H:=H0) h.ia kx lR kD;have e1:=hS.pl;have e2:=hS.hl;have e3:=hS.tl;have q0:0<r0.ah.length:=List.length_pos_iff.2 p0;have q1:0<r0.ae.length:=List.length_pos_iff.2 t0;have ne: ¬H.length=H.length+1:=(by omega);have O:=Td (c:=54) S.tomD (fun e=>by rw [e]at e1;simp at e1;omega) (fun e=>by rw [e]at e2;simp at e2;omega) (fun e=>by rw [e]at e3;simp at e3;omega) (by omega) (by omega) (by omega) (by simp) (by simp [aq]) (by simp [aq]) (by simp [aq]);rw [hl]at O;unfold JB;rw [O];have fr1: ∀k,k=fK 1∨k=dw 1∨k=fo 1→q≠1→F.get k=none:=fun k hk hq1=>by
  cases hg:F.get k with
  |none=>rfl
  |some b=>
   have:=h.DZ k (by rcases hk with rfl|rfl|rfl<;>decide) (by rw [hg];exact fun e=>by cases e)
   exfalso
   match q,hq with
   |0,_=>rcases hk with rfl|rfl|rfl<;>revert this<;>decide
   |1,_=>exact hq1 rfl
   |2,_=>rcases hk with rfl|rfl|rfl<;>revert this<;>decide
 have fr2: ∀k,k=fK 2∨k=dw 2∨k=fo 2→q=1→F.get k=none:=fun k hk hq1=>by
  cases hg:F.get k with
  |none=>rfl
  |some b=>
   have:=h.DZ k (by rcases hk with rfl|rfl|rfl<;>decide) (by rw [hg];exact fun e=>by cases e)
   exfalso;subst hq1;rcases hk with rfl|rfl|rfl<;>revert this<;>decide
 have A:cR 0 (aq 54 6)=fK 1∧cR 0 (aq 54 10)=dw 1∧cR 0 (aq 54 14)=fo 1∧cR 1 (aq 54 6)=fK 2∧cR 1 (aq 54 10)=dw 2∧cR 1 (aq 54 14)=fo 2:=(by decide);obtain⟨A1,A2,A3,B1,B2,B3⟩:=A;have N1:aq 54 6=24631:=(by decide);have N2:aq 54 10=41015:=(by decide);have N3:aq 54 14=57399:=(by decide);rw [N1]at A1 B1;rw [N2]at A2 B2;rw [N3]at A3 B3;by_cases hq1:q=1
 ·have hs: ∃b,F.get (fK 1)=some b:=by
   obtain⟨v,_,hv⟩:=h.sc.h1;rw [hq1]at hv;exact⟨_,hv⟩
  obtain⟨b1,hb1⟩:=hs;have g1:=fr2 (fK 2) (.inl rfl) hq1;have g2:=fr2 (dw 2) (.inr (.inl rfl)) hq1;have g3:=fr2 (fo 2) (.inr (.inr rfl)) hq1;have hn:kq q=2:=(by rw [hq1];rfl);rw [hn];simp only [fK,dw,fo]at hb1 g1 g2 g3 A1 A2 A3 B1 B2 B3;simp only [rT,kv,cr,N1,N2,N3,hl];simp [refs,dE,cV,dedup,hl,ne,bR,qN,lY,iE,gE,gG,eY,gb,Fr.del,v9,v8,nV,qO,A1,A2,A3,B1,B2,B3,hb1,g1,g2,g3,qZ,fK,dw,fo]
 ·have g1:=fr1 (fK 1) (.inl rfl) hq1;have g2:=fr1 (dw 1) (.inr (.inl rfl)) hq1;have g3:=fr1 (fo 1) (.inr (.inr rfl)) hq1;have hn:kq q=1:=by
   match q,hq with
   |0,_=>rfl
   |1,_=>exact absurd rfl hq1
   |2,_=>rfl
  rw [hn];simp only [fK,dw,fo]at g1 g2 g3 A1 A2 A3 B1 B2 B3;simp only [rT,kv,cr,N1,N2,N3,hl];simp [refs,dE,cV,dedup,hl,ne,bR,qN,lY,iE,gE,gG,eY,gb,Fr.del,v9,v8,nV,qO,A1,A2,A3,B1,B2,B3,g1,g2,g3,qZ,fK,dw,fo]
end
end
section
def TrG (r:aH):ay→List (List ak)→Prop
 |_,[]=>True
 |s,g::gs=>(pX r s g∧g≠[]∧ ∀a∈g,∀b∈g,a.aR=b.aR)∧TrG r (my s g) gs
theorem BZ {r:aH}{g:List ak}: ∀{gs:List (List ak)} {s:ay},TrG r s gs→(pX r (my s gs.flatten) g∧g≠[]∧ ∀a∈g,∀b∈g,a.aR=b.aR)→TrG r s (gs++[g])
 | [],s,_,h=>⟨h,trivial⟩
 |g0::gs,s,h,h2=>⟨h.1,BZ h.2 (by rw [←iY];exact h2)⟩
structure Made (r0:aH)(ai:List ak)(s:ay)(t:Int):Prop where
 gs: ∃gs:List (List ak),ai=gs.flatten∧TrG r0 (az r0) gs∧(gs.Pairwise fun g h=> ∀a∈g,∀b∈h,a.aR<b.aR)
 lt: ∀a∈ai,a.aR<t
 z: ∀a∈ai,0≤a.aR∧a.cd=0∧a.iv=0
 sc:s=my (az r0) ai
 snd:jd r0 s
 t0:0≤t
theorem Made.grp {r0:aH}{ai:List ak}{s:ay}{t t':Int}{g:List ak}(h:Made r0 ai s t)(hg:pX r0 s g)(hne:g≠[])(hat: ∀a∈g,a.aR=t∧a.cd=0∧a.iv=0)(ht:t<t'):Made r0 (ai++g) (my s g) t':=by
 obtain⟨gs,e,h1,h2⟩:=h.gs;have hs:=h.sc;have t0:=h.t0;refine⟨⟨gs++[g],by rw [e];simp,BZ h1 ⟨by rw [←e,←hs];exact hg,hne,fun a ha b hb=>(hat a ha).1.trans (hat b hb).1.symm⟩, ?_⟩,fun a ha=> ?_,fun a ha=> ?_,by rw [iY,←hs],hg.snd h.snd,by omega⟩
 ·rw [List.pairwise_append];refine⟨h2,List.pairwise_singleton ..,fun g' hg' x hx a ha b hb=> ?_⟩;simp only [List.mem_singleton]at hx;subst hx;have:=h.lt a (by rw [e];exact List.mem_flatten.2 ⟨g',hg',ha⟩);have:=(hat b hb).1;omega
 ·rcases List.mem_append.1 ha with x|x
  ·have:=h.lt a x;omega
  ·have:=(hat a x).1;omega
 ·rcases List.mem_append.1 ha with x|x
  ·exact h.z a x
  ·have:=(hat a x).1;exact⟨by omega,(hat a x).2⟩
theorem D3 {r:aH}(h:vz r):jd r (az r):=by
 have ce: ∀l:List aQ,∀t:Nat,kj (l.map fun _=>empty) t=0:=fun l t=>by
  induction l with
  |nil=>rfl
  |cons a l ih=>
   have: ¬(-1:Int)=t:=(by omega);simp only [List.map_cons,kj,ih];simp [zh,empty,this]
 refine {pl:=by simp [az],hl:=by simp [az],tl:=by simp [az],hr:=fun i hi=> ?_,pr:=fun x hx=> ?_,pn:=h.pn,th:=fun t ht=> ?_,st:=fun t ht=> ?_}
 ·simp only [az,List.getElem_map,empty,List.length_map];omega
 ·simp only [az,List.mem_map]at hx;obtain⟨p,hp,rfl⟩:=hx;exact(h.pc p hp).2
 ·have ht':t<r.ae.length:=(by simpa [az]using ht);have e:((az r).ae.getD t aU)=gv r.ae[t]:=by
   rw [bc ht];simp [az]
  rw [e];exact .inr ⟨ce _ _,(h.tc _ (List.getElem_mem ht')).1,(h.tc _ (List.getElem_mem ht')).2.1⟩
 ·have ht':t<r.ae.length:=(by simpa [az]using ht);have e:((az r).ae.getD t aU)=gv r.ae[t]:=by
   rw [bc ht];simp [az]
  rw [e];exact⟨(h.tc _ (List.getElem_mem ht')).2.2.1,(h.tc _ (List.getElem_mem ht')).2.2.2.1⟩
theorem Made.first {r:aH}(h:vz r){t:Int}(ht:0≤t):Made r [] (az r) t:=
 ⟨⟨[],rfl,trivial, .nil⟩,fun _ h=>by simp at h,fun _ h=>by simp at h,rfl,D3 h,ht⟩
def setAt (a:ak)(t:Int):ak:={a with aR:=t}
section
variable {r:aH} {s:ay} {w:Nat} {a:ak} {t:Int}
theorem wU:dy r s w (setAt a t)=dy r s w a:=by rw [fH,fH];rfl
theorem Ac:bW s w (setAt a t)=bW s w a:=by rw [eT,eT];rfl
theorem wV (h:AB r w a):AB r w (setAt a t):=⟨h.aO,h.wl,h.hand,h.kind,h.take,h.sM,h.step,h.form⟩
theorem yK {ai:List ak}:dy {r with ai:=ai} s w a=dy r s w a:=by rw [fH,fH]
end
theorem yL {r:aH}{n w:Nat}{a:ak}(hn:r.wide*r.deep=n)(hw:w<r.ah.length)(h:a∈dn n r.ae.length r.ah.length w):AB r w a∧a.aR=0∧a.cd=0∧a.iv=0:=by
 have one: ∀(hand kind:Nat),(hand=0∨hand=1)→2≤kind→kind≤8→a∈kA r.ae.length r.ah.length w kind hand→AB r w a∧a.aR=0∧a.cd=0∧a.iv=0:=fun hand kind hh k2 k8 ha=>by
  have hh':(hand:Int)=0∨(hand:Int)=1:=(by omega);unfold kA at ha;split at ha
  ·simp only [kr,List.mem_map,List.mem_range']at ha;obtain⟨x,⟨i,hi,rfl⟩,rfl⟩:=ha;exact⟨⟨rfl,hw,hh',⟨by simp [dL],by simp [dL]⟩,fun _=>⟨_,rfl,by omega⟩,fun h=>by simp [dL]at h,fun h=>by simp [dL]at h,by simp [mF,dL]⟩,rfl,rfl,rfl⟩
  ·split at ha
   ·simp only [jD,List.mem_map,List.mem_filter,List.mem_range']at ha;obtain⟨x,⟨⟨i,hi,rfl⟩,hne⟩,rfl⟩:=ha;refine⟨⟨rfl,hw,hh',⟨by simp [dL],by simp [dL]⟩,fun h=>by simp [dL]at h,fun _=>⟨_,rfl,by omega,fun e=> ?_⟩,fun h=>by simp [dL]at h,by simp [mF,dL]⟩,rfl,rfl,rfl⟩;rw [e]at hne;simp at hne
   ·rename_i n2 n4;simp only [List.mem_singleton]at ha;subst ha;have m1: ¬(kind:Int)=1:=(by omega);have m2: ¬(kind:Int)=2:=(by omega);have m4: ¬(kind:Int)=4:=(by omega);exact⟨⟨rfl,hw,hh',⟨by simp only [dL];omega,by simp only [dL];omega⟩,fun h=>absurd h m2,fun h=>absurd h m4,fun h=>absurd h m1,by simp [mF,dL,m1,m2,m4]⟩,rfl,rfl,rfl⟩
 unfold dn at h;rcases List.mem_append.1 h with h|h
 ·simp only [jb,List.mem_map,List.mem_range']at h;obtain⟨x,⟨i,hi,rfl⟩,rfl⟩:=h;refine⟨⟨rfl,hw, .inl rfl,⟨by simp [dL],by simp [dL]⟩,fun h=>by simp [dL]at h,fun h=>by simp [dL]at h,fun _=>⟨?_, ?_⟩,by simp [mF,dL]⟩,rfl,rfl,rfl⟩
  ·simp only [dL];omega
  ·simp only [dL];omega
 ·simp only [ja,List.mem_flatMap,List.mem_range',qi,List.mem_append]at h;obtain⟨k,⟨i,hi,rfl⟩,h⟩:=h;rcases h with h|h
  ·exact one 0 _ (.inl rfl) (by omega) (by omega) h
  ·exact one 1 _ (.inr rfl) (by omega) (by omega) h
end
section
theorem Hd {L k:Nat}(hk:gF k=true):((L,6):Nm)≠(L,k)∧((L,7):Nm)≠(L,k)∧((L,8):Nm)≠(L,k):=by
 have ne: ∀j,gF j=false→((L,j):Nm)≠(L,k):=fun j hj e=>by
  have:=(Prod.mk.inj e).2;subst this;rw [hj]at hk;cases hk
 exact⟨ne 6 (by decide),ne 7 (by decide),ne 8 (by decide)⟩
def fS (nm:Nm)(L:Nat)(t:Int)(i:Int):bd:=[(0, .aD nm 0),(6, .aD (L,6) 0),(7, .aD (L,7) 0),(8, .aD (L,8) 0),(9, .pure (.int .i64 t)),(10, .pure (.int .i64 i))]
theorem wW {nm:Nm}{L:Nat}{t i:Int}(h:nm.1<L)(k:Nat)(hk:gF k=true):jo (L,k) (fS nm L t i)=true:=by
 obtain⟨a,b,c⟩:=Hd (L:=L) hk;have d:nm≠(L,k):=fun e=>(by rw [e]at h;simp at h);simp only [fS,jo,eY,decide_eq_true a,decide_eq_true b,decide_eq_true c,decide_eq_true d];rfl
structure D4 (L:Nat)(r0:aH)(m:Nat)(T:Int)(F:Fr)(ai:List ak)(s:ay)(q:Nat)(t:Int):Prop where
 fi:FI L F r0 ai s q
 q2:q≤2
 md:Made r0 ai s t
 ml:ai.length≤m
 tT:t≤T
variable {H:aj}
theorem D5 {nm:Nm} (hlt:nm.1<H.length) (r0:aH) (n:Nat) (hb:RB r0 n) (k:Nat) (hk:k≤1000) (m:Nat) (T:Int) (F:Fr) (ai:List ak) (s:ay) (q:Nat) (t:Int) (wd:Int) (hR:D4 H.length r0 m T F ai s q t) (Q:GX→bP→Prop)
  (w:Nat) (wd1 wd2:Int) (a:ak) (e1:kZ wd r0.ah.length=((w:Int),wd1)) (hw:w<r0.ah.length) (e2:gC (jJ r0 ai) s w (dn n r0.ae.length r0.ah.length w) wd1=((a,false),wd2))
  (ih: ∀F' wd',D4 H.length r0 m T F' ai s q t→uU KC au 11 (lp Tryz.f11 0) [0,6,7,8,9,10] [6,7,8,9] Q (fS nm H.length t k) (F'::H.set nm (bL wd')) 174):
  uU KC au 11 (lp Tryz.f11 0) [0,6,7,8,9,10] [6,7,8,9] Q (fS nm H.length t ((k+1:Nat):Int)) (F::H.set nm (bL wd)) 174:=by
 have hne: ¬nm.1=H.length:=(by omega);have hne2: ¬nm.1=H.length+1:=(by omega);have hne3: ¬nm.1=H.length+1+1:=(by omega);have hle:nm.1≤H.length:=(by omega);have hB:=fun w f0 f1=>Fy hlt w f0 f1;have hW:=fun w f0 f1=>xU hlt w f0 f1;have g7:=hR.fi.g7;have g8:=hR.fi.g8;have M:=fun f0 c=>wT (f0:=f0) (c:=c) hlt hb hR.fi.toFB hR.fi.sc hR.md.snd.toFF w hw wd1;rw [e2]at M;have hk1:(0:Int)<(k:Int)+1:=(by omega);have hw1:=cu (x:=(k:Int)) (by omega) (by omega);have hkk:((k:Int)+1-1)=k:=(by omega);have pl:=hb.pl;have hpl:((r0.ah.length:Int))≤9223372036854775807:=(by omega);simp only [gO,dW]at g7 g8;simp only [su,kv,ak.row]at M;have hl: ∀w,(H.set nm (bL w)).length=H.length:=fun w=>aj.length_set _ _ _;apply tv;conv=>arg 4;whnf
 simp [fS,hk1,hl,j3,hB,hW,hlt,hne,hne2,aj.eH,hle,g7,g8,e1,hpl,M,hkk,hw1];obtain⟨F',eg,hF⟩:=FI.same (H:=H.set nm (bL wd2)) (nt:=174) (sl:=fS nm H.length t k) hR.q2 (by rw [hl];omega) (by rw [hl];exact hR.fi) (fun j hj=>by rw [hl];exact wW hlt j hj);rw [hl]at hF;simp only [fS]at eg;rw [eg,gK];exact ih F' wd2 ⟨hF,hR.q2,hR.md,hR.ml,hR.tT⟩
section
variable {F:Fr} {r0:aH} {ai:List ak} {s t:ay} {q:Nat} {H0:aj}
theorem V6 (hl:H0.length=H.length)(hq:q≤2)(h:FI H.length F r0 ai s q)(hS:FF r0 s){n:Nat}(hb:RB r0 n)(a:ak):
  ∃F1 z,FM H.length F1 r0 ai s q s∧aI KC (aC KC) 50 [JB H.length q s] 54 ([(12,bR a)]::F::H0)=some z∧
   rT ([(12,bR a)]::F::H0) (.aD (H.length,8) 0) z=some (JB H.length (kq q) s,[(12,bR a)]::F1::H0):=by
 have e:=V5 hl hq h hS hb.p0 hb.t0 (by have:=hb.pl;omega) (by have:=hb.tl;omega) a
 cases hg:aI KC (aC KC) 50 [JB H.length q s] 54 ([(12,bR a)]::F::H0)with
 |none=>rw [hg]at e;cases e
 |some z=>
  rw [hg]at e;exact⟨_,z,h.own hq,rfl,e⟩
theorem Sh (hl:H0.length=H.length)(hq:q≤2)(h:FM H.length F r0 ai s q t){w:Nat}{a:ak}(hb:Ex t w a)(hhl:t.ao.length≤1000000)(f0:Fr)(c:Nat):
  ∃F2,FM H.length F2 r0 ai s q (gM t w a)∧aI KC (aC KC) 51 [JB H.length (kq q) t, .pure (.agg a.row)] c (f0::F::H0)=some (.pure (.tuple []),f0::F2::H0):=by
 have hp:=tu q;obtain⟨n1,n2,n3,_⟩:=pQ (kq q) hp.2;obtain⟨v1,v2,v3,a1,a2,a3,e⟩:=Sf (c:=c) (f0:=f0) hl h.ia h.nx n1 n2 n3 hb hhl;have L:=iR (s:=t) (w:=w) hb.kind;exact⟨_,h.doA hq (by omega) (by omega) (by omega),e⟩
theorem JD (hl:H0.length=H.length)(hq:q≤2)(h:FM H.length F r0 ai s q t)(a:ak)(hn:ai.length≤1000000):
  ∃F2 F3,FM H.length F3 r0 (ai++[a]) s q t∧(∀(f0:Fr) (ka:Nat),(ai=[]→ka=62)→vo H.length ka (cv (H.length,62) 9 (ai.map ak.row)) 9 72 [a.row] (f0::F::H0)=some (cv (H.length,62) 9 ((ai++[a]).map ak.row),f0::F2::H0))∧
   F2.get 7=some (gO H.length r0 ai)∧F2.ins 7 (gO H.length r0 (ai++[a]))=F3:=by
 have ne: ¬H.length=H.length+1:=(by omega);refine⟨F.ins 62 (.arr 9 ((ai++[a]).map ak.row) 0 false),_,h.app hq (acts':=ai++[a]) (by simp),fun f0 ka hka=> ?_, ?_,rfl⟩
 ·have ek:vo H.length ka (cv (H.length,62) 9 (ai.map ak.row)) 9 72 [a.row] (f0::F::H0)=vo H.length 62 (cv (H.length,62) 9 (ai.map ak.row)) 9 72 [a.row] (f0::F::H0):=by
   by_cases e:ai=[]
   ·rw [hka e]
   ·unfold cv;rw [if_neg (by simpa using e)];rfl
  rw [ek,pP (fun hr=> ?_) (fun hr=> ?_) (by simp [hl];omega) (by simp;omega)]
  ·simp [hl,ne]
  ·have:ai=[]:=(by simpa using hr);simp [hl,ne,h.OL this]
  ·have:ai≠[]:=(by intro e;subst e;exact hr rfl);simp [hl,ne,h.ga this]
 ·rw [Fr.ax _ (by decide)];exact h.g7
end
end
section
variable {H:aj}
theorem Ad (wd:Int): ∃(p wd':Int),yF wd [1,1,2]=(p,wd')∧1≤p∧p≤2:=by
 have h:=jT wd 3 (by omega);obtain⟨y,hy⟩: ∃y,kZ wd 3=y:=⟨_,rfl⟩;rw [hy]at h;have e:yF wd [1,1,2]=(List.getD [1,1,2] y.1.toNat 0,y.2):=by
  rw [tj,if_neg (by simp)];show (List.getD [1,1,2] (kZ wd 3).1.toNat 0,(kZ wd 3).2)=_
  rw [hy]
 refine⟨_,_,e, ?_⟩;have:y.1.toNat=0∨y.1.toNat=1∨y.1.toNat=2:=(by omega);rcases this with e|e|e<;>rw [e]<;>decide
theorem mN {nm:Nm} (hlt:nm.1<H.length) (r0:aH) (k m:Nat) (T:Int) (F:Fr) (ai:List ak) (s:ay) (q:Nat) (t:Int) (hR:D4 H.length r0 m T F ai s q t) (Q:GX→bP→Prop)
  (ih: ∀F' acts' s' q' t' wd',D4 H.length r0 (m+2) (T+2) F' acts' s' q' t'→uU KC au 11 (lp Tryz.f11 0) [0,6,7,8,9,10] [6,7,8,9] Q (fS nm H.length t' k) (F'::H.set nm (bL wd')) 174)
  (F4:Fr) (acts':List ak) (t2:ay) (p wd':Int) (fm:FM H.length F4 r0 acts' s q t2) (h1:t2.ah.length=s.ah.length∧t2.ao.length=s.ao.length∧t2.ae.length=s.ae.length)
  (hM:Made r0 acts' t2 (t+p)) (hp:p≤2) (hl':acts'.length≤m+2):
  ku (qE ⟨[(0,GV.aD nm 0),(6,GV.aD (H.length,6) 0),(7,GV.aD (H.length,7) 0),(8,GV.aD (H.length,8) 0),(9,GV.pure (PV.int IntKind.i64 (t+p))),(10,GV.pure (PV.int IntKind.i64 (k:Int)))],
    Fr.ins 8 (dM.box [GV.aW (H.length,fK (kq q)) 1 s.ah.length 0 s.ah.length,GV.aW (H.length,dw (kq q)) 2 s.ao.length 0 s.ao.length,GV.aW (H.length,fo (kq q)) 2 s.ae.length 0 s.ae.length]) F4::H.set nm (bL wd'),174⟩)
   fun st=>uU KC au 11 (lp Tryz.f11 0) [0,6,7,8,9,10] [6,7,8,9] Q st.s st.h st.nt:=by
 have hl: ∀w,(H.set nm (bL w)).length=H.length:=fun w=>aj.length_set _ _ _;obtain⟨F',eg,hF⟩:=FM.fin (H:=H.set nm (bL wd')) (nt:=174) (sl:=fS nm H.length (t+p) k) (by rw [hl];omega) (by rw [hl];exact fm) (fun j hj=>by rw [hl];exact wW hlt j hj);rw [hl]at hF;simp only [fS,dW,h1,hl]at eg;rw [eg,gK];have tT:=hR.tT;exact ih F' acts' t2 (kq q) (t+p) wd' ⟨hF,(tu q).2,hM,hl',by omega⟩
theorem D6 {nm:Nm} (hlt:nm.1<H.length) (r0:aH) (n:Nat) (hb:RB r0 n) (hn:r0.wide*r0.deep=n) (k:Nat) (hk:k≤1000) (m:Nat) (hm:m≤10000) (T:Int) (hT:T≤1000000) (F:Fr) (ai:List ak) (s:ay) (q:Nat) (t:Int) (wd:Int) (hR:D4 H.length r0 m T F ai s q t) (Q:GX→bP→Prop)
  (w:Nat) (wd1 wd2:Int) (a:ak) (e1:kZ wd r0.ah.length=((w:Int),wd1)) (hw:w<r0.ah.length) (e2:gC (jJ r0 ai) s w (dn n r0.ae.length r0.ah.length w) wd1=((a,true),wd2))
  (hA:AB r0 w a) (pa:dy r0 s w a=true) (za:a.cd=0∧a.iv=0)
  (o:Nat) (wd3 wd4:Int) (x:ak) (bx:Bool) (e3:kZ wd2 r0.ah.length=((o:Int),wd3)) (ho:o<r0.ah.length) (e4:gC (jJ r0 (ai++[setAt a t])) s o (dn n r0.ae.length r0.ah.length o) wd3=((x,bx),wd4))
  (hX:bx=true→AB r0 o x∧dy r0 s o x=true∧x.cd=0∧x.iv=0)
  (ih: ∀F' acts' s' q' t' wd',D4 H.length r0 (m+2) (T+2) F' acts' s' q' t'→uU KC au 11 (lp Tryz.f11 0) [0,6,7,8,9,10] [6,7,8,9] Q (fS nm H.length t' k) (F'::H.set nm (bL wd')) 174):
  uU KC au 11 (lp Tryz.f11 0) [0,6,7,8,9,10] [6,7,8,9] Q (fS nm H.length t ((k+1:Nat):Int)) (F::H.set nm (bL wd)) 174:=by
 have hne: ¬nm.1=H.length:=(by omega);have hne2: ¬nm.1=H.length+1:=(by omega);have hne3: ¬nm.1=H.length+1+1:=(by omega);have hle:nm.1≤H.length:=(by omega);have hl: ∀w,(H.set nm (bL w)).length=H.length:=fun w=>aj.length_set _ _ _;have hB:=fun w f0 f1=>Fy hlt w f0 f1;have hW:=fun w f0 f1=>xU hlt w f0 f1;have g7:=hR.fi.g7;have g8:=hR.fi.g8;have hS:=hR.md.snd;have M:=fun f0 c=>wT (f0:=f0) (c:=c) hlt hb hR.fi.toFB hR.fi.sc hS.toFF w hw wd1;rw [e2]at M;have hk1:(0:Int)<(k:Int)+1:=(by omega);have hw1:=cu (x:=(k:Int)) (by omega) (by omega);have hkk:((k:Int)+1-1)=k:=(by omega);have pl:=hb.pl;have tl:=hb.tl;have ml:=hR.ml;have hpl:((r0.ah.length:Int))≤9223372036854775807:=(by omega);have t0:=hR.md.t0;have tT:=hR.tT;have hA':AB r0 w (setAt a t):=wV hA;have pa':dy r0 s w (setAt a t)=true:=wU.trans pa;have eh:=hS.hl;obtain⟨F1,z,fm1,ow1,ow2⟩:=V6 (H0:=H.set nm (bL wd2)) (hl _) hR.q2 hR.fi hS.toFF hb (setAt a t);obtain⟨F2,fm2,dd⟩:=Sh (H0:=H.set nm (bL wd2)) (hl _) hR.q2 fm1 (mc hS hA' pa') (by omega) [(12,bR (setAt a t)),(14, .box [.aW (H.length,fK (kq q)) 1 s.ah.length 0 s.ah.length, .aW (H.length,dw (kq q)) 2 s.ao.length 0 s.ao.length, .aW (H.length,fo (kq q)) 2 s.ae.length 0 s.ae.length])] 57;obtain⟨F3,F4,fm4,ap1,f37,f34⟩:=JD (H0:=H.set nm (bL wd2)) (hl _) hR.q2 fm2 (setAt a t) (by omega);have g71:=fm1.g7;have g81:=fm1.g8;have g72:=fm2.g7;have g82:=fm2.g8;have g74:=fm4.g7;have g84:=fm4.g8;have M2:=fun f0 c=>wT (f0:=f0) (c:=c) hlt hb fm4.toFB fm4.sc hS.toFF o ho wd3;rw [e4]at M2;have LD:=iR (s:=s) (w:=w) hA'.kind;have ewho:(setAt a t).aO.toNat=w:=(by rw [hA'.aO];simp);have hM1: ∀p:Int,1≤p→Made r0 (ai++[setAt a t]) (gM s w (setAt a t)) (t+p):=fun p hp=>by
  have:=hR.md.grp (g:=[setAt a t]) (t':=t+p) ⟨fun b hb'=>by simp only [List.mem_singleton]at hb';subst hb';rw [ewho];exact⟨hA',pa'⟩,List.pairwise_singleton ..⟩ (by simp) (fun b hb'=>by simp only [List.mem_singleton]at hb';subst hb';exact⟨rfl,za⟩) (by omega)
  rwa [rH,ewho,zo]at this
 simp only [gO,dW]at g7 g8 g71 g81 g72 g82 f37 f34 g74 g84;have LD':=LD;have ap1:=fun f0=>ap1 f0 62 (fun _=>rfl);simp only [su,kv,JB,ak.row,setAt,bR,List.map_append,List.map_cons,List.map_nil]at LD' M M2 ow1 ow2 dd ap1 f37 f34 g74;have P:=fun(f0:Fr) (w:Int) (c:Nat)=>ES (c:=c) (l:=[1,1,2]) (hB w f0 F4) (by simp);simp only [aG,List.map_cons,List.map_nil,hW]at P;apply tv;conv=>arg 4;whnf
 cases bx with
 |false=>
  obtain⟨p,wd6,e6,p1,p2⟩:=Ad wd4;have hwp:=cu (x:=t+p) (by omega) (by omega);simp [fS,hk1,hl,j3,hB,hW,hlt,hne,hne2,aj.eH,hle,g7,g8,e1,hpl,M,hkk,hw1,ow1,ow2,g71,g81,dd,g72,g82,ap1,f37,f34,g74,g84,e3,M2,P,e6,hwp];exact mN hlt r0 k m T F ai s q t hR Q ih F4 _ _ p wd6 fm4 LD (hM1 p p1) p2 (by simp;omega)
 |true=>
  obtain⟨hX1,px,zx⟩:=hX rfl;by_cases how:o=w
  ·obtain⟨p,wd6,e6,p1,p2⟩:=Ad wd4;have hwp:=cu (x:=t+p) (by omega) (by omega);subst how;simp [fS,hk1,hl,j3,hB,hW,hlt,hne,hne2,aj.eH,hle,g7,g8,e1,hpl,M,hkk,hw1,ow1,ow2,g71,g81,dd,g72,g82,ap1,f37,f34,g74,g84,e3,M2,P,e6,hwp];exact mN hlt r0 k m T F ai s q t hR Q ih F4 _ _ p wd6 fm4 LD (hM1 p p1) p2 (by simp;omega)
  ·have how':((o:Int)==(w:Int))=false:=(by simp;omega);have how2:((o:Int) !=(w:Int))=true:=(by simp;omega);obtain⟨wd5,e5⟩: ∃y,AI wd4 2=y:=⟨_,rfl⟩;obtain⟨b1,wd5⟩:=wd5;obtain⟨p,wd6,e6,p1,p2⟩:=Ad wd5;have hwp:=cu (x:=t+p) (by omega) (by omega)
   cases b1 with
   |false=>
    simp [fS,hk1,hl,j3,qq,hB,hW,hlt,hne,hne2,aj.eH,hle,g7,g8,e1,hpl,M,hkk,hw1,ow1,ow2,g71,g81,dd,g72,g82,ap1,f37,f34,g74,g84,e3,M2,P,e6,hwp,how',how2,e5];exact mN hlt r0 k m T F ai s q t hR Q ih F4 _ _ p wd6 fm4 LD (hM1 p p1) p2 (by simp;omega)
   |true=>
    have AP:=fun(f0:Fr) (c:Nat)=>JC (c:=c) (f0:=f0) (H0:=H.set nm (bL wd5)) (hl _) fm4.sc hS.toFF (a:=setAt a t) (b:=x) hw ho hA'.aO hA'.hand hX1.aO hX1.hand
    cases hap:qv s w (setAt a t) o x with
    |false=>
     rw [hap]at AP;simp only [kv,ak.row,setAt]at AP;simp [fS,hk1,hl,j3,qq,hB,hW,hlt,hne,hne2,aj.eH,hle,g7,g8,e1,hpl,M,hkk,hw1,ow1,ow2,g71,g81,dd,g72,g82,ap1,f37,f34,g74,g84,e3,M2,P,e6,hwp,how',how2,e5,AP];exact mN hlt r0 k m T F ai s q t hR Q ih F4 _ _ p wd6 fm4 LD (hM1 p p1) p2 (by simp;omega)
    |true=>
     rw [hap]at AP;have hap':=FN.1 hap;have hX':AB r0 o (setAt x t):=wV hX1;have px':dy r0 s o (setAt x t)=true:=wU.trans px;have hap2:Kl (bW s w (setAt a t)) (bW s o (setAt x t)):=(by rw [Ac (a:=x)];exact hap');have one:=x7 hS hA' hX' pa' px' hap2;have S1:=hS.doA hA' pa';have e1h:=S1.hl;obtain⟨F5,fm5,dd5⟩:=Sh (H0:=H.set nm (bL wd5)) (hl _) hR.q2 fm4 (mc S1 hX' one.2.1) (by omega) [(12,bR (setAt a t)),(14, .box [.aW (H.length,fK (kq q)) 1 s.ah.length 0 s.ah.length, .aW (H.length,dw (kq q)) 2 s.ao.length 0 s.ao.length, .aW (H.length,fo (kq q)) 2 s.ae.length 0 s.ae.length]),(16,bR (setAt x t))] 97;obtain⟨F6,F7,fm7,ap5,f67,f76⟩:=JD (H0:=H.set nm (bL wd5)) (hl _) hR.q2 fm5 (setAt x t) (by simp;omega);have g75:=fm5.g7;have g85:=fm5.g8;have g77:=fm7.g7;have g87:=fm7.g8;have L2:=iR (s:=gM s w (setAt a t)) (w:=o) hX'.kind;have P5:=fun(f0:Fr) (w:Int) (c:Nat)=>ES (c:=c) (l:=[1,1,2]) (hB w f0 F7) (by simp);have ewho2:(setAt x t).aO.toNat=o:=(by rw [hX'.aO];simp);have hM2:Made r0 (ai++[setAt a t,setAt x t]) (gM (gM s w (setAt a t)) o (setAt x t)) (t+p):=by
      have:=hR.md.grp (g:=[setAt a t,setAt x t]) (t':=t+p) ⟨fun b hb'=>by
       simp only [List.mem_cons,List.not_mem_nil,or_false]at hb';rcases hb' with rfl|rfl
       ·rw [ewho];exact⟨hA',pa'⟩
       ·rw [ewho2];exact⟨hX',px'⟩,by
        rw [List.pairwise_cons];refine⟨fun b hb'=> ?_,List.pairwise_singleton ..⟩;simp only [List.mem_singleton]at hb';subst hb';unfold tch;rw [ewho,ewho2];exact hap2⟩ (by simp) (fun b hb'=>by
       simp only [List.mem_cons,List.not_mem_nil,or_false]at hb';rcases hb' with rfl|rfl
       ·exact⟨rfl,za⟩
       ·exact⟨rfl,zx⟩) (by omega)
      rwa [rH,ewho,rH,ewho2,zo]at this
     have ap5:=fun f0=>ap5 f0 102 (fun e=>by simp at e);simp only [gO,dW]at g75 g85 g77 g87 f67 f76;simp only [kv,JB,ak.row,setAt,bR,List.map_append,List.map_cons,List.map_nil,LD',List.append_assoc,List.cons_append,List.nil_append]at AP dd5 ap5 f67 f76 g75 g77;simp only [aG,List.map_cons,List.map_nil,hW]at P5;simp [fS,hk1,hl,j3,qq,hB,hW,hlt,hne,hne2,aj.eH,hle,g7,g8,e1,hpl,M,hkk,hw1,ow1,ow2,g71,g81,dd,g72,g82,ap1,f37,f34,g74,g84,e3,M2,P,e6,hwp,how',how2,e5,AP,dd5,g75,g85,ap5,f67,f76,g77,g87,P5];exact mN hlt r0 k m T F ai s q t hR Q ih F7 _ _ p wd6 fm7 (by omega) (by rw [List.append_assoc];exact hM2) p2 (by simp;omega)
end
section
variable {H:aj}
theorem uC {r:aH}{s:ay}{w:Nat}{all:List ak}{wd wd':Int}{a:ak}(hl:all.length≤1000000)(h:gC r s w all wd=((a,true),wd')):a∈all∧dy r s w a=true:=by
 rw [wX]at h;have hlen:=rb r s w all;split at h
 ·cases h
 ·rename_i hne;have h0:0<(fq r s w all).length:=List.length_pos_iff.2 hne;have hr:=jT wd (fq r s w all).length (by omega);generalize kZ wd (fq r s w all).length=y at h hr;have hi:y.1.toNat<(fq r s w all).length:=(by omega);have e:=(Prod.mk.inj (Prod.mk.inj h).1).1;rw [bc hi]at e;exact D7 (e▸List.getElem_mem hi)
theorem He {nm:Nm}(hlt:nm.1<H.length)(r0:aH)(n:Nat)(hb:RB r0 n)(hn:r0.wide*r0.deep=n)(Q:GX→bP→Prop): ∀(k:Nat) (m:Nat) (T:Int) (F:Fr) (ai:List ak) (s:ay) (q:Nat) (t:Int) (wd:Int),k≤1000→m+2*k≤10000→T+2*k≤100000→D4 H.length r0 m T F ai s q t→
  (∀F' acts' s' q' t' wd',D4 H.length r0 (m+2*k) (T+2*k) F' acts' s' q' t'→Q (.exit 0) ⟨[(6, .aD (H.length,6) 0),(7, .aD (H.length,7) 0),(8, .aD (H.length,8) 0),(9, .pure (.int .i64 t'))],F'::H.set nm (bL wd'),174⟩)→
  uU KC au 11 (lp Tryz.f11 0) [0,6,7,8,9,10] [6,7,8,9] Q (fS nm H.length t (k:Int)) (F::H.set nm (bL wd)) 174:=by
 have hl: ∀w,(H.set nm (bL w)).length=H.length:=fun w=>aj.length_set _ _ _;intro k
 induction k with
 |zero=>
  intro m T F ai s q t wd _ _ _ hR hq;apply tv;conv=>arg 4;whnf
  simp [fS,hl];exact hq F ai s q t wd (by simpa using hR)
 |succ k ih=>
  intro m T F ai s q t wd hk hm hT hR hq;have pl:=hb.pl;have tl:=hb.tl;have n9:=hb.n9;have p0:0<r0.ah.length:=List.length_pos_iff.2 hb.p0;obtain⟨w,wd1,e1,hw⟩:=lO wd r0.ah.length (by omega) (by omega);have hw':w<r0.ah.length:=(by omega);have el:=fun w:Nat=>qn n r0.ae.length r0.ah.length (w:Int);have el': ∀w:Nat,(dn n r0.ae.length r0.ah.length (w:Int)).length≤1000000:=fun w=>(by have:=el w;omega);have again: ∀(m':Nat) (T':Int),m'≤m+2→T'≤T+2→ ∀F' acts' s' q' t' wd',D4 H.length r0 m' T' F' acts' s' q' t'→uU KC au 11 (lp Tryz.f11 0) [0,6,7,8,9,10] [6,7,8,9] Q (fS nm H.length t' k) (F'::H.set nm (bL wd')) 174:=fun m' T' hm' hT' F' acts' s' q' t' wd' hR'=>by
   refine ih m' T' F' acts' s' q' t' wd' (by omega) (by omega) (by omega) hR' fun F2 acts2 s2 q2 t2 wd2 hR2=>hq F2 acts2 s2 q2 t2 wd2 ?_;have a:=hR2.ml;have b:=hR2.tT;exact⟨hR2.fi,hR2.q2,hR2.md,by omega,by omega⟩
  obtain⟨y,e2⟩: ∃y,gC (jJ r0 ai) s w (dn n r0.ae.length r0.ah.length w) wd1=y:=⟨_,rfl⟩;obtain⟨⟨a,b⟩,wd2⟩:=y
  cases b with
  |false=>exact D5 hlt r0 n hb k (by omega) m T F ai s q t wd hR Q w wd1 wd2 a e1 hw' e2 (fun F' wd' h=>again m T (by omega) (by omega) F' ai s q t wd' h)
  |true=>
   obtain⟨ha,pa⟩:=uC (el' w) e2;obtain⟨hA,_,za⟩:=yL hn hw' ha;rw [show jJ r0 ai={r0 with ai:=ai}from rfl,yK]at pa
   obtain⟨o,wd3,e3,ho⟩:=lO wd2 r0.ah.length (by omega) (by omega);have ho':o<r0.ah.length:=(by omega);obtain⟨y,e4⟩: ∃y,gC (jJ r0 (ai++[setAt a t])) s o (dn n r0.ae.length r0.ah.length o) wd3=y:=⟨_,rfl⟩;obtain⟨⟨x,bx⟩,wd4⟩:=y;refine D6 hlt r0 n hb hn k (by omega) m (by omega) T (by omega) F ai s q t wd hR Q w wd1 wd2 a e1 hw' e2 hA pa za o wd3 wd4 x bx e3 ho' e4 (fun hbx=> ?_) (again (m+2) (T+2) (by omega) (by omega));subst hbx;obtain⟨hx,px⟩:=uC (el' o) e4;obtain⟨hX,_,zx⟩:=yL hn ho' hx;rw [show jJ r0 (ai++[setAt a t])={r0 with ai:=ai++[setAt a t]}from rfl,yK]at px
   exact⟨hX,px,zx⟩
end
section
variable {H:aj}
section
variable {F f0 f1:Fr} {r0:aH} {ai:List ak} {s:ay} {q L:Nat}
theorem FI.doS (hq:q≤2)(h:FI L F r0 ai s q){t':ay}{v1 v2 v3:Nat}(h1:v1≤t'.ah.length)(h2:v2≤t'.ao.length)(h3:v3≤t'.ae.length)(hl:t'.ah.length=s.ah.length∧t'.ao.length=s.ao.length∧t'.ae.length=s.ae.length):FI L (qZ F q v1 v2 v3 t') r0 ai t' q:=by
 have e:dW L q t'=dW L q s:=(by simp only [dW,hl]);have b:=Aa h.toFB q hq v1 v2 v3 t';rw [←e]at b
 exact {b with
  sc:=z9 F q hq t' h1 h2 h3
  DZ:=fun k hk hg=>by
   by_cases h1:k=fK q
   ·exact .inl h1
   by_cases h2:k=dw q
   ·exact .inr (.inl h2)
   by_cases h3:k=fo q
   ·exact .inr (.inr h3)
   rw [jB _ _ _ _ _ _ h1 h2 h3]at hg;exact h.DZ k hk hg}
theorem FI.app (hq:q≤2)(h:FI L F r0 ai s q){acts':List ak}(hne:acts'≠[]):FI L (Ab L F r0 acts') r0 acts' s q:=by
 obtain⟨a,b,c⟩:=lI q hq;have one: ∀k,(∀j∈fixed,j≠k)→(Ab L F r0 acts').get k=F.get k:=fun k hk=>jC _ _ _ _ (hk 62 (by decide)).symm (hk 7 (by decide)).symm
 exact {Fa h.toFB hne with
  sc:=h.sc.other (one _ a) (one _ b) (one _ c)
  DZ:=fun k hk hg=>by
   have h1:k≠62:=fun e=>(by subst e;cases hk);have h2:k≠7:=fun e=>(by subst e;cases hk);rw [jC _ _ _ _ h1 h2]at hg;exact h.DZ k hk hg}
theorem V7 (hq:q≤2)(h:FI H.length F r0 ai s q){w:Nat}{a:ak}(hb:Ex s w a)(hhl:s.ao.length≤1000000)(f0 f1:Fr)(c:Nat):
  ∃F2,FI H.length F2 r0 ai (gM s w a) q∧aI KC (aC KC) 51 [JB H.length q s, .pure (.agg a.row)] c (f0::f1::F::H)=some (.pure (.tuple []),f0::f1::F2::H):=by
 obtain⟨kx,lR,kD,_⟩:=pQ q hq;have ne: ¬H.length=H.length+1:=(by omega);have ne2: ¬H.length=H.length+1+1:=(by omega);have g: ∀k,aj.get (f0::f1::F::H) (H.length,k)=F.get k:=fun k=>(by simp [ne]);have st: ∀k b,F.get k=some b→aj.set (f0::f1::F::H) (H.length,k) b=f0::f1::F::H:=fun k b hb=>(by simp [ne,Fr.ss h.ia hb]);have nn: ∀a b:Nat,a≠b→((H.length,a):Nm)≠(H.length,b):=fun a b h e=>h (Prod.mk.inj e).2;obtain⟨⟨u1,a1,b1⟩,⟨u2,a2,b2⟩,⟨u3,a3,b3⟩⟩:=h.sc;have S:me (f0::f1::F::H) (H.length,fK q) (H.length,dw q) (H.length,fo q) u1 u2 u3 s:={kx:=nn _ _ kx,lR:=nn _ _ lR,kD:=nn _ _ kD,g1:=(g _).trans b1,g2:=(g _).trans b2,g3:=(g _).trans b3,e1:=a1,e2:=a2,e3:=a3,s1:=st _ _ b1,s2:=st _ _ b2,s3:=st _ _ b3};obtain⟨v1,v2,v3,c1,c2,c3,e⟩:=Sg (c:=c) S hb hhl (by simp);have LD:=iR (s:=s) (w:=w) hb.kind;refine⟨qZ F q v1 v2 v3 (gM s w a),h.doS hq (by omega) (by omega) (by omega) LD,e.trans ?_⟩;simp [cr,qZ,ne]
theorem OM (hq:q≤2)(h:FI H.length F r0 ai s q)(a:ak)(hn:ai.length≤1000000)(h0:ai≠[])(f0 f1:Fr)(ka:Nat):
  ∃F2 F3,FI H.length F3 r0 (ai++[a]) s q∧vo H.length ka (cv (H.length,62) 9 (ai.map ak.row)) 9 72 [a.row] (f0::f1::F::H)=some (cv (H.length,62) 9 ((ai++[a]).map ak.row),f0::f1::F2::H)∧
   F2.get 7=some (gO H.length r0 ai)∧F2.ins 7 (gO H.length r0 (ai++[a]))=F3:=by
 have ne: ¬H.length=H.length+1:=(by omega);refine⟨F.ins 62 (.arr 9 ((ai++[a]).map ak.row) 0 false),_,h.app hq (acts':=ai++[a]) (by simp), ?_, ?_,rfl⟩
 ·have ek:vo H.length ka (cv (H.length,62) 9 (ai.map ak.row)) 9 72 [a.row] (f0::f1::F::H)=vo H.length 62 (cv (H.length,62) 9 (ai.map ak.row)) 9 72 [a.row] (f0::f1::F::H):=by
   unfold cv;rw [if_neg (by simpa using h0)];rfl
  rw [ek,pP (fun hr=>absurd (by simpa using hr) h0) (fun hr=>by simp [ne,h.ga h0]) (by simp;omega) (by simp;omega)];simp [ne]
 ·rw [Fr.ax _ (by decide)];exact h.g7
end
def mO (t:Int)(w:Nat)(hd:Int):ak:=⟨t,w,3,hd,0,0,0,0,0⟩
theorem Fb {r:aH}{t hd:Int}{w:Nat}(hw:w<r.ah.length)(hh:hd=0∨hd=1):AB r w (mO t w hd):=
 ⟨rfl,hw,hh,⟨by simp [mO],by simp [mO]⟩,fun h=>by simp [mO]at h,fun h=>by simp [mO]at h,fun h=>by simp [mO]at h,by simp [mF,mO]⟩
theorem JE {r0:aH}{ai:List ak}{s:ay}{t hd:Int}{w:Nat}(h:Made r0 ai s t)(hw:w<r0.ah.length)(hh:hd=0∨hd=1)(h0:0≤aX s.ao w hd):
  dy r0 s w (mO t w hd)=true∧Made r0 (ai++[mO t w hd]) (gM s w (mO t w hd)) (t+1)∧aX (gM s w (mO t w hd)).ao w hd= -1∧
  (∀w' hd',(hd'=0∨hd'=1)→ ¬(w'=w∧hd'=hd)→aX (gM s w (mO t w hd)).ao w' hd'=aX s.ao w' hd'):=by
 have pa:dy r0 s w (mO t w hd)=true:=(by rw [zj rfl];exact decide_eq_true h0);have hA:=Fb (r:=r0) (t:=t) hw hh;have ew:(mO t w hd).aO.toNat=w:=(by simp [mO]);have hwh:w<s.ao.length:=(by rw [h.snd.hl];exact hw);refine⟨pa, ?_, ?_,fun w' hd' h1 h2=> ?_⟩
 ·have:=h.grp (g:=[mO t w hd]) (t':=t+1) ⟨fun b hb=>by simp only [List.mem_singleton]at hb;subst hb;rw [ew];exact⟨hA,pa⟩,List.pairwise_singleton ..⟩ (by simp) (fun b hb=>by simp only [List.mem_singleton]at hb;subst hb;exact⟨rfl,rfl,rfl⟩) (by omega)
  rwa [rH,ew,zo]at this
 ·rw [mG rfl];show aX (bB s.ao w hd (-1)) w hd= -1
  rw [CG w hd hwh hh hh,if_pos ⟨rfl,rfl⟩]
 ·rw [mG rfl];show aX (bB s.ao w hd (-1)) w' hd'=_
  rw [CG w' hd' hwh hh h1,if_neg h2]
theorem JF {r0:aH}{s:ay}{t hd:Int}{w:Nat}(h:Made r0 [] s t)(hw:w<r0.ah.length):aX s.ao w hd= -1:=by
 have e:s=az r0:=(by rw [h.sc];rfl);subst e;unfold aX;have:(az r0).ao.getD w bH=empty:=by
  rw [bc (by simp [az];exact hw)];simp [az]
 rw [this];split<;>rfl
def lJ (L:Nat)(t:Int)(w:Nat)(hd:Int):bd:=[(6, .aD (L,6) 0),(7, .aD (L,7) 0),(8, .aD (L,8) 0),(9, .pure (.int .i64 t)),(18, .pure (.int .i64 w)),(19, .pure (.int .i64 hd))]
theorem B4 (r0:aH) (n:Nat) (hb:RB r0 n) (m:Nat) (hm:m≤100000) (T:Int) (hT:T≤1000000) (F:Fr) (ai:List ak) (s:ay) (q:Nat) (t:Int) (hR:D4 H.length r0 m T F ai s q t) (Q:GX→bP→Prop) (w:Nat) (hw:w<r0.ah.length) (hd:Int) (hh:hd=0∨hd=1)
  (ih: ∀F' acts' s' t',D4 H.length r0 (m+1) (T+1) F' acts' s' q t'→aX s'.ao w hd= -1→(∀w' hd',(hd'=0∨hd'=1)→ ¬(w'=w∧hd'=hd)→aX s'.ao w' hd'=aX s.ao w' hd')→
   fL KC au 11 (lp Tryz.f11 2) [6,7,8,9,18,19] [6,7,8,9,18] Q (lJ H.length t' w (hd+1)) ([]::F'::H) 174):
  fL KC au 11 (lp Tryz.f11 2) [6,7,8,9,18,19] [6,7,8,9,18] Q (lJ H.length t w hd) ([]::F::H) 174:=by
 have g7:=hR.fi.g7;have g8:=hR.fi.g8;obtain⟨v2,hv2,gh⟩:=hR.fi.sc.h2;have hS:=hR.md.snd;have hwh:w<s.ao.length:=(by rw [hS.hl];exact hw);have eh:=hS.hl;have pl:=hb.pl;have ml:=hR.ml;have t0:=hR.md.t0;have tT:=hR.tT;have R:=ic hS.toFF (w:=w) (hand:=hd) hw;have hw1:=cu (x:=hd+1) (by omega) (by omega);have hw2:=cu (x:=t+1) (by omega) (by omega);have hlt:hd<2:=(by omega);have ne: ¬H.length=H.length+1:=(by omega);obtain⟨x,hx⟩: ∃x,aX s.ao w hd=x:=⟨_,rfl⟩;have hx':aX s.ao w hd=(if hd=0 then s.ao[w].l else s.ao[w].r):=by
  unfold aX;rw [bc hwh]
 by_cases h0:0≤x
 ·have a0:ai≠[]:=fun e=>by
   subst e;have:=JF (hd:=hd) hR.md hw;omega
  obtain⟨pa,M,z1,z2⟩:=JE hR.md hw hh (by rw [hx];exact h0);have hA:=Fb (r:=r0) (t:=t) hw hh;obtain⟨F2,fi2,dd⟩:=V7 hR.q2 hR.fi (mc hS hA pa) (by omega) [(20,bR (mO t w hd))] [] 135;obtain⟨F3,F4,fi4,ap,f37,f34⟩:=OM hR.q2 fi2 (mO t w hd) (by omega) a0 [(20,bR (mO t w hd))] [] 140;have g72:=fi2.g7;have g82:=fi2.g8;have I:=ih F4 _ _ (t+1) ⟨fi4,hR.q2,M,by simp;omega,by omega⟩ z1 z2;simp only [gO,dW]at g7 g8 g72 g82 f37 f34;simp only [JB,kv,ak.row,mO,bR,List.map_append,List.map_cons,List.map_nil]at dd ap f37 f34;apply aw;conv=>arg 4;whnf
  rcases hh with rfl|rfl
  ·rw [if_pos rfl]at hx';have hx2:s.ao[w].l=x:=hx'.symm.trans hx;simp [lJ]at I;simp [lJ,g7,g8,gh,hv2,ne,hwh,aF.row,hx2,h0,dd,g72,g82,ap,f37,f34,hw2];exact I
  ·rw [if_neg (by decide)]at hx';have hx2:s.ao[w].r=x:=hx'.symm.trans hx;have w11:IntKind.i64.wrap (1+1)=2:=rfl;simp [lJ]at I;simp [lJ,g7,g8,gh,hv2,ne,hwh,aF.row,hx2,h0,dd,g72,g82,ap,f37,f34,hw2,w11];exact I
 ·have z1:aX s.ao w hd= -1:=(by omega);have I:=ih F ai s t ⟨hR.fi,hR.q2,hR.md,by omega,by omega⟩ z1 (fun w' hd' _ _=>rfl);simp only [gO,dW]at g7 g8;apply aw;conv=>arg 4;whnf
  rcases hh with rfl|rfl
  ·rw [if_pos rfl]at hx';have hx2:s.ao[w].l=x:=hx'.symm.trans hx;simp [lJ]at I;simp [lJ,g7,g8,gh,hv2,ne,hwh,aF.row,hx2,h0];exact I
  ·rw [if_neg (by decide)]at hx';have hx2:s.ao[w].r=x:=hx'.symm.trans hx;have w11:IntKind.i64.wrap (1+1)=2:=rfl;simp [lJ]at I;simp [lJ,g7,g8,gh,hv2,ne,hwh,aF.row,hx2,h0,w11];exact I
end
section
variable {H:aj}
theorem Hg (r0:aH)(n:Nat)(hb:RB r0 n)(q:Nat)(Q:GX→bP→Prop): ∀(k w m:Nat) (T:Int) (F:Fr) (ai:List ak) (s:ay) (t:Int),w+k=r0.ah.length→m+2*k≤100000→T+2*k≤1000000→D4 H.length r0 m T F ai s q t→
  (∀w' hd',w'<w→(hd'=0∨hd'=1)→aX s.ao w' hd'= -1)→
  (∀F' acts' s' t',D4 H.length r0 (m+2*k) (T+2*k) F' acts' s' q t'→(∀w' hd',w'<r0.ah.length→(hd'=0∨hd'=1)→aX s'.ao w' hd'= -1)→Q (.exit 2) ⟨[(6, .aD (H.length,6) 0),(7, .aD (H.length,7) 0),(8, .aD (H.length,8) 0)],F'::H,174⟩)→
  fL KC au 11 (lp Tryz.f11 1) [6,7,8,9,18] [6,7,8] Q [(6, .aD (H.length,6) 0),(7, .aD (H.length,7) 0),(8, .aD (H.length,8) 0),(9, .pure (.int .i64 t)),(18, .pure (.int .i64 w))] (F::H) 174:=by
 have pl:=hb.pl;intro k
 induction k with
 |zero=>
  intro w m T F ai s t hw hm hT hR hz hq;have g7:=hR.fi.g7;simp only [gO]at g7;have hwl: ¬w<r0.ah.length:=(by omega);apply aw;conv=>arg 4;whnf
  simp [g7,hwl];exact hq F ai s t (by simpa using hR) (fun w' hd' h1 h2=>hz w' hd' (by omega) h2)
 |succ k ih=>
  intro w m T F ai s t hw hm hT hR hz hq;have g7:=hR.fi.g7;simp only [gO]at g7;have hwl:w<r0.ah.length:=(by omega);have hw1:=cu (x:=(w:Int)+1) (by omega) (by omega);apply aw;conv=>arg 4;whnf
  simp [g7,hwl];refine B4 r0 n hb m (by omega) T (by omega) F ai s q t hR _ w hwl 0 (.inl rfl) (fun F1 acts1 s1 t1 hR1 z1 y1=> ?_);refine B4 r0 n hb (m+1) (by omega) (T+1) (by omega) F1 acts1 s1 q t1 hR1 _ w hwl (0+1) (.inr rfl) (fun F2 acts2 s2 t2 hR2 z2 y2=> ?_);apply aw;conv=>arg 4;whnf
  simp [lJ,hw1];have hR2':D4 H.length r0 (m+2) (T+2) F2 acts2 s2 q t2:=⟨hR2.fi,hR2.q2,hR2.md,hR2.ml,by have:=hR2.tT;omega⟩;refine ih (w+1) (m+2) (T+2) F2 acts2 s2 t2 (by omega) (by omega) (by omega) hR2' (fun w' hd' h1 h2=> ?_) (fun F' acts' s' t' hR' h'=>hq F' acts' s' t' ?_ h')
  ·by_cases e:w'=w
   ·subst e;rcases h2 with rfl|rfl
    ·rw [y2 w' 0 (.inl rfl) (by simp)];exact z1
    ·simpa using z2
   ·rw [y2 w' hd' h2 (fun h=>e h.1),y1 w' hd' h2 (fun h=>e h.1)];exact hz w' hd' (by omega) h2
  ·have a:=hR'.ml;have b:=hR'.tT;exact⟨hR'.fi,hR'.q2,hR'.md,by omega,by omega⟩
def JG (t:aV)(sp:br):aV:={t with home:=sp.cell,want:=sp.state}
def ob (ts:List aV)(sps:List br)(i:Nat):List aV:=ts.mapIdx fun j t=>if j<i then JG t (sps.getD j aU)else t
theorem Ay (ts:List aV)(sps:List br)(i:Nat):(ob ts sps i).length=ts.length:=by simp [ob]
theorem sv (ts:List aV)(sps:List br)(i j:Nat)(h:j<ts.length):(ob ts sps i)[j]'(by simpa [ob]using h)=if j<i then JG ts[j] (sps.getD j aU)else ts[j]:=by simp [ob]
theorem Hh (ts:List aV)(sps:List br)(i:Nat)(h:i<ts.length):ob ts sps (i+1)=(ob ts sps i).set i (JG ts[i] (sps.getD i aU)):=by
 refine List.ext_getElem (by simp [ob]) fun j h1 h2=> ?_;have hj:j<ts.length:=(by simpa [ob]using h1);rw [List.getElem_set,sv _ _ _ _ hj,sv _ _ _ _ hj];by_cases e:i=j
 ·subst e;simp
 ·rw [if_neg e];by_cases h3:j<i
  ·rw [if_pos h3,if_pos (by omega)]
  ·rw [if_neg h3,if_neg (by omega)]
structure FT (L:Nat)(F:Fr)(r0:aH)(ai:List ak)(s:ay)(q:Nat)(ts:List aV):Prop where
 g6:F.get 6=some ir
 g7:F.get 7=some (gO L r0 ai)
 g8:F.get 8=some (dW L q s)
 gp:F.get 188441=some (.arr 2 (r0.ah.map aQ.row) 0 false)
 gl:r0.aY≠[]→F.get 393241=some (.arr 1 (r0.aY.map aG) 0 false)
 ga:ai≠[]→F.get 62=some (.arr 9 (ai.map ak.row) 0 false)
 h3: ∃v,v≤s.ae.length∧F.get (fo q)=some (.arr 2 (s.ae.map br.row) v false)
 gt: ∃v,v≤ts.length∧F.get 339993=some (.arr 5 (ts.map aV.row) v false)
 tl:ts.length=r0.ae.length
theorem FT.ins {L:Nat}{F:Fr}{r0:aH}{ai:List ak}{s:ay}{q:Nat}{ts ts':List aV}(hq:q≤2)(h:FT L F r0 ai s q ts){v:Nat}(hv:v≤ts'.length)(hl:ts'.length=ts.length):FT L (F.ins 339993 (.arr 5 (ts'.map aV.row) v false)) r0 ai s q ts' where
 g6:=(Fr.ax _ (by decide) _).trans h.g6
 g7:=(Fr.ax _ (by decide) _).trans h.g7
 g8:=(Fr.ax _ (by decide) _).trans h.g8
 gp:=(Fr.ax _ (by decide) _).trans h.gp
 gl:=fun hl=>(Fr.ax _ (by decide) _).trans (h.gl hl)
 ga:=fun hl=>(Fr.ax _ (by decide) _).trans (h.ga hl)
 h3:=by
  obtain⟨v,a,b⟩:=h.h3;exact⟨v,a,(Fr.ax _ ((lI q hq).2.2 339993 (by decide)).symm _).trans b⟩
 gt:=⟨v,hv,Fr.bp ..⟩
 tl:=hl.trans h.tl
theorem Hi (r0:aH)(n:Nat)(hb:RB r0 n)(ai:List ak)(s:ay)(q:Nat)(hq:q≤2)(hsl:s.ae.length=r0.ae.length)(Q:GX→bP→Prop): ∀(k i:Nat) (F:Fr) (ts:List aV),i+k=r0.ae.length→FT H.length F r0 ai s q ts→ts=ob r0.ae s.ae i→
  (∀F',FT H.length F' r0 ai s q (ob r0.ae s.ae r0.ae.length)→Q (.exit 6) ⟨[(6, .aD (H.length,6) 0),(7, .aD (H.length,7) 0)],F'::H,174⟩)→
  fL KC au 11 (lp Tryz.f11 3) [6,7,8,21] [6,7] Q [(6, .aD (H.length,6) 0),(7, .aD (H.length,7) 0),(8, .aD (H.length,8) 0),(21, .pure (.int .i64 i))] (F::H) 174:=by
 have tl:=hb.tl;intro k
 induction k with
 |zero=>
  intro i F ts hi h hts hq';have g7:=h.g7;simp only [gO]at g7;have hwl: ¬i<r0.ae.length:=(by omega);apply aw;conv=>arg 4;whnf
  simp [g7,hwl];have e:i=r0.ae.length:=(by omega);subst e;rw [hts]at h;exact hq' F h
 |succ k ih=>
  intro i F ts hi h hts hq';have g7:=h.g7;have g8:=h.g8;simp only [gO,dW]at g7 g8;obtain⟨v3,a3,b3⟩:=h.h3;obtain⟨vt,aR,bt⟩:=h.gt;have tl':=h.tl;have hwl:i<r0.ae.length:=(by omega);have hil:i<ts.length:=(by omega);have his:i<s.ae.length:=(by omega);have hw1:=cu (x:=(i:Int)+1) (by omega) (by omega);have ne: ¬H.length=H.length+1:=(by omega);have nk:fo q≠339993:=((lI q hq).2.2 339993 (by decide)).symm;have I:=fun ts' h1 h2=>ih (i+1) (F.ins 339993 (.arr 5 (ts'.map aV.row) ts'.length false)) ts' (by omega) (h.ins hq (Nat.le_refl _) h1) h2 hq';have a3':v3≤r0.ae.length:=(by omega);have at2:vt≤r0.ae.length:=(by omega);apply aw;conv=>arg 4;whnf
  simp [g7,g8,hwl,b3,bt,a3',at2,ne,hil,his,tl',hsl,hw1,br.row,aV.row,Fr.bp,Fr.ax,Fr.iB,nk];have ei:ts[i]=r0.ae[i]:=by
   subst hts;rw [sv _ _ _ _ hwl,if_neg (by omega)]
  have I2:=I (ts.set i (JG r0.ae[i] (s.ae.getD i aU))) (by simp) (by rw [hts,Hh _ _ _ hwl]);rw [bc his]at I2;simp [aV.row,JG,tl',ei]at I2⊢;exact I2
end
section
variable {c:Nat} {H:aj}
def G2 (L:Nat)(r0:aH):Fr:=dS 393241 1 (r0.aY.map aG) [(6,ir),(7,gO L r0 []),(188441, .arr 2 (r0.ah.map aQ.row) 0 false),(339993, .arr 5 (r0.ae.map aV.row) 0 false)]
def G4 (L:Nat)(r0:aH):Fr:=dS 393241 1 (r0.aY.map aG) [(6,ir),(7,gO L r0 []),(8,dW L 0 (az r0)),(90139, .arr 1 ((az r0).ah.map aG) 0 false),(110619, .arr 2 ((az r0).ao.map aF.row) 0 false),(188441, .arr 2 (r0.ah.map aQ.row) 0 false),(217115, .arr 2 ((az r0).ae.map br.row) 0 false),(339993, .arr 5 (r0.ae.map aV.row) 0 false)]
theorem E7 {key es:Nat}{rows:List (List PV)}{fr:Fr}(h:fr.ia):(dS key es rows fr).ia:=by
 unfold dS;split
 ·exact h
 ·exact Fr.cW h
theorem ON {key es:Nat}{rows:List (List PV)}{fr:Fr}{x:Nat×dM}(hs:fr.ia)(h:x∈dS key es rows fr):x=(key, .arr es rows 0 false)∨x∈fr:=by
 unfold dS at h;split at h
 ·exact .inr h
 ·rcases Fr.pF hs h with e|e
  ·exact .inl e
  ·exact .inr e.1
theorem JH (L:Nat)(r0:aH):Fr.ia [(6,ir),(7,gO L r0 []),(8,dW L 0 (az r0)),(90139, .arr 1 ((az r0).ah.map aG) 0 false),(110619, .arr 2 ((az r0).ao.map aF.row) 0 false),(188441, .arr 2 (r0.ah.map aQ.row) 0 false),(217115, .arr 2 ((az r0).ae.map br.row) 0 false),(339993, .arr 5 (r0.ae.map aV.row) 0 false)]:=by
 simp [Fr.ia]
theorem ab4 (L:Nat)(r0:aH):FI L (G4 L r0) r0 [] (az r0) 0 where
 ia:=E7 (JH L r0)
 g6:=by unfold G4;rw [bu (by decide)];simp
 g7:=by unfold G4;rw [bu (by decide)];simp
 g8:=by unfold G4;rw [bu (by decide)];simp
 gp:=by unfold G4;rw [bu (by decide)];simp
 gt:=by unfold G4;rw [bu (by decide)];simp
 gl:=fun h=>by unfold G4;rw [cw (by simpa using h)]
 OL:=fun _=>by unfold G4;rw [bu (by decide)];simp
 ga:=fun h=>absurd rfl h
 ref:=fun x hx hne k hk=>by
  rcases ON (JH L r0) hx with e|e
  ·subst e;rfl
  ·simp only [List.mem_cons,List.not_mem_nil,or_false]at e;rcases e with rfl|rfl|rfl|rfl|rfl|rfl|rfl|rfl
   ·rfl
   ·exact yJ hk
   ·exact absurd rfl hne
   ·rfl
   ·rfl
   ·rfl
   ·rfl
   ·rfl
 sc:=⟨⟨0,Nat.zero_le _,by unfold G4 fK;rw [bu (by decide)];simp⟩,⟨0,Nat.zero_le _,by unfold G4 dw;rw [bu (by decide)];simp⟩,⟨0,Nat.zero_le _,by unfold G4 fo;rw [bu (by decide)];simp⟩⟩
 DZ:=fun k hk hg=>by
  have n0:k≠393241:=fun e=>(by subst e;cases hk);have ne: ∀j,gF j=false→k≠j:=fun j hj e=>(by subst e;rw [hj]at hk;cases hk);unfold G4 at hg;rw [bu n0]at hg;simp only [Fr.cS,Fr.get_nil]at hg;rw [if_neg (ne 6 (by decide)),if_neg (ne 7 (by decide)),if_neg (ne 8 (by decide)),if_neg (ne 90139 (by decide)),if_neg (ne 110619 (by decide)),if_neg (ne 188441 (by decide)),if_neg (ne 217115 (by decide)),if_neg (ne 339993 (by decide))]at hg;exact absurd rfl hg
theorem ab5 {r0:aH}(h:vz r0): ∃n:Nat,RB r0 n∧r0.wide*r0.deep=n:=by
 obtain⟨w,hw⟩:=Int.eq_ofNat_of_zero_le (show 0≤r0.wide by have:=h.w1;omega)
 obtain⟨d,hd⟩:=Int.eq_ofNat_of_zero_le (show 0≤r0.deep by have:=h.d1;omega)
 have w1:=h.w1;have w3:=h.w3;have d1:=h.d1;have d3:=h.d3;have e:r0.wide*r0.deep=((w*d:Nat):Int):=(by rw [hw,hd];simp);have l9:w*d≤3*3:=Nat.mul_le_mul (by omega) (by omega);have l1:0<w*d:=Nat.mul_pos (by omega) (by omega);exact⟨w*d,⟨by rw [e];exact cu (by omega) (by omega),l1,by omega,by omega,h.p3,h.t4,h.p0,h.t0,h.seen⟩,e⟩
theorem ab6 {L:Nat}(hL:L=H.length){r0:aH}(hs:r0.seen=[]):nd (G2 L r0::H) (su L r0 []) (.agg (jJ r0 []).row):=by
 subst hL;have g: ∀k,aj.get (G2 H.length r0::H) (H.length,k)=(G2 H.length r0).get k:=fun k=>(by simp);rw [cQ];unfold su;rw [rB];simp only [jJ,om,rA,og,and_true,true_and];refine⟨⟨_,0,false,(g _).trans (by unfold G2;rw [bu (by decide)];simp),Nat.zero_le _,by simp,rfl,rfl,rfl⟩,⟨_,0,false,(g _).trans (by unfold G2;rw [bu (by decide)];simp),Nat.zero_le _,by simp,rfl,rfl,rfl⟩, ?_,kB fun hr=>(g _).trans (by unfold G2;rw [cw hr]),kB fun hr=>absurd rfl hr⟩;rw [hs];rfl
def Ft (r0:aH)(ai:List ak)(s:ay):aH:={r0 with ai:=ai,ae:=ob r0.ae s.ae r0.ae.length}
structure JI (r0:aH)(ai:List ak)(s:ay)(m:Nat):Prop where
 room:vz r0
 made: ∃t:Int,Made r0 ai s t∧t≤2+m
 len:ai.length≤m
 ao: ∀w' hd',w'<r0.ah.length→(hd'=0∨hd'=1)→aX s.ao w' hd'= -1
def kt (c:Nat):Nat:=aq c 339993
def kl (c:Nat):Nat:=aq c 393241
def ka (c:Nat):Nat:=aq c 62
theorem Fs {nm:Nm}(hB0:fW H nm){sd N:Nat}(hsd:1≤sd∧sd≤3)(hN:N≤15)(hN1:1≤N):
  ∃r0 ai s wd,JI r0 ai s (2*N+6)∧aI KC (aC KC) 11 [.aD nm 0, .pure (.int .i64 sd), .pure (.int .i64 N)] c H=
   some (.pure (.agg (Ft r0 ai s).row),H.set nm (bL wd)):=by
 have hlt:=ib hB0;have hset:=kO hB0;have hne: ¬nm.1=H.length:=(by omega);have hne2: ¬nm.1=H.length+1:=(by omega);have hle:nm.1≤H.length:=by omega
 suffices hs:ku (aI KC (aC KC) 11 [.aD nm 0, .pure (.int .i64 sd), .pure (.int .i64 N)] c H) (fun x=> ∃r0 ai s wd,JI r0 ai s (2*N+6)∧x=(.pure (.agg (Ft r0 ai s).row),H.set nm (bL wd)))by
  obtain⟨x,hx,r0,ai,s,wd,h1,h3⟩:=hs;exact⟨r0,ai,s,wd,h1,by rw [hx,h3]⟩
 refine bj KC au Tryz.func11 rfl rfl Vb rfl rfl rfl (by simp) (by omega) ?_;have hl: ∀w,(H.set nm (bL w)).length=H.length:=fun w=>aj.length_set _ _ _;obtain⟨r0,wd1,hRB,eroom⟩:=Fz (c:=24) (H:=[(6,ir)]::H) (nm:=nm) (eC hB0) hsd (by simp [aq]) (by simp [aq]) (by simp [aq]) (fun k e=>hne (by rw [e];simp));obtain⟨n,hb,hn⟩:=ab5 hRB;have k1:aq 24 46=188441:=(by decide);have k2:aq 24 83=339993:=(by decide);have k3:aq 24 96=393241:=(by decide);have f1:aq 26 22=90139:=(by decide);have f2:aq 26 27=110619:=(by decide);have f3:aq 26 53=217115:=(by decide);have hroom:gV (aj.set (aj.set ([(6,ir)]::H.set nm (bL wd1)) (H.length,188441) (.arr 2 (r0.ah.map aQ.row) 0 false)) (H.length,339993) (.arr 5 (r0.ae.map aV.row) 0 false)) (H.length,393241) 1 (r0.aY.map aG)=dS 393241 1 (r0.aY.map aG) [(6,ir),(188441, .arr 2 (r0.ah.map aQ.row) 0 false),(339993, .arr 5 (r0.ae.map aV.row) 0 false)]::H.set nm (bL wd1):=by
  unfold gV dS;by_cases hls:r0.aY.map aG=[]
  ·rw [if_pos hls,if_pos hls];simp [hl]
  ·rw [if_neg hls,if_neg hls];simp [hl]
 simp only [List.length_cons,Nat.add_sub_cancel,k1,k2,k3,aj.eH hlt,hroom]at eroom;have efirst:=xW (c:=26) (H:=G2 H.length r0::H.set nm (bL wd1)) (jJ r0 []) (ab6 (H:=H.set nm (bL wd1)) (hl _).symm hRB.seen) hRB.p0 hRB.t0 (by show r0.ah.length≤_;have:=hb.pl;omega) (by show r0.ae.length≤_;have:=hb.tl;omega) (by simp) (by simp [hl,f1,G2]) (by simp [hl,f2,G2]) (by simp [hl,f3,G2])
 have hfirst:cr (G2 H.length r0::H.set nm (bL wd1)) (H.length,90139) (H.length,110619) (H.length,217115) 0 0 0 (az (jJ r0 []))=dS 393241 1 (r0.aY.map aG) [(6,ir),(7,gO H.length r0 []),(90139, .arr 1 ((az r0).ah.map aG) 0 false),(110619, .arr 2 ((az r0).ao.map aF.row) 0 false),(188441, .arr 2 (r0.ah.map aQ.row) 0 false),(217115, .arr 2 ((az r0).ae.map br.row) 0 false),(339993, .arr 5 (r0.ae.map aV.row) 0 false)]::H.set nm (bL wd1):=by
  show cr _ _ _ _ 0 0 0 (az r0)=_
  simp [cr,hl,G2]
 simp only [List.length_cons,Nat.add_sub_cancel,hl,f1,f2,f3,hfirst]at efirst;obtain⟨t,wd2,e2,ht⟩:=lO wd1 3 (by omega) (by omega);obtain⟨i,wd3,e3,hi1,hi2⟩:=mE wd2 N (by omega) (by omega);have hB:=fun w f0=>aaq hlt w f0;have hW:=fun w f0=>PD hlt w f0;have e4:su H.length r0 []=vA (H.length,188441) (H.length,339993) (H.length,393241) r0:=rfl;rw [e4]at efirst;simp [ir,vA,kv,gO,G2,dZ]at eroom efirst;have RS:D4 H.length r0 0 2 (G4 H.length r0) [] (az r0) 0 t:=⟨ab4 _ _,by omega,Made.first hRB (by omega),by simp,by omega⟩
 have L1:=fun Q=>He (H:=H) hlt r0 n hb hn Q i 0 2 (G4 H.length r0) [] (az r0) 0 t wd3 (by omega) (by omega) (by omega) RS;simp [fS,G4,gO,dW,fK,dw,fo,ir,dZ]at L1;simp [ir,eroom,hl,efirst,j3,sI,hB,hW,hne,hlt,hle,aj.eH,e2,e3];refine L1 _ fun F1 acts1 s1 q1 t1 wd4 hR1=> ?_;clear L1;simp;have L2:=fun Q=>Hg (H:=H.set nm (bL wd4)) r0 n hb q1 Q r0.ah.length 0 (2*i) (2+2*i) F1 acts1 s1 t1 (by omega) (by have:=hb.pl;omega) (by have:=hb.pl;omega) (by rw [hl];exact hR1) (fun w' hd' h=>absurd h (by omega));simp only [hl]at L2;refine L2 _ fun F2 acts2 s2 t2 hR2 hz=> ?_;clear L2;simp
 have L3:=fun Q=>Hi (H:=H.set nm (bL wd4)) r0 n hb acts2 s2 q1 hR2.q2 hR2.md.snd.tl Q r0.ae.length 0 F2 r0.ae (by omega) (by
  rw [hl];exact⟨hR2.fi.g6,hR2.fi.g7,hR2.fi.g8,hR2.fi.gp,hR2.fi.gl,hR2.fi.ga,hR2.fi.sc.h3,⟨0,Nat.zero_le _,hR2.fi.gt⟩,rfl⟩) (by
  refine List.ext_getElem (by simp [ob]) fun j h1 h2=> ?_;rw [sv _ _ _ _ h1,if_neg (by omega)])
 simp only [hl]at L3;refine L3 _ fun F3 hF=> ?_;clear L3;have g6:=hF.g6;have g7:=hF.g7;obtain⟨v,hv,gt⟩:=hF.gt;simp only [ir,gO]at g6 g7;have p3:=hRB.p3;have ml:=hR2.ml;have tT:=hR2.tT;have hRes:JI r0 acts2 s2 (2*N+6):=⟨hRB,⟨t2,hR2.md,by omega⟩,by omega,hz⟩;simp [g6,g7,hl,Fr.bp];have gp':=hF.gp;have gl':=hF.gl;have ga':=hF.ga;have tl:(ob r0.ae s2.ae r0.ae.length).length=r0.ae.length:=Ay _ _ _
 suffices hs: ∀x,fX KC 11 c (.agg [.pure (.int .i64 r0.wide), .pure (.int .i64 r0.deep), .aW (H.length,188441) 2 r0.ah.length 0 r0.ah.length, .aW (H.length,339993) 5 r0.ae.length 0 r0.ae.length, .aS,cv (H.length,393241) 1 (r0.aY.map aG),cv (H.length,62) 9 (acts2.map ak.row)]) (F3.ins 6 x::H.set nm (bL wd4))=
   some (.pure (.agg (Ft r0 acts2 s2).row),H.set nm (bL wd4))by
  rw [hs,gK];exact⟨r0,acts2,s2,hRes,wd4,rfl⟩
 intro x;have e6: ∀k,k≠6→(F3.ins 6 x).get k=F3.get k:=fun k h=>Fr.ax _ h _;have e1:=(e6 188441 (by decide)).trans gp';have e2:=(e6 339993 (by decide)).trans gt;have e3:=fun h=>(e6 393241 (by decide)).trans (gl' h);have e4:=fun h=>(e6 62 (by decide)).trans (ga' h);generalize F3.ins 6 x=F5 at e1 e2 e3 e4;rw [aa (by simp)];have lt:(H.set nm (bL wd4)).length-1<H.length:=(by rw [hl];omega);have hv':v≤r0.ae.length:=(by rw [←tl];exact hv);have nl: ¬H.length≤H.length-1:=(by omega);have q1: ∀k,aj.get (F5::H.set nm (bL wd4)) (H.length,k)=F5.get k:=fun k=>(by simp [hl]);have tk1:List.take r0.ah.length (r0.ah.map aQ.row)=r0.ah.map aQ.row:=List.take_of_length_le (by simp);have tk2:List.take r0.ae.length ((ob r0.ae s2.ae r0.ae.length).map aV.row)=(ob r0.ae s2.ae r0.ae.length).map aV.row:=List.take_of_length_le (by simp [tl]);have hc1:cL (F5::H.set nm (bL wd4)) ((H.set nm (bL wd4)).length-1) (.aW (H.length,188441) 2 r0.ah.length 0 r0.ah.length)= .pure (.slice (r0.ah.map aQ.row)):=by
  simp [hl,nl,q1,e1,tk1]
 have hc2:cL (F5::H.set nm (bL wd4)) ((H.set nm (bL wd4)).length-1) (.aW (H.length,339993) 5 r0.ae.length 0 r0.ae.length)= .pure (.slice ((ob r0.ae s2.ae r0.ae.length).map aV.row)):=by
  simp [hl,nl,q1,e2,tk2,tl,hv']
 have hc3:cL (F5::H.set nm (bL wd4)) ((H.set nm (bL wd4)).length-1) (cv (H.length,393241) 1 (r0.aY.map aG))=if r0.aY.map aG=[]then .aS else .pure (.slice (r0.aY.map aG)):=dp (hl _) lt (fun h=>e3 (by simpa using h));have hc4:cL (F5::H.set nm (bL wd4)) ((H.set nm (bL wd4)).length-1) (cv (H.length,62) 9 (acts2.map ak.row))=if acts2.map ak.row=[]then .aS else .pure (.slice (acts2.map ak.row)):=dp (hl _) lt (fun h=>e4 (by simpa using h));rw [pR];have e:canon (dm ([.pure (.int .i64 r0.wide), .pure (.int .i64 r0.deep), .aW (H.length,188441) 2 r0.ah.length 0 r0.ah.length, .aW (H.length,339993) 5 r0.ae.length 0 r0.ae.length, .aS,cv (H.length,393241) 1 (r0.aY.map aG),cv (H.length,62) 9 (acts2.map ak.row)].map (cL (F5::H.set nm (bL wd4)) ((H.set nm (bL wd4)).length-1))))= .pure (.agg (Ft r0 acts2 s2).row):=by
  refine oo ?_;have ci: ∀rows:List (List PV),cK (if rows=[]then .aS else .pure (.slice rows))= .pure (.slice rows):=fun rows=>by
   split
   ·rename_i h;subst h;rfl
   ·rfl
  simp only [List.map_cons,List.map_nil,lZ,hc1,hc2,hc3,hc4,ci];rw [cQ];show _=_
  simp [Ft,hRB.seen]
 rw [e]
end
section
variable {c:Nat} {H:aj}
theorem iQ {l key es bytes:Nat}{rows:List (List PV)}{fr:Fr}(hl:H.length=l)(hf:fr.get key=none)(hb:rows.length*bytes≤1099511627776):
  vo l key .aS es bytes rows (fr::H)=some (cv (l,key) es rows,dS key es rows fr::H):=by
 subst hl;unfold cv dS;by_cases h:rows=[]
 ·subst h;simp
 ·have: ¬H.length+1≤H.length:=(by omega);simp [h,hf,hb,this]
theorem Fc (l:List Int)(hn:l.length≤1000000)(hH:0<H.length):aI KC (aC KC) 56 [.pure (.slice (l.map aG))] c H=some (.pure (.slice (l.map aG)),H):=by
 refine aN (bj KC au Tryz.func56 rfl rfl Vr rfl rfl rfl (by simp) hH ?_);have hb:l.length*8≤1099511627776:=(by omega);have A:=iQ (H:=H) (l:=H.length) (key:=5) (es:=1) (bytes:=8) (rows:=l.map aG) (fr:=[]) rfl rfl (by simpa using hb);have hall: ∀x:Int,(aG x).length=1:=fun x=>rfl;simp [A,hall];rw [aa]
 ·rw [gK,VZ rfl (by omega)]
 ·simp
def Ae (n2 n3 n7:Nm)(r:aH):GV:= .agg [.pure (.int .i64 r.wide), .pure (.int .i64 r.deep),cv n2 2 (r.ah.map aQ.row),cv n3 5 (r.ae.map aV.row), .pure (.slice (r.seen.map aG)), .pure (.slice (r.aY.map aG)),cv n7 9 (r.ai.map ak.row)]
def JJ (H:aj)(n2 n3 n7:Nm)(r:aH):aj:=gV (gV (gV H n2 2 (r.ah.map aQ.row)) n3 5 (r.ae.map aV.row)) n7 9 (r.ai.map ak.row)
theorem D8 (r:aH) (h:eN r) (hH:0<H.length)
  (hf1:H.get (H.length-1,aq c 6)=none) (hf2:H.get (H.length-1,aq c 10)=none) (hf3:H.get (H.length-1,aq c 22)=none):
  aI KC (aC KC) 13 [.pure (.agg r.row)] c H=some (Ae (H.length-1,aq c 6) (H.length-1,aq c 10) (H.length-1,aq c 22) r,JJ H (H.length-1,aq c 6) (H.length-1,aq c 10) (H.length-1,aq c 22) r):=by
 refine aN (bj KC au Tryz.func13 rfl rfl Vd rfl rfl rfl (by simp) hH ?_);rw [cQ];have h1:=h.p;have h2:=h.t;have h3:=h.a;have b1:r.ah.length*16≤1099511627776:=(by omega);have b2:r.ae.length*40≤1099511627776:=(by omega);have b3:r.ai.length*72≤1099511627776:=(by omega);have l1: ∀x:aQ,x.row.length=2:=fun x=>rfl;have l2: ∀x:aV,x.row.length=5:=fun x=>rfl;have l3: ∀x:ak,x.row.length=9:=fun x=>rfl;have I1:=fun c (H:aj) (hH:0<H.length)=>Fc (c:=c) (H:=H) r.seen h.s hH;have I2:=fun c (H:aj) (hH:0<H.length)=>Fc (c:=c) (H:=H) r.aY h.l hH;have A1:=fun fr hf=>iQ (H:=H) (l:=H.length) (key:=6) (es:=2) (bytes:=16) (rows:=r.ah.map aQ.row) (fr:=fr) rfl hf (by simpa using b1);have A2:=fun fr hf=>iQ (H:=H) (l:=H.length) (key:=10) (es:=5) (bytes:=40) (rows:=r.ae.map aV.row) (fr:=fr) rfl hf (by simpa using b2);have A3:=fun fr hf=>iQ (H:=H) (l:=H.length) (key:=22) (es:=9) (bytes:=72) (rows:=r.ai.map ak.row) (fr:=fr) rfl hf (by simpa using b3);simp [A1,A2,A3,l1,l2,l3,I1,I2];have kx:aq c 6≠aq c 10:=(by unfold aq;omega);have lR:aq c 6≠aq c 22:=(by unfold aq;omega);have kD:aq c 10≠aq c 22:=(by unfold aq;omega);have nn: ∀a b:Nat,a≠b→((H.length-1,b):Nm)≠(H.length-1,a):=fun a b h e=>h (Prod.mk.inj e).2.symm;have gg: ∀(H':aj) (a b:Nat) (x:dM),a≠b→(H'.set (H.length-1,a) x).get (H.length-1,b)=H'.get (H.length-1,b):=fun H' a b x h=>aj.aL x (nn a b h);have d2:=fun x=>(gg H _ _ x kx).trans hf2;have d3:=fun x=>(gg H _ _ x lR).trans hf3;have d3':=fun x=>(gg H _ _ x kD).trans hf3;have d4:=fun x y=>(gg (H.set (H.length-1,aq c 6) x) _ _ y kD).trans (d3 x)
 suffices hs: ∀x y,fX KC 13 c (Ae (H.length,6) (H.length,10) (H.length,22) r) (dS 22 9 (r.ai.map ak.row) (dS 10 5 (r.ae.map aV.row) (dS 6 2 (r.ah.map aQ.row) [(1,x),(2,y)]))::H)=
   some (Ae (H.length-1,aq c 6) (H.length-1,aq c 10) (H.length-1,aq c 22) r,JJ H (H.length-1,aq c 6) (H.length-1,aq c 10) (H.length-1,aq c 22) r)by
  have:=hs;unfold Ae at this;rw [this,gK];rfl
 intro x y;unfold Ae JJ;by_cases e1:r.ah=[]
 ·by_cases e2:r.ae=[]
  ·by_cases e3:r.ai=[]
   ·simp [e1,e2,e3,cv,dS,bO,refs,dE,cV,b8,dc,df,dedup,cA,bV,ry,sK,jj,gJ,gV,hf1,hf2,hf3,d2,d3,d3',d4]
   ·simp [e1,e2,e3,cv,dS,bO,refs,dE,cV,b8,dc,df,dedup,cA,bV,ry,sK,jj,gJ,gV,hf1,hf2,hf3,d2,d3,d3',d4]
  ·by_cases e3:r.ai=[]
   ·simp [e1,e2,e3,cv,dS,bO,refs,dE,cV,b8,dc,df,dedup,cA,bV,ry,sK,jj,gJ,gV,hf1,hf2,hf3,d2,d3,d3',d4]
   ·simp [e1,e2,e3,cv,dS,bO,refs,dE,cV,b8,dc,df,dedup,cA,bV,ry,sK,jj,gJ,gV,hf1,hf2,hf3,d2,d3,d3',d4]
 ·by_cases e2:r.ae=[]
  ·by_cases e3:r.ai=[]
   ·simp [e1,e2,e3,cv,dS,bO,refs,dE,cV,b8,dc,df,dedup,cA,bV,ry,sK,jj,gJ,gV,hf1,hf2,hf3,d2,d3,d3',d4]
   ·simp [e1,e2,e3,cv,dS,bO,refs,dE,cV,b8,dc,df,dedup,cA,bV,ry,sK,jj,gJ,gV,hf1,hf2,hf3,d2,d3,d3',d4]
  ·by_cases e3:r.ai=[]
   ·simp [e1,e2,e3,cv,dS,bO,refs,dE,cV,b8,dc,df,dedup,cA,bV,ry,sK,jj,gJ,gV,hf1,hf2,hf3,d2,d3,d3',d4]
   ·simp [e1,e2,e3,cv,dS,bO,refs,dE,cV,b8,dc,df,dedup,cA,bV,ry,sK,jj,gJ,gV,hf1,hf2,hf3,d2,d3,d3',d4]
theorem ve {F:Fr}{l key es:Nat}{rows:List (List PV)}(hl:H.length=l):gV (F::H) (l,key) es rows=dS key es rows F::H:=by
 subst hl;unfold gV dS;split
 ·rfl
 ·simp
theorem Af {key es:Nat}{rows:List (List PV)}{F:Fr}{b:dM}:(dS key es rows F).ins key b=F.ins key b:=by
 unfold dS;split
 ·rfl
 ·exact Fr.iB _
theorem D9 {g:GV}(r:aH)(h:eN r)(hg:nd H g (.agg r.row))(hH:0<H.length):aI KC (aC KC) 60 [g] c H=some (.pure (.int .i64 (dG r)),H):=
 gL KC rfl rfl (Th hg) rfl hH (fun H hH=>Ea (c:=c) r h.s h.l h.p h.t hH) rfl
end
section
variable {c:Nat} {H:aj}
theorem jS {K:Ctx}{rec:Rec}{f:FuncId}{args:List GV}(h1:jv args=false)(h2:K.Aw f=false)(h3:K.Gs f=false):aI K rec f args c H=bM K rec f args c H:=by
 unfold aI;simp [h1,h2,h3]
section
variable {x:List PV} {l:List (List PV)}
theorem yM:iG KC .eql 22 (.pure (.slice (x::l)))=some (.bool false):=by
 unfold iG;rw [GJ,Tryz.underlying22];rfl
theorem yN:iG KC .eql 23 (.pure (.slice (x::l)))=some (.bool false):=by
 unfold iG;rw [GJ,Tryz.underlying23];rfl
theorem yO:iG KC .eql 24 (.pure (.slice (x::l)))=some (.bool false):=by
 unfold iG;rw [GJ,Tryz.underlying24];rfl
theorem yP:iG KC .eql 25 (.pure (.slice (x::l)))=some (.bool false):=by
 unfold iG;rw [GJ,Tryz.underlying25];rfl
theorem yQ:iG KC .eql 38 (.pure (.slice (x::l)))=some (.bool false):=by
 unfold iG;rw [GJ,Tryz.underlying38];rfl
theorem yR:iG KC .eql 39 (.pure (.slice (x::l)))=some (.bool false):=by
 unfold iG;rw [GJ,Tryz.underlying39];rfl
end
theorem pg (l:List Int)(h0:l≠[])(hn:l.length≤1000000)(hH:0<H.length)(hf:H.get (H.length-1,aq c 7)=none):
  aI KC (aC KC) 99 [.pure (.slice (l.map aG))] c H=some (.aW (H.length-1,aq c 7) 1 l.length 0 l.length,H.set (H.length-1,aq c 7) (.arr 1 (l.map aG) 0 false)):=by
 obtain⟨x,l',rfl⟩:=List.exists_cons_of_ne_nil h0;have hb:(l'.length+1)*8≤1099511627776:=(by simp at hn;omega);have hall: ∀x:Int,(aG x).length=1:=fun x=>rfl;have hnl: ¬H.length+1≤H.length:=(by omega);rw [jS rfl rfl rfl];refine aN (aJ KC au Tryz.func99 rfl rfl VX (by simp) hH ?_);simp [yM,yN,yO,yP,yQ,yR,hb,hall,hnl,bO,refs,dE,cV,b8,dc,df,dedup,cA,bV,ry,hf,sK,jj,gJ]
theorem sx (l:List aF)(h0:l≠[])(hn:l.length≤1000000)(hH:0<H.length)(hf:H.get (H.length-1,aq c 7)=none):
  aI KC (aC KC) 100 [.pure (.slice (l.map aF.row))] c H=some (.aW (H.length-1,aq c 7) 2 l.length 0 l.length,H.set (H.length-1,aq c 7) (.arr 2 (l.map aF.row) 0 false)):=by
 obtain⟨x,l',rfl⟩:=List.exists_cons_of_ne_nil h0;have hb:(l'.length+1)*16≤1099511627776:=(by simp at hn;omega);have hall: ∀x:aF,(aF.row x).length=2:=fun x=>rfl;have hnl: ¬H.length+1≤H.length:=(by omega);rw [jS rfl rfl rfl];refine aN (aJ KC au Tryz.func100 rfl rfl N4 (by simp) hH ?_);simp [yM,yN,yO,yP,yQ,yR,hb,hall,hnl,bO,refs,dE,cV,b8,dc,df,dedup,cA,bV,ry,hf,sK,jj,gJ]
theorem Ah (l:List br)(h0:l≠[])(hn:l.length≤1000000)(hH:0<H.length)(hf:H.get (H.length-1,aq c 7)=none):
  aI KC (aC KC) 101 [.pure (.slice (l.map br.row))] c H=some (.aW (H.length-1,aq c 7) 2 l.length 0 l.length,H.set (H.length-1,aq c 7) (.arr 2 (l.map br.row) 0 false)):=by
 obtain⟨x,l',rfl⟩:=List.exists_cons_of_ne_nil h0;have hb:(l'.length+1)*16≤1099511627776:=(by simp at hn;omega);have hall: ∀x:br,(br.row x).length=2:=fun x=>rfl;have hnl: ¬H.length+1≤H.length:=(by omega);rw [jS rfl rfl rfl];refine aN (aJ KC au Tryz.func101 rfl rfl N5 (by simp) hH ?_);simp [yM,yN,yO,yP,yQ,yR,hb,hall,hnl,bO,refs,dE,cV,b8,dc,df,dedup,cA,bV,ry,hf,sK,jj,gJ]
theorem wY (l:List aQ)(h0:l≠[])(hn:l.length≤1000000)(hH:0<H.length)(hf:H.get (H.length-1,aq c 7)=none):
  aI KC (aC KC) 102 [.pure (.slice (l.map aQ.row))] c H=some (.aW (H.length-1,aq c 7) 2 l.length 0 l.length,H.set (H.length-1,aq c 7) (.arr 2 (l.map aQ.row) 0 false)):=by
 obtain⟨x,l',rfl⟩:=List.exists_cons_of_ne_nil h0;have hb:(l'.length+1)*16≤1099511627776:=(by simp at hn;omega);have hall: ∀x:aQ,(aQ.row x).length=2:=fun x=>rfl;have hnl: ¬H.length+1≤H.length:=(by omega);rw [jS rfl rfl rfl];refine aN (aJ KC au Tryz.func102 rfl rfl N6 (by simp) hH ?_);simp [yM,yN,yO,yP,yQ,yR,hb,hall,hnl,bO,refs,dE,cV,b8,dc,df,dedup,cA,bV,ry,hf,sK,jj,gJ]
theorem xJ (l:List aV)(h0:l≠[])(hn:l.length≤1000000)(hH:0<H.length)(hf:H.get (H.length-1,aq c 7)=none):
  aI KC (aC KC) 103 [.pure (.slice (l.map aV.row))] c H=some (.aW (H.length-1,aq c 7) 5 l.length 0 l.length,H.set (H.length-1,aq c 7) (.arr 5 (l.map aV.row) 0 false)):=by
 obtain⟨x,l',rfl⟩:=List.exists_cons_of_ne_nil h0;have hb:(l'.length+1)*40≤1099511627776:=(by simp at hn;omega);have hall: ∀x:aV,(aV.row x).length=5:=fun x=>rfl;have hnl: ¬H.length+1≤H.length:=(by omega);rw [jS rfl rfl rfl];refine aN (aJ KC au Tryz.func103 rfl rfl N7 (by simp) hH ?_);simp [yM,yN,yO,yP,yQ,yR,hb,hall,hnl,bO,refs,dE,cV,b8,dc,df,dedup,cA,bV,ry,hf,sK,jj,gJ]
theorem ux (l:List ak)(h0:l≠[])(hn:l.length≤1000000)(hH:0<H.length)(hf:H.get (H.length-1,aq c 7)=none):
  aI KC (aC KC) 75 [.pure (.slice (l.map ak.row))] c H=some (.aW (H.length-1,aq c 7) 9 l.length 0 l.length,H.set (H.length-1,aq c 7) (.arr 9 (l.map ak.row) 0 false)):=by
 obtain⟨x,l',rfl⟩:=List.exists_cons_of_ne_nil h0;have hb:(l'.length+1)*72≤1099511627776:=(by simp at hn;omega);have hall: ∀x:ak,(ak.row x).length=9:=fun x=>rfl;have hnl: ¬H.length+1≤H.length:=(by omega);rw [jS rfl rfl rfl];refine aN (aJ KC au Tryz.func75 rfl rfl VE (by simp) hH ?_);simp [yM,yN,yO,yP,yQ,yR,hb,hall,hnl,bO,refs,dE,cV,b8,dc,df,dedup,cA,bV,ry,hf,sK,jj,gJ]
end
section
variable {c:Nat} {H:aj}
def cf (r:aH)(s:ay):dM:= .box [.pure (.int .i64 r.wide), .pure (.int .i64 r.deep), .pure (.slice (r.ah.map aQ.row)), .pure (.slice (r.ae.map aV.row)), .pure (.slice (r.seen.map aG)), .pure (.slice (r.aY.map aG)), .pure (.slice (r.ai.map ak.row)), .pure (.slice (s.ah.map aG)), .pure (.slice (s.ao.map aF.row)), .pure (.slice (s.ae.map br.row))]
structure Full (s:ay):Prop where
 p0:s.ah≠[]
 h0:s.ao≠[]
 pl:s.ah.length≤1000000
 hl:s.ao.length≤1000000
 tl:s.ae.length≤1000000
theorem Hj (r:aH){s:ay}(h:Full s)(ht0:s.ae≠[])(hH:0<H.length)(hf1:H.get (H.length-1,aq c 28679)=none)(hf2:H.get (H.length-1,aq c 28683)=none)(hf3:H.get (H.length-1,aq c 28687)=none):
  aI KC (aC KC) 63 [.pure (.agg (bA r s))] c H=some (uP r (H.length-1,aq c 28679) (H.length-1,aq c 28683) (H.length-1,aq c 28687) s,
   cr H (H.length-1,aq c 28679) (H.length-1,aq c 28683) (H.length-1,aq c 28687) 0 0 0 s):=by
 refine aN (bj KC au Tryz.func63 rfl rfl I9 rfl rfl rfl (by simp) hH ?_);have kx:aq c 28679≠aq c 28683:=(by unfold aq;omega);have lR:aq c 28679≠aq c 28687:=(by unfold aq;omega);have kD:aq c 28683≠aq c 28687:=(by unfold aq;omega);have k1:(H.length-1,aq c 28683)≠((H.length-1,aq c 28679):Nm):=fun e=>kx (Prod.mk.inj e).2.symm;have k2:(H.length-1,aq c 28687)≠((H.length-1,aq c 28679):Nm):=fun e=>lR (Prod.mk.inj e).2.symm;have k3:(H.length-1,aq c 28687)≠((H.length-1,aq c 28683):Nm):=fun e=>kD (Prod.mk.inj e).2.symm;have g2: ∀b,(H.set (H.length-1,aq c 28679) b).get (H.length-1,aq c 28683)=none:=fun b=>(aj.aL b k1).trans hf2;have g3: ∀b b',((H.set (H.length-1,aq c 28679) b).set (H.length-1,aq c 28683) b').get (H.length-1,aq c 28687)=none:=fun b b'=>(aj.aL b' k3).trans ((aj.aL b k2).trans hf3);have m1:aq 6 7=28679:=(by decide);have m2:aq 10 7=28683:=(by decide);have m3:aq 14 7=28687:=(by decide);have C1:=fun(F:Fr) (hf:F.get 28679=none)=>pg (c:=6) (H:=F::H) s.ah h.p0 h.pl (by simp) (by simp [m1,hf]);have C2:=fun(F:Fr) (hf:F.get 28683=none)=>sx (c:=10) (H:=F::H) s.ao h.h0 h.hl (by simp) (by simp [m2,hf]);have C3:=fun(F:Fr) (hf:F.get 28687=none)=>Ah (c:=14) (H:=F::H) s.ae ht0 h.tl (by simp) (by simp [m3,hf]);simp [m1,m2,m3]at C1 C2 C3;unfold bA;simp [C1,C2,C3,bO,refs,dE,cV,b8,dc,df,dedup,cA,bV,ry,hf1,g2,g3,sK,jj,gJ,cr,uP]
def Xl (r:aH)(n1 n2:Nm)(s:ay):GV:= .agg [.pure (.int .i64 r.wide), .pure (.int .i64 r.deep), .pure (.slice (r.ah.map aQ.row)), .pure (.slice (r.ae.map aV.row)), .pure (.slice (r.seen.map aG)), .pure (.slice (r.aY.map aG)), .pure (.slice (r.ai.map ak.row)), .aW n1 1 s.ah.length 0 s.ah.length, .aW n2 2 s.ao.length 0 s.ao.length, .aS]
theorem B5:aI KC (aC KC) 101 [.pure (.slice [])] c H=some (.aS,H):=by
 unfold aI;rw [show KC.tG 101=true from rfl]
 simp [jv]
theorem Dr (r:aH){s:ay}(h:Full s)(ht0:s.ae=[])(hH:0<H.length)(hf1:H.get (H.length-1,aq c 28679)=none)(hf2:H.get (H.length-1,aq c 28683)=none):
  aI KC (aC KC) 63 [.pure (.agg (bA r s))] c H=some (Xl r (H.length-1,aq c 28679) (H.length-1,aq c 28683) s,
   (H.set (H.length-1,aq c 28679) (.arr 1 (s.ah.map aG) 0 false)).set (H.length-1,aq c 28683) (.arr 2 (s.ao.map aF.row) 0 false)):=by
 refine aN (bj KC au Tryz.func63 rfl rfl I9 rfl rfl rfl (by simp) hH ?_);have kx:aq c 28679≠aq c 28683:=(by unfold aq;omega);have k1:(H.length-1,aq c 28683)≠((H.length-1,aq c 28679):Nm):=fun e=>kx (Prod.mk.inj e).2.symm;have g2: ∀b,(H.set (H.length-1,aq c 28679) b).get (H.length-1,aq c 28683)=none:=fun b=>(aj.aL b k1).trans hf2;have m1:aq 6 7=28679:=(by decide);have m2:aq 10 7=28683:=(by decide);have C1:=fun(F:Fr) (hf:F.get 28679=none)=>pg (c:=6) (H:=F::H) s.ah h.p0 h.pl (by simp) (by simp [m1,hf]);have C2:=fun(F:Fr) (hf:F.get 28683=none)=>sx (c:=10) (H:=F::H) s.ao h.h0 h.hl (by simp) (by simp [m2,hf]);have C3:=fun(H:aj)=>B5 (c:=14) (H:=H);simp [m1,m2]at C1 C2;unfold bA;simp [ht0,C1,C2,C3,bO,refs,dE,cV,b8,dc,df,dedup,cA,bV,ry,hf1,g2,sK,jj,gJ,Xl]
def ab1 (r:aH)(s:ay):Prop:= ∀i,i<r.ae.length→s.ae.getD i aU=⟨(r.ae.getD i cF).home,(r.ae.getD i cF).want⟩
def OG (s:ay):Prop:=s.ao=s.ao.map fun _=>empty
noncomputable def mK:aH→ay→Bool:=na fun r s=>decide (s.ao=s.ao.map fun _=>empty) && decide (∀i,i<r.ae.length→s.ae.getD i aU=⟨(r.ae.getD i cF).home,(r.ae.getD i cF).want⟩)
theorem BW (r:aH)(s:ay):mK r s=(decide (s.ao=s.ao.map fun _=>empty) && decide (∀i,i<r.ae.length→s.ae.getD i aU=⟨(r.ae.getD i cF).home,(r.ae.getD i cF).want⟩)):=by rw [mK,cO]
theorem Hk (r:aH)(s:ay)(hn:s.ao.length≤1000000)(Q:GX→bP→Prop): ∀k i:Nat,i+k=s.ao.length→
  ((∀j,i≤j→j<s.ao.length→s.ao.getD j bH=empty)→Q (.exit 0) ⟨[(1, .aD (H.length,1) 0),(2,aP)],[(1,cf r s)]::H,41⟩)→
  (¬(∀j,i≤j→j<s.ao.length→s.ao.getD j bH=empty)→Q .ret ⟨[(1, .aD (H.length,1) 0),(2, .pure (.bool false))],[(1,cf r s)]::H,41⟩)→
  fL KC au 94 (lp Tryz.f94 0) [1,9,10,11] [1,2] Q [(1, .aD (H.length,1) 0),(9, .pure (.slice (s.ao.map aF.row))),(10, .pure (.int .i64 s.ao.length)),(11, .pure (.int .i64 i))] ([(1,cf r s)]::H) 41:=by
 intro k
 induction k with
 |zero=>
  intro i hi h1 h2;apply aw;conv=>arg 4;whnf
  have: ¬i<s.ao.length:=(by omega);simp [this,cf];simpa [cf]using h1 (fun j a b=>by omega)
 |succ k ih=>
  intro i hi h1 h2;have hia:i<s.ao.length:=(by omega);have hw:=cu (x:=(i:Int)+1) (by omega) (by omega);have hg:=bc (d:=bH) hia;apply aw;conv=>arg 4;whnf
  by_cases e1:s.ao[i].l= -1
  ·by_cases e2:s.ao[i].r= -1
   ·have he:s.ao.getD i bH=empty:=(by rw [hg];cases hh:s.ao[i];rw [hh]at e1 e2;simp only at e1 e2;rw [e1,e2];rfl);have ih':=ih (i+1) (by omega) (fun h=>h1 fun j a b=>by
     by_cases e:j=i
     ·rw [e];exact he
     ·exact h j (by omega) b) (fun h=>h2 fun h'=>h fun j a b=>h' j (by omega) b)
    simp [hia,aF.row,hw,cf,e1,e2];simpa [aF.row,cf]using ih'
   ·have e2':(s.ao[i].r== -1)=false:=(by simpa using e2);simp [hia,aF.row,cf,e1,e2'];simpa [cf]using h2 fun h'=>by
     have:=h' i (Nat.le_refl _) hia;rw [hg]at this;rw [this]at e2;exact e2 rfl
  ·have e1':(s.ao[i].l== -1)=false:=(by simpa using e1);simp [hia,aF.row,cf,e1'];simpa [cf]using h2 fun h'=>by
    have:=h' i (Nat.le_refl _) hia;rw [hg]at this;rw [this]at e1;exact e1 rfl
theorem Hl (r:aH)(s:ay)(hn:r.ae.length≤1000000)(hst:s.ae.length=r.ae.length)(Q:GX→bP→Prop): ∀k i:Nat,i+k=r.ae.length→
  ((∀j,i≤j→j<r.ae.length→s.ae.getD j aU=⟨(r.ae.getD j cF).home,(r.ae.getD j cF).want⟩)→Q (.exit 2) ⟨[(2,aP)],[(1,cf r s)]::H,41⟩)→
  (¬(∀j,i≤j→j<r.ae.length→s.ae.getD j aU=⟨(r.ae.getD j cF).home,(r.ae.getD j cF).want⟩)→Q .ret ⟨[(2, .pure (.bool false))],[(1,cf r s)]::H,41⟩)→
  fL KC au 94 (lp Tryz.f94 1) [1,21,22,23] [2] Q [(1, .aD (H.length,1) 0),(21, .pure (.slice (r.ae.map aV.row))),(22, .pure (.int .i64 r.ae.length)),(23, .pure (.int .i64 i))] ([(1,cf r s)]::H) 41:=by
 intro k
 induction k with
 |zero=>
  intro i hi h1 h2;apply aw;conv=>arg 4;whnf
  have: ¬i<r.ae.length:=(by omega);simp [this,cf];simpa [cf]using h1 (fun j a b=>by omega)
 |succ k ih=>
  intro i hi h1 h2;have hia:i<r.ae.length:=(by omega);have his:i<s.ae.length:=(by omega);have hw:=cu (x:=(i:Int)+1) (by omega) (by omega);have hg:=bc (d:=cF) hia;have hg2:=bc (d:=aU) his;apply aw;conv=>arg 4;whnf
  by_cases e1:s.ae[i].cell=r.ae[i].home
  ·by_cases e2:s.ae[i].state=r.ae[i].want
   ·have he:s.ae.getD i aU=⟨(r.ae.getD i cF).home,(r.ae.getD i cF).want⟩:=(by rw [hg,hg2,←e1,←e2]);have ih':=ih (i+1) (by omega) (fun h=>h1 fun j a b=>by
     by_cases e:j=i
     ·rw [e];exact he
     ·exact h j (by omega) b) (fun h=>h2 fun h'=>h fun j a b=>h' j (by omega) b)
    simp [hia,his,aV.row,br.row,hw,cf,e1,e2];simpa [aV.row,br.row,cf]using ih'
   ·have e2':(s.ae[i].state==r.ae[i].want)=false:=(by simpa using e2);simp [hia,his,aV.row,br.row,cf,e1,e2'];simpa [cf]using h2 fun h'=>by
     have:=h' i (Nat.le_refl _) hia;rw [hg,hg2]at this;rw [this]at e2;exact e2 rfl
  ·have e1':(s.ae[i].cell==r.ae[i].home)=false:=(by simpa using e1);simp [hia,his,aV.row,br.row,cf,e1'];simpa [cf]using h2 fun h'=>by
    have:=h' i (Nat.le_refl _) hia;rw [hg,hg2]at this;rw [this]at e1;exact e1 rfl
theorem Dt (r:aH)(s:ay)(hn:r.ae.length≤1000000)(hn2:s.ao.length≤1000000)(hst:s.ae.length=r.ae.length)(hH:0<H.length):
  aI KC (aC KC) 94 [.pure (.agg (bA r s))] c H=some (.pure (.bool (mK r s)),H):=by
 refine dq rfl rfl rfl rfl rfl hH fun H hH=> ?_;refine aN (aJ KC au Tryz.func94 rfl rfl VR (by simp) hH ?_);have hd:=BW r s;have eh:(∀j,0≤j→j<s.ao.length→s.ao.getD j bH=empty)↔OG s:=by
  unfold OG;constructor
  ·intro h;refine List.ext_getElem (by simp) fun j h1 h2=> ?_;have:=h j (Nat.zero_le _) h1;rw [bc h1]at this;simp [this]
  ·intro h j _ hj;rw [bc hj];have:s.ao[j]'hj=(s.ao.map fun _=>empty)[j]'(by simpa using hj):=(by congr 1);rw [this];simp
 have et:(∀j,0≤j→j<r.ae.length→s.ae.getD j aU=⟨(r.ae.getD j cF).home,(r.ae.getD j cF).want⟩)↔ab1 r s:=⟨fun h i hi=>h i (Nat.zero_le _) hi,fun h i _ hi=>h i hi⟩;have L1:=fun Q=>Hk (H:=H) r s hn2 Q s.ao.length 0 (by omega);rw [eh]at L1;have L2:=fun Q=>Hl (H:=H) r s hn hst Q r.ae.length 0 (by omega);rw [et]at L2;unfold bA;simp;simp [cf]at L1 L2;refine L1 _ (fun h=> ?_) (fun h=> ?_)
 ·simp;refine L2 _ (fun h2=> ?_) (fun h2=> ?_)
  ·have:mK r s=true:=(by rw [hd,decide_eq_true (p:=s.ao=s.ao.map fun _=>empty) h,Bool.true_and];exact decide_eq_true (p:= ∀i,i<r.ae.length→s.ae.getD i aU=⟨(r.ae.getD i cF).home,(r.ae.getD i cF).want⟩) h2);simp [aa,this]
  ·have:mK r s=false:=by
    rw [hd,Bool.and_eq_false_iff];right;exact decide_eq_false (p:= ∀i,i<r.ae.length→s.ae.getD i aU=⟨(r.ae.getD i cF).home,(r.ae.getD i cF).want⟩) h2
   simp [aa,this]
 ·have:mK r s=false:=by
   rw [hd,Bool.and_eq_false_iff];left;exact decide_eq_false (p:=s.ao=s.ao.map fun _=>empty) h
  simp [aa,this]
end
section
variable {c:Nat} {H:aj}
theorem ab7 {l key es bytes dw es2:Nat}{rows rows2:List (List PV)}{r:List PV}{X f0:Fr}(hl:H.length=l)(hne:key≠dw)(hf:X.get key=none)(hb:(rows.length+1)*bytes≤1099511627776):
  vo l key (cv (l,key) es rows) es bytes [r] (f0::dS dw es2 rows2 (dS key es rows X)::H)=some (cv (l,key) es (rows++[r]),f0::dS dw es2 rows2 (dS key es (rows++[r]) X)::H):=by
 subst hl;have g: ∀rows,(dS dw es2 rows2 (dS key es rows X)).get key=(dS key es rows X).get key:=fun rows=>bu hne;have hh: ∀Fx:Fr,aj.get (f0::Fx::H) (H.length,key)=Fx.get key:=fun Fx=>(by simp);rw [pP (fun h=>(hh _).trans ((g _).trans (by rw [h,gW,hf]))) (fun h=>(hh _).trans ((g _).trans (cw h))) (by simp;omega) hb];have e:(dS dw es2 rows2 (dS key es rows X)).ins key (.arr es (rows++[r]) 0 false)=dS dw es2 rows2 (dS key es (rows++[r]) X):=by
  rw [pB hne,Af];congr 1;unfold dS;simp
 simp [e]
def oT:dM:= .box [.pure (.int .i64 0), .pure (.int .i64 0), .aS, .aS, .aS, .aS, .aS, .aS, .aS, .aS]
def Eb (r:aH)(L:Nat)(p:List Int)(h:List aF):Fr:=dS 31 2 (h.map aF.row) (dS 23 1 (p.map aG) [(1,aA r),(2,oT),(3, .box [.pure (.int .i64 r.wide), .pure (.int .i64 r.deep), .pure (.slice (r.ah.map aQ.row)), .pure (.slice (r.ae.map aV.row)), .pure (.slice (r.seen.map aG)), .pure (.slice (r.aY.map aG)), .pure (.slice (r.ai.map ak.row)),cv (L,23) 1 (p.map aG),cv (L,31) 2 (h.map aF.row), .aS])])
theorem Hn (r:aH)(hpl:r.ah.length≤1000000)(Q:GX→bP→Prop): ∀(k i:Nat) (p:List Int) (h:List aF),i+k=r.ah.length→p.length=i→h.length=i→
  Q (.exit 0) ⟨[(1, .aD (H.length,1) 0),(2, .aD (H.length,2) 0),(3, .aD (H.length,3) 0)],Eb r H.length (p++(r.ah.drop i).map (·.cell)) (h++(r.ah.drop i).map fun _=>empty)::H,56⟩→
  fL KC au 92 (lp Tryz.f92 0) [1,2,3,11,12,13] [1,2,3] Q [(1, .aD (H.length,1) 0),(2, .aD (H.length,2) 0),(3, .aD (H.length,3) 0),(11, .pure (.slice (r.ah.map aQ.row))),(12, .pure (.int .i64 r.ah.length)),(13, .pure (.int .i64 i))] (Eb r H.length p h::H) 56:=by
 intro k
 induction k with
 |zero=>
  intro i p h hi hp hh hq;have e1:r.ah.drop i=[]:=List.drop_of_length_le (by omega);rw [e1]at hq;apply aw;conv=>arg 4;whnf
  have: ¬i<r.ah.length:=(by omega);simp [this,Eb];simpa [Eb]using hq
 |succ k ih=>
  intro i p h hi hp hh hq;have hia:i<r.ah.length:=(by omega);have hw:=cu (x:=(i:Int)+1) (by omega) (by omega);have e1:r.ah.drop i=r.ah[i]::r.ah.drop (i+1):=List.drop_eq_getElem_cons hia;have ih':=ih (i+1) (p++[r.ah[i].cell]) (h++[empty]) (by omega) (by simp [hp]) (by simp [hh]) (by rw [e1,List.map_cons,List.map_cons]at hq;rw [List.append_assoc,List.append_assoc];exact hq);have b1:(p.length+1)*8≤1099511627776:=(by omega);have b2:(h.length+1)*16≤1099511627776:=(by omega);have K1:=fun(f0 X:Fr) hf=>ab7 (H:=H) (l:=H.length) (key:=23) (es:=1) (bytes:=8) (dw:=31) (es2:=2) (rows:=p.map aG) (rows2:=h.map aF.row) (r:=[.int .i64 r.ah[i].cell]) (X:=X) (f0:=f0) rfl (by decide) hf (by simpa using b1);have K2:=fun(f0 X:Fr) hf=>vn (H:=H) (l:=H.length) (key:=31) (es:=2) (bytes:=16) (rows:=h.map aF.row) (r:=[.int .i64 (-1), .int .i64 (-1)]) (fr:=X) (f0:=f0) rfl hf (by simpa using b2);apply aw;conv=>arg 4;whnf
  simp [Eb,aG,aF.row,empty]at ih';simp [hia,aQ.row,Eb,hw,K1,K2];exact ih'
def Ec (r:aH)(L:Nat)(p:List Int)(h:List aF)(t:List br):Fr:=dS 51 2 (t.map br.row) (dS 31 2 (h.map aF.row) (dS 23 1 (p.map aG) [(1,aA r),(2,oT),(3, .box [.pure (.int .i64 r.wide), .pure (.int .i64 r.deep), .pure (.slice (r.ah.map aQ.row)), .pure (.slice (r.ae.map aV.row)), .pure (.slice (r.seen.map aG)), .pure (.slice (r.aY.map aG)), .pure (.slice (r.ai.map ak.row)),cv (L,23) 1 (p.map aG),cv (L,31) 2 (h.map aF.row),cv (L,51) 2 (t.map br.row)])]))
theorem Ho (r:aH)(htl:r.ae.length≤1000000)(p:List Int)(h:List aF)(Q:GX→bP→Prop): ∀(k i:Nat) (t:List br),i+k=r.ae.length→t.length=i→
  Q (.exit 2) ⟨[(2, .aD (H.length,2) 0),(3, .aD (H.length,3) 0)],Ec r H.length p h (t++(r.ae.drop i).map gv)::H,56⟩→
  fL KC au 92 (lp Tryz.f92 1) [2,3,36,37,38] [2,3] Q [(2, .aD (H.length,2) 0),(3, .aD (H.length,3) 0),(36, .pure (.slice (r.ae.map aV.row))),(37, .pure (.int .i64 r.ae.length)),(38, .pure (.int .i64 i))] (Ec r H.length p h t::H) 56:=by
 intro k
 induction k with
 |zero=>
  intro i t hi ht hq;have e1:r.ae.drop i=[]:=List.drop_of_length_le (by omega);rw [e1]at hq;apply aw;conv=>arg 4;whnf
  have: ¬i<r.ae.length:=(by omega);simp [this,Ec];simpa [Ec]using hq
 |succ k ih=>
  intro i t hi ht hq;have hia:i<r.ae.length:=(by omega);have hw:=cu (x:=(i:Int)+1) (by omega) (by omega);have e1:r.ae.drop i=r.ae[i]::r.ae.drop (i+1):=List.drop_eq_getElem_cons hia;have ih':=ih (i+1) (t++[gv r.ae[i]]) (by omega) (by simp [ht]) (by rw [e1,List.map_cons]at hq;rw [List.append_assoc];exact hq);have b2:(t.length+1)*16≤1099511627776:=(by omega);have K2:=fun(f0 X:Fr) hf=>vn (H:=H) (l:=H.length) (key:=51) (es:=2) (bytes:=16) (rows:=t.map br.row) (r:=[.int .i64 r.ae[i].cell, .int .i64 r.ae[i].state]) (fr:=X) (f0:=f0) rfl hf (by simpa using b2);apply aw;conv=>arg 4;whnf
  simp [Ec,br.row,gv]at ih';simp [hia,aV.row,Ec,hw,K2];exact ih'
theorem yu (r:aH)(hpl:r.ah.length≤1000000)(htl:r.ae.length≤1000000)(hH:0<H.length):
  aI KC (aC KC) 92 [.pure (.agg r.row)] c H=some (.pure (.agg (bA r (az r))),H):=by
 refine aN (bj KC au Tryz.func92 rfl rfl VQ rfl rfl rfl (by simp) hH ?_);rw [cQ];have L1:=fun Q h=>Hn (H:=H) r hpl Q r.ah.length 0 [] [] (by omega) rfl rfl h;simp [Eb,dZ,gW,aA,oT]at L1;simp;refine L1 _ ?_;clear L1;have L2:=fun p h Q hh=>Ho (H:=H) r htl p h Q r.ae.length 0 [] (by omega) rfl hh;simp [Ec,dZ,gW,aA,oT]at L2;simp;have L3:=L2 (r.ah.map (·.cell)) (r.ah.map fun _=>empty);simp at L3;refine L3 _ ?_;clear L2 L3;simp;obtain⟨a1,h1⟩: ∃a1,r.ah.map (aG ∘ fun x=>x.cell)=a1:=⟨_,rfl⟩;obtain⟨a2,h2⟩: ∃a2,r.ah.map (aF.row ∘ fun _=>empty)=a2:=⟨_,rfl⟩;obtain⟨a3,h3⟩: ∃a3,r.ae.map (br.row ∘ gv)=a3:=⟨_,rfl⟩;rw [h1,h2,h3];generalize hx:dM.box [.pure (.int .i64 r.wide), .pure (.int .i64 r.deep), .pure (.slice (r.ah.map aQ.row)), .pure (.slice (r.ae.map aV.row)), .pure (.slice (r.seen.map aG)), .pure (.slice (r.aY.map aG)), .pure (.slice (r.ai.map ak.row)),cv (H.length,23) 1 a1,cv (H.length,31) 2 a2,cv (H.length,51) 2 a3]=x;obtain⟨y,hy⟩: ∃y,dM.box [.pure (.int .i64 r.wide), .pure (.int .i64 r.deep), .pure (.slice (r.ah.map aQ.row)), .pure (.slice (r.ae.map aV.row)), .pure (.slice (r.seen.map aG)), .pure (.slice (r.aY.map aG)), .pure (.slice (r.ai.map ak.row))]=y:=⟨_,rfl⟩;rw [hy];obtain⟨F,hF⟩: ∃F,dS 51 2 a3 (dS 31 2 a2 (dS 23 1 a1 [(1,y),(2,x),(3,x)]))=F:=⟨_,rfl⟩;have g1:a1≠[]→F.get 23=some (.arr 1 a1 0 false):=fun h=>(by rw [←hF,bu (by decide),bu (by decide),cw h]);have g2:a2≠[]→F.get 31=some (.arr 2 a2 0 false):=fun h=>(by rw [←hF,bu (by decide),cw h]);have g3:a3≠[]→F.get 51=some (.arr 2 a3 0 false):=fun h=>(by rw [←hF,cw h]);rw [hF,aa (by simp),gK];have lt:H.length-1<H.length:=(by omega);rw [pR];have ci: ∀rows:List (List PV),cK (if rows=[]then .aS else .pure (.slice rows))= .pure (.slice rows):=fun rows=>by
  split
  ·rename_i h;subst h;rfl
  ·rfl
 have e:canon (dm ([.pure (.int .i64 r.wide), .pure (.int .i64 r.deep), .pure (.slice (r.ah.map aQ.row)), .pure (.slice (r.ae.map aV.row)), .pure (.slice (r.seen.map aG)), .pure (.slice (r.aY.map aG)), .pure (.slice (r.ai.map ak.row)),cv (H.length,23) 1 a1,cv (H.length,31) 2 a2,cv (H.length,51) 2 a3].map (cL (F::H) (H.length-1))))= .pure (.agg (bA r (az r))):=by
  refine oo ?_;simp only [List.map_cons,List.map_nil,lZ,dp rfl lt g1,dp rfl lt g2,dp rfl lt g3,ci];simp [bA,az,←h1,←h2,←h3,cK]
 rw [e]
end
section
variable {c:Nat} {H:aj}
def kH (tk:List (Int×Int)):List (PV×GV):=tk.map fun x=>(.agg [.int .i64 x.1, .int .i64 x.2], .pure (.bool true))
theorem mP (a b : Int) : ∀ (tk : List (Int × Int)) (i : Nat), cN (.agg [.int .i64 a, .int .i64 b]) (kH tk) i = some (if (a, b) ∈ tk then some (i + tk.idxOf (a, b), .pure (.bool true)) else none)
  | [], i => by simp [kH, cN]
  | (p, q) :: tk, i => by
    have ih := mP a b tk (i + 1)
    unfold kH at ih ⊢
    rw [List.map_cons]
    unfold cN
    by_cases h : a = p ∧ b = q
    · obtain ⟨rfl, rfl⟩ := h
      simp [nS, jq]
    · have h' : (a == p && b == q) = false := by
        rw [Bool.and_eq_false_iff]
        by_cases e : a = p
        · right; simpa using fun e2 => h ⟨e, e2⟩
        · left; simpa using e
      have hne : ¬ (a, b) = (p, q) := fun e => h ⟨(Prod.mk.inj e).1, (Prod.mk.inj e).2⟩
      have hne' : ¬ (p, q) = (a, b) := fun e => hne e.symm
      simp only [nS, jq, if_true, Bool.and_true, h', ih, List.mem_cons, hne, false_or]
      have hb : ((p, q) == (a, b)) = false := by simpa using hne'
      simp only [List.idxOf_cons, hb, cond_false, Option.some.injEq]
      by_cases hm : (a, b) ∈ tk
      · simp [hm]; omega
      · simp [hm]
def wZ (tk:List (Int×Int))(x:Int×Int):List (Int×Int):=if x∈tk then tk else tk++[x]
theorem JK {tk:List (Int×Int)}{x y:Int×Int}:y∈wZ tk x↔y∈tk∨y=x:=by
 unfold wZ;split
 ·rename_i h;constructor
  ·exact .inl
  ·rintro(h'|rfl)
   ·exact h'
   ·exact h
 ·simp
def eZ (tk l:List (Int×Int)):List (Int×Int):=l.foldl wZ tk
theorem yS {y:Int×Int}: ∀{l tk:List (Int×Int)},y∈eZ tk l↔y∈tk∨y∈l
 | [],tk=>by simp [eZ]
 |x::l,tk=>by
  show y∈eZ (wZ tk x) l↔_
  rw [yS,JK];simp only [List.mem_cons];constructor
  ·rintro((h|h)|h)
   ·exact .inl h
   ·exact .inr (.inl h)
   ·exact .inr (.inr h)
  ·rintro(h|h|h)
   ·exact .inl (.inl h)
   ·exact .inl (.inr h)
   ·exact .inr h
theorem JL {tk:List (Int×Int)}{a b:Int}(h:(a,b)∈tk):(kH tk).set (tk.idxOf (a,b)) (.agg [.int .i64 a, .int .i64 b], .pure (.bool true))=kH tk:=by
 have hl:tk.idxOf (a,b)<tk.length:=List.idxOf_lt_length_iff.2 h;unfold kH;refine List.ext_getElem (by simp) fun j h1 h2=> ?_;rw [List.getElem_set];split
 ·rename_i e;subst e;simp [List.getElem_idxOf]
 ·rfl
theorem JM {tk:List (Int×Int)}{a b:Int}:kH tk++[(.agg [.int .i64 a, .int .i64 b], .pure (.bool true))]=kH (tk++[(a,b)]):=by simp [kH]
structure MF (F:Fr)(r:aH)(s:ay)(tk:List (Int×Int)):Prop where
 g2:F.get 2=some (cf r s)
 g4:F.get 4=some oT
 gm:F.get 18=some (.map (kH tk))
theorem yt {F:Fr}{r:aH}{s:ay}{tk:List (Int×Int)}(hF:MF F r s tk)(a:ak)(g:List ak)(n i:Nat)(l:List (Int×Int))(hl:l.length≤1000)(Q:GX→bP→Prop): ∀k j:Nat,j+k=l.length→
  ((∀x∈l.drop j,x∉tk)→Q (.exit 2) ⟨[(2, .aD (H.length,2) 0),(4, .aD (H.length,4) 0),(5,aP),(6,aP),(7, .aD (H.length,7) 0),(8, .map (H.length,18)),(10, .aD (H.length+1,10) 0),(11, .pure (.slice (l.map dP))),(19, .pure (.slice (g.map ak.row))),(20, .pure (.int .i64 n)),(21, .pure (.int .i64 i))],[(10,bR a)]::F::H,65⟩)→
  (¬(∀x∈l.drop j,x∉tk)→Q .ret ⟨[(2, .aD (H.length,2) 0),(4, .aD (H.length,4) 0),(5, .pure (.int .i64 i)),(6, .pure (.int .i64 12)),(7, .aD (H.length,7) 0),(8, .map (H.length,18)),(10, .aD (H.length+1,10) 0),(11, .pure (.slice (l.map dP))),(19, .pure (.slice (g.map ak.row))),(20, .pure (.int .i64 n)),(21, .pure (.int .i64 i))],[(10,bR a)]::F.ins 4 (cf r s)::H,65⟩)→
  fL KC au 118 (lp Tryz.f118 1) [2,4,7,8,9,10,11,19,20,21,35,36,37] [2,4,5,6,7,8,10,11,19,20,21] Q
   [(2, .aD (H.length,2) 0),(4, .aD (H.length,4) 0),(7, .aD (H.length,7) 0),(8, .map (H.length,18)),(9, .pure (.int .i64 i)),(10, .aD (H.length+1,10) 0),(11, .pure (.slice (l.map dP))),(19, .pure (.slice (g.map ak.row))),(20, .pure (.int .i64 n)),(21, .pure (.int .i64 i)),(35, .pure (.slice (l.map dP))),(36, .pure (.int .i64 l.length)),(37, .pure (.int .i64 j))] ([(10,bR a)]::F::H) 65:=by
 have g2:=hF.g2;have g4:=hF.g4;have gm:=hF.gm;intro k
 induction k with
 |zero=>
  intro j hj h1 h2;apply aw;conv=>arg 4;whnf
  have hnl: ¬j<l.length:=(by omega);have e:l.drop j=[]:=List.drop_of_length_le (by omega);simp [hnl];simpa [bR]using h1 (by rw [e];simp)
 |succ k ih=>
  intro j hj h1 h2;have hja:j<l.length:=(by omega);have hw:=cu (x:=(j:Int)+1) (by omega) (by omega);have ed:l.drop j=l[j]::l.drop (j+1):=List.drop_eq_getElem_cons hja;have ne: ¬H.length=H.length+1:=(by omega);simp only [cf]at g2;simp only [oT]at g4;apply aw;conv=>arg 4;whnf
  by_cases hm:l[j]∈tk
  ·have hm':(l[j].1,l[j].2)∈tk:=hm;have h2':=h2 (fun h=>h l[j] (by rw [ed];exact List.mem_cons_self ..) hm);simp only [cf,bR]at h2';simp [hja,dP,gm,mP,hm',mapOf,ne,g2,g4,aE,bR];exact h2'
  ·have hm': ¬(l[j].1,l[j].2)∈tk:=hm;have ih':=ih (j+1) (by omega) (fun h=>h1 fun x hx=>by
    rw [ed]at hx;rcases List.mem_cons.1 hx with rfl|hx
    ·exact hm
    ·exact h x hx) (fun h=>h2 fun h'=>h fun x hx=>h' x (by rw [ed];exact List.mem_cons_of_mem _ hx))
   simp [hja,dP,gm,mP,hm',mapOf,ne,hw,bR];simpa [dP,bR]using ih'
theorem Bx {a:ak}(g:List ak)(n i:Nat)(l:List (Int×Int))(hl:l.length≤1000)(Q:GX→bP→Prop): ∀(k j:Nat) (F:Fr) (tk:List (Int×Int)),j+k=l.length→F.ia→F.get 18=some (.map (kH tk))→
  Q (.exit 4) ⟨[(2, .aD (H.length,2) 0),(4, .aD (H.length,4) 0),(7, .aD (H.length,7) 0),(8, .map (H.length,18)),(10, .aD (H.length+1,10) 0),(19, .pure (.slice (g.map ak.row))),(20, .pure (.int .i64 n)),(21, .pure (.int .i64 i))],[(10,bR a)]::F.ins 18 (.map (kH (eZ tk (l.drop j))))::H,65⟩→
  fL KC au 118 (lp Tryz.f118 2) [2,4,7,8,10,19,20,21,47,48,49] [2,4,7,8,10,19,20,21] Q
   [(2, .aD (H.length,2) 0),(4, .aD (H.length,4) 0),(7, .aD (H.length,7) 0),(8, .map (H.length,18)),(10, .aD (H.length+1,10) 0),(19, .pure (.slice (g.map ak.row))),(20, .pure (.int .i64 n)),(21, .pure (.int .i64 i)),(47, .pure (.slice (l.map dP))),(48, .pure (.int .i64 l.length)),(49, .pure (.int .i64 j))] ([(10,bR a)]::F::H) 65:=by
 intro k
 induction k with
 |zero=>
  intro j F tk hj hs gm h1;apply aw;conv=>arg 4;whnf
  have hnl: ¬j<l.length:=(by omega);have e:l.drop j=[]:=List.drop_of_length_le (by omega);rw [e,show eZ tk []=tk from rfl,Fr.ss hs gm]at h1
  simp only [bR]at h1;simp [hnl,bR];exact h1
 |succ k ih=>
  intro j F tk hj hs gm h1;have hja:j<l.length:=(by omega);have hw:=cu (x:=(j:Int)+1) (by omega) (by omega);have ed:l.drop j=l[j]::l.drop (j+1):=List.drop_eq_getElem_cons hja;have ne: ¬H.length=H.length+1:=(by omega);rw [ed,show eZ tk (l[j]::l.drop (j+1))=eZ (wZ tk l[j]) (l.drop (j+1))from rfl]at h1
  have ih':=ih (j+1) (F.ins 18 (.map (kH (wZ tk l[j])))) (wZ tk l[j]) (by omega) (Fr.cW hs) (Fr.bp ..) (by rw [Fr.iB];exact h1);apply aw;conv=>arg 4;whnf
  by_cases hm:l[j]∈tk
  ·have hm':(l[j].1,l[j].2)∈tk:=hm;have e2:wZ tk l[j]=tk:=(by unfold wZ;rw [if_pos hm]);rw [e2]at ih';have e3:=JL hm';simp [hja,dP,gm,mP,hm',ne,hw,bR,muV,lq,e3];simpa [dP,bR]using ih'
  ·have hm': ¬(l[j].1,l[j].2)∈tk:=hm;have e2:wZ tk l[j]=tk++[(l[j].1,l[j].2)]:=(by unfold wZ;rw [if_neg hm]);rw [e2]at ih';simp [hja,dP,gm,mP,hm',ne,hw,bR,muV,lq,JM];simpa [dP,bR]using ih'
end
section
variable {c:Nat} {H:aj}
noncomputable def cC (r:aH)(s:ay):List ak→List (Int×Int)→ay→Nat→ay×Int×Int
 | [],_,nx,_=>(nx,0,0)
 |a::g,tk,nx,i=>if dy r s a.aO.toNat a=false then (s,i,10)else if∀x∈eI s a.aO.toNat a,x∉tk then cC r s g (eZ tk (eI s a.aO.toNat a)) (gM nx a.aO.toNat a) (i+1)else (s,i,12)
theorem pX.after {r:aH}: ∀{p:List ak} {s:ay} {a:ak},jd r s→pX r s (p++[a])→jd r (my s p)∧dy r (my s p) a.aO.toNat a=true
 | [],s,a,hS,h=>⟨hS,(h.ab a (by simp)).2⟩
 |b::p,s,a,hS,h=>by
  obtain⟨h1,h2⟩:=h.tail hS;show jd r (my (gM s b.aO.toNat b) p)∧dy r (my (gM s b.aO.toNat b) p) a.aO.toNat a=true
  exact pX.after h1 h2
def rV (s:ay)(p:List ak)(tk:List (Int×Int)):Prop:= ∀x,x∈tk↔ ∃b∈p,x∈eI s b.aO.toNat b
theorem rV.snoc {s:ay}{p:List ak}{tk:List (Int×Int)}{a:ak}(h:rV s p tk):rV s (p++[a]) (eZ tk (eI s a.aO.toNat a)):=fun x=>by
 rw [yS,h x];simp only [List.mem_append,List.mem_singleton];constructor
 ·rintro(⟨b,hb,hx⟩|hx)
  ·exact⟨b, .inl hb,hx⟩
  ·exact⟨a, .inr rfl,hx⟩
 ·rintro⟨b,hb|rfl,hx⟩
  ·exact .inl ⟨b,hb,hx⟩
  ·exact .inr hx
theorem pX.snoc {r:aH}{s:ay}{p:List ak}{tk:List (Int×Int)}{a:ak}(h:pX r s p)(ht:rV s p tk)(hA:AB r a.aO.toNat a)(pa:dy r s a.aO.toNat a=true)(hd: ∀x∈eI s a.aO.toNat a,x∉tk):pX r s (p++[a]) where
 ab:=fun b hb=>by
  rcases List.mem_append.1 hb with hb|hb
  ·exact h.ab b hb
  ·simp only [List.mem_singleton]at hb;subst hb;exact⟨hA,pa⟩
 ap:=by
  rw [List.pairwise_append];refine⟨h.ap,List.pairwise_singleton ..,fun b hb x hx=> ?_⟩;simp only [List.mem_singleton]at hx;subst hx;exact(qB.2 fun y h1 h2=>hd y h2 ((ht y).2 ⟨b,hb,h1⟩))
def JN (k:Nat):Nat:=136+2*(k-1)
theorem V8 {r:aH}{s:ay}{w:Nat}{a:ak}{n1 n2 n3:Nm}{v1 v2 v3:Nat}(h:me H n1 n2 n3 v1 v2 v3 s)(hb:Ex s w a)(hst: ∀t:Nat,t<s.ae.length→0≤(s.ae.getD t aU).state∧(s.ae.getD t aU).state<16)(hH:0<H.length):Lz H (JN a.kind.toNat) r n1 n2 n3 s w a c:=by
 obtain⟨d1,d2,d3,d4,d5,d6,d7,d8⟩:=Tq (r:=r) (c:=c) h hb hst hH;rcases nf hb.kind with k|k|k|k|k|k|k|k
 ·rw [show JN a.kind.toNat=136 by rw [k];rfl];exact d1 k
 ·rw [show JN a.kind.toNat=138 by rw [k];rfl];exact d2 k
 ·rw [show JN a.kind.toNat=140 by rw [k];rfl];exact d3 k
 ·rw [show JN a.kind.toNat=142 by rw [k];rfl];exact d4 k
 ·rw [show JN a.kind.toNat=144 by rw [k];rfl];exact d5 k
 ·rw [show JN a.kind.toNat=146 by rw [k];rfl];exact d6 k
 ·rw [show JN a.kind.toNat=148 by rw [k];rfl];exact d7 k
 ·rw [show JN a.kind.toNat=150 by rw [k];rfl];exact d8 k
def mz:Nat:=117469202
def nb:Nat:=117485586
def xK:Nat:=117501970
def OO (L:Nat)(r:aH)(s:ay):dM:= .box [.pure (.int .i64 r.wide), .pure (.int .i64 r.deep), .pure (.slice (r.ah.map aQ.row)), .pure (.slice (r.ae.map aV.row)), .pure (.slice (r.seen.map aG)), .pure (.slice (r.aY.map aG)), .pure (.slice (r.ai.map ak.row)), .aW (L,mz) 1 s.ah.length 0 s.ah.length, .aW (L,nb) 2 s.ao.length 0 s.ao.length, .aW (L,xK) 2 s.ae.length 0 s.ae.length]
structure MX (L:Nat)(F:Fr)(r:aH)(s:ay)(tk:List (Int×Int))(nx:ay):Prop extends MF F r s tk where
 ia:F.ia
 g7:F.get 7=some (OO L r nx)
 sc:SF F mz nb xK nx
theorem JO {r:aH}{s:ay}(hS:jd r s)(hW:WB r)(ai:List ak)(hal:ai.length≤1000000)(hA: ∀a∈ai,AB r a.aO.toNat a)(Q:GX→bP→Prop):
  ∀(k i:Nat) (F:Fr) (tk:List (Int×Int)) (nx:ay),i+k=ai.length→MX H.length F r s tk nx→rV s (ai.take i) tk→pX r s (ai.take i)→nx=my s (ai.take i)→
  ((cC r s (ai.drop i) tk nx i).2.2=0→ ∀F',(∃tk',MX H.length F' r s tk' (cC r s (ai.drop i) tk nx i).1)→pX r s ai→(cC r s (ai.drop i) tk nx i).1=my s ai→Q (.exit 0) ⟨[(4, .aD (H.length,4) 0),(5,aP),(6,aP),(7, .aD (H.length,7) 0)],F'::H,65⟩)→
  ((cC r s (ai.drop i) tk nx i).2.2≠0→(cC r s (ai.drop i) tk nx i).1=s→ ∀F',F'.get 4=some (cf r s)→Q .ret ⟨[(4, .aD (H.length,4) 0),(5, .pure (.int .i64 (cC r s (ai.drop i) tk nx i).2.1)),(6, .pure (.int .i64 (cC r s (ai.drop i) tk nx i).2.2)),(7, .aD (H.length,7) 0)],F'::H,65⟩)→
  fL KC au 118 (lp Tryz.f118 0) [2,4,7,8,19,20,21] [4,5,6,7] Q
   [(2, .aD (H.length,2) 0),(4, .aD (H.length,4) 0),(7, .aD (H.length,7) 0),(8, .map (H.length,18)),(19, .pure (.slice (ai.map ak.row))),(20, .pure (.int .i64 ai.length)),(21, .pure (.int .i64 i))] (F::H) 65:=by
 intro k
 induction k with
 |zero=>
  intro i F tk nx hi hF hT hG hnx h1 h2;apply aw;conv=>arg 4;whnf
  have hnl: ¬i<ai.length:=(by omega);have e:ai.drop i=[]:=List.drop_of_length_le (by omega);have et:ai.take i=ai:=List.take_of_length_le (by omega);rw [e]at h1;simp [hnl];exact h1 rfl F ⟨tk,hF⟩ (et▸hG) (by show nx=_;rw [hnx,et])
 |succ k ih=>
  intro i F tk nx hi hF hT hG hnx h1 h2;have hia:i<ai.length:=(by omega);have hw:=cu (x:=(i:Int)+1) (by omega) (by omega);have ed:ai.drop i=ai[i]::ai.drop (i+1):=List.drop_eq_getElem_cons hia;have et:ai.take (i+1)=ai.take i++[ai[i]]:=List.take_succ_eq_append_getElem hia;have ne: ¬H.length=H.length+1:=(by omega);obtain⟨a,ha⟩: ∃a,ai[i]=a:=⟨_,rfl⟩;have hAa:AB r a.aO.toNat a:=hA a (ha▸List.getElem_mem hia);obtain⟨w,hwq⟩: ∃w,a.aO.toNat=w:=⟨_,rfl⟩;rw [ha]at ed et;rw [ed]at h1 h2;unfold cC at h1 h2;have g2:=hF.g2;have g4:=hF.g4;have g7:=hF.g7;have M:=fun c (H:aj) (hH:0<H.length)=>CU (c:=c) (H:=H) hS hW hAa hH;have T:=fun c (H:aj) (hH:0<H.length)=>tM (c:=c) (H:=H) hS hAa hH;have hAk:=hAa.kind;have kk:((a.kind.toNat:Nat):Int)=a.kind:=(by omega);have W:=fun c (H:aj) (hH:0<H.length)=>CQ (c:=c) (H:=H) (k:=a.kind.toNat) (by omega) hH;rw [kk]at W;apply aw;conv=>arg 4;whnf
  cases hp:dy r s a.aO.toNat a with
  |false=>
   rw [hp]at M;simp only [hp,if_true]at h2;have h2':=h2 (by decide) trivial (F.ins 4 (cf r s)) (Fr.bp ..);rw [bz]at M;simp only [cf]at g2 h2';simp only [oT]at g4;simp only [bA]at M;simp [hia,ha,bz,ne,g2,g4,M,aE];exact h2'
  |true=>
   rw [hp]at M;obtain⟨l,hl⟩: ∃l,eI s a.aO.toNat a=l:=⟨_,rfl⟩;have hll:l.length≤1000:=by
    rw [←hl];unfold eI
    repeat' split
    all_goals simp
   rw [hl]at T h1 h2;simp only [hp,Bool.true_eq_false,if_false]at h1 h2;have L1:=fun Q=>yt (H:=H) hF.toMF a ai ai.length i l hll Q l.length 0 (by omega);simp only [List.drop_zero,bR]at L1;have hF1s:(F.ins 18 (.map (kH (eZ tk l)))).ia:=Fr.cW hF.ia;rw [bz]at M T;simp only [cf]at g2;simp only [oT]at g4;simp only [bA]at M T;simp [hia,ha,bz,ne,g2,g4,M,T];refine L1 _ (fun hfr=> ?_) (fun hfr=> ?_)
   ·clear L1;rw [if_pos hfr]at h1 h2;have hGs:pX r s (ai.take (i+1)):=(by rw [et];exact hG.snoc hT hAa hp (by rw [hl];exact hfr));have hTs:rV s (ai.take (i+1)) (eZ tk l):=(by rw [et,←hl];exact hT.snoc);have aft:=(pX.after hS (et▸hGs):jd r (my s (ai.take i))∧_);rw [←hnx]at aft;have hD:=mc aft.1 hAa aft.2;have L2:=fun Q=>Bx (H:=H) (a:=a) ai ai.length i l hll Q l.length 0 F tk (by omega) hF.ia hF.gm;simp only [List.drop_zero,bR]at L2;simp [ne];refine L2 _ ?_;clear L2;have q12:mz≠nb:=(by decide);have q13:mz≠xK:=(by decide);have q23:nb≠xK:=(by decide);have e1: ∀k,k≠18→(F.ins 18 (.map (kH (eZ tk l)))).get k=F.get k:=fun k hk=>Fr.ax _ hk _;have sc1:SF (F.ins 18 (.map (kH (eZ tk l)))) mz nb xK nx:=hF.sc.other (e1 _ (by decide)) (e1 _ (by decide)) (e1 _ (by decide));have g71:=(e1 7 (by decide)).trans g7;have gm1:(F.ins 18 (.map (kH (eZ tk l)))).get 18=some (.map (kH (eZ tk l))):=Fr.bp ..;have g21:=(e1 2 (by decide)).trans hF.g2;have g41:=(e1 4 (by decide)).trans hF.g4;generalize F.ins 18 (.map (kH (eZ tk l)))=F1 at hF1s sc1 g71 gm1 g21 g41⊢;obtain⟨u1,u2,u3,SS⟩:=sc1.self (f0:=[(10,bR a)]) (H:=H) hF1s q12 q13 q23;obtain⟨v1,v2,v3,b1,b2,b3,ed'⟩:=V8 (r:=r) (c:=62) SS hD aft.1.st (by simp);have LD:=iR (s:=nx) (w:=a.aO.toNat) hAk;obtain⟨F2,hF2⟩: ∃F2,((F1.ins mz (.arr 1 ((gM nx a.aO.toNat a).ah.map aG) v1 false)).ins nb (.arr 2 ((gM nx a.aO.toNat a).ao.map aF.row) v2 false)).ins xK (.arr 2 ((gM nx a.aO.toNat a).ae.map br.row) v3 false)=F2:=⟨_,rfl⟩;have hsc:cr ([(10,bR a)]::F1::H) (H.length,mz) (H.length,nb) (H.length,xK) v1 v2 v3 (gM nx a.aO.toNat a)=[(10,bR a)]::F2::H:=by
     rw [←hF2];simp [cr,ne]
    rw [hsc]at ed';have o2: ∀k,k≠mz→k≠nb→k≠xK→F2.get k=F1.get k:=fun k h1 h2 h3=>(by rw [←hF2,Fr.ax _ h3,Fr.ax _ h2,Fr.ax _ h1]);have enx:OO H.length r (gM nx a.aO.toNat a)=OO H.length r nx:=by simp only [OO,LD]
    have MX2:MX H.length F2 r s (eZ tk l) (gM nx a.aO.toNat a):={
     g2:=(o2 2 (by decide) (by decide) (by decide)).trans g21
     g4:=(o2 4 (by decide) (by decide) (by decide)).trans g41
     gm:=(o2 18 (by decide) (by decide) (by decide)).trans gm1
     ia:=by rw [←hF2];exact Fr.cW (Fr.cW (Fr.cW hF1s))
     g7:=by rw [enx];exact(o2 7 (by decide) (by decide) (by decide)).trans g71
     sc:=⟨⟨v1,by omega,by rw [←hF2,Fr.ax _ q13,Fr.ax _ q12,Fr.bp]⟩,⟨v2,by omega,by rw [←hF2,Fr.ax _ q23,Fr.bp]⟩,⟨v3,by omega,by rw [←hF2,Fr.bp]⟩⟩}
    have ih':=ih (i+1) F2 (eZ tk l) (gM nx a.aO.toNat a) (by omega) MX2 hTs hGs (by rw [hnx,et,iY];rfl) h1 h2;rw [bz]at ed';simp only [OO]at g71;simp only [uP,bR,JN]at ed';simp [ne,g71,W,ed',hw,JN];simpa using ih'
   ·clear L1;rw [if_neg hfr]at h2;have h2':=h2 (show (12:Int)≠0 by decide) rfl (F.ins 4 (cf r s)) (Fr.bp ..)
    simp only [cf]at h2'⊢;simp;exact h2'
end
section
variable {c:Nat} {H:aj}
theorem EK {r:aH}{s:ay}{g:List ak}(hS:jd r s)(hG:pX r s g):(my s g).ah.length=s.ah.length∧(my s g).ao.length=s.ao.length∧(my s g).ae.length=s.ae.length:=by
 have a:=hG.snd hS;exact⟨a.pl.trans hS.pl.symm,a.hl.trans hS.hl.symm,a.tl.trans hS.tl.symm⟩
theorem zM {r:aH}{s:ay}: ∀{g:List ak} {tk:List (Int×Int)} {nx:ay} {i:Nat},(cC r s g tk nx i).2.2=0→(cC r s g tk nx i).2.1=0
 | [],_,_,_,_=>rfl
 |a::g,tk,nx,i,h=>by
  unfold cC at h⊢;split at h
  ·simp at h
  ·rename_i h1;split at h
   ·rename_i h2;rw [if_neg h1,if_pos h2];exact zM h
   ·simp at h
theorem Ds {r:aH}{s:ay}(hS:jd r s)(hW:WB r)(hFu:Full s)(ht0:s.ae≠[])(ai:List ak)(hal:ai.length≤1000000)(hA: ∀a∈ai,AB r a.aO.toNat a)(hH:0<H.length):
  aI KC (aC KC) 118 [.pure (.agg (bA r s)), .pure (.slice (ai.map ak.row))] c H=
   some (.pure (.tuple [.agg (bA r (cC r s ai [] s 0).1), .int .i64 (cC r s ai [] s 0).2.1, .int .i64 (cC r s ai [] s 0).2.2]),H):=by
 refine aN (bj KC au Tryz.func118 rfl rfl EJ rfl rfl rfl (by simp) hH ?_);have k1:aq 17 28679=mz:=(by decide);have k2:aq 17 28683=nb:=(by decide);have k3:aq 17 28687=xK:=(by decide);have C:=Hj (c:=17) (H:=[(2,cf r s),(4,oT)]::H) r hFu ht0 (by simp) (by simp [k1,mz]) (by simp [k2,nb]) (by simp [k3,xK]);simp only [List.length_cons,Nat.add_sub_cancel,k1,k2,k3]at C;obtain⟨F0,hF0⟩: ∃F0:Fr,[(2,cf r s),(4,oT),(mz, .arr 1 (s.ah.map aG) 0 false),(nb, .arr 2 (s.ao.map aF.row) 0 false),(xK, .arr 2 (s.ae.map br.row) 0 false)]=F0:=⟨_,rfl⟩;have hC:cr ([(2,cf r s),(4,oT)]::H) (H.length,mz) (H.length,nb) (H.length,xK) 0 0 0 s=F0::H:=by
  rw [←hF0];simp [cr,mz,nb,xK]
 rw [hC]at C;obtain⟨F1,hF1⟩: ∃F1,(F0.ins 7 (OO H.length r s)).ins 18 (.map [])=F1:=⟨_,rfl⟩;have f07:F0.get 7=none:=(by rw [←hF0];simp [mz,nb,xK]);have f018:F0.get 18=none:=(by rw [←hF0];simp [mz,nb,xK]);have o1: ∀k,k≠7→k≠18→F1.get k=F0.get k:=fun k h1 h2=>by rw [←hF1,Fr.ax _ h2,Fr.ax _ h1]
 have MX1:MX H.length F1 r s [] s:={
  g2:=(o1 2 (by decide) (by decide)).trans (by rw [←hF0];simp)
  g4:=(o1 4 (by decide) (by decide)).trans (by rw [←hF0];simp)
  gm:=by rw [←hF1,Fr.bp];rfl
  ia:=by
   rw [←hF1];refine Fr.cW (Fr.cW ?_);rw [←hF0];simp [Fr.ia,mz,nb,xK]
  g7:=by rw [←hF1,Fr.ax _ (by decide),Fr.bp]
  sc:=⟨⟨0,Nat.zero_le _,(o1 _ (by decide) (by decide)).trans (by rw [←hF0];simp [mz,nb,xK])⟩,⟨0,Nat.zero_le _,(o1 _ (by decide) (by decide)).trans (by rw [←hF0];simp [mz,nb,xK])⟩,⟨0,Nat.zero_le _,(o1 _ (by decide) (by decide)).trans (by rw [←hF0];simp [mz,nb,xK])⟩⟩}
 have L1:=fun Q=>JO (H:=H) hS hW ai hal hA Q ai.length 0 F1 [] s (by omega) MX1 (fun x=>by simp) ⟨fun a ha=>by simp at ha,by simp⟩ rfl;simp only [List.drop_zero]at L1;simp only [bA,uP,cf,oT]at C;have f018':(F0.ins 7 (OO H.length r s)).get 18=none:=(Fr.ax _ (by decide) _).trans f018;simp only [OO]at hF1 f018';unfold bA;simp [C,f07,f018',Fr.bp,Fr.iB,hF1];refine L1 _ (fun he F' hF' hG hm=> ?_) (fun he hm F' h4=> ?_)
 ·obtain⟨tk',hF'⟩:=hF';have g7:=hF'.g7;have g4:=hF'.g4;have LL:=EK hS hG;rw [hm]at hF' g7;obtain⟨v1,a1,b1⟩:=hF'.sc.h1;obtain⟨v2,a2,b2⟩:=hF'.sc.h2;obtain⟨v3,a3,b3⟩:=hF'.sc.h3;have o4: ∀(x:dM) (k:Nat),k≠4→(F'.ins 4 x).get k=F'.get k:=fun x k hk=>Fr.ax _ hk _;have c1:=fun x=>(o4 x mz (by decide)).trans b1;have c2:=fun x=>(o4 x nb (by decide)).trans b2;have c3:=fun x=>(o4 x xK (by decide)).trans b3;have hat:=zM he;rw [hm];simp only [OO]at g7;simp only [oT]at g4;simp [g7,g4,aE,Fr.bp]
  have fin: ∀x,fX KC 118 c (.tuple [.agg [.pure (.int .i64 r.wide), .pure (.int .i64 r.deep), .pure (.slice (r.ah.map aQ.row)), .pure (.slice (r.ae.map aV.row)), .pure (.slice (r.seen.map aG)), .pure (.slice (r.aY.map aG)), .pure (.slice (r.ai.map ak.row)), .aW (H.length,mz) 1 (my s ai).ah.length 0 (my s ai).ah.length, .aW (H.length,nb) 2 (my s ai).ao.length 0 (my s ai).ao.length, .aW (H.length,xK) 2 (my s ai).ae.length 0 (my s ai).ae.length], .pure (.int .i64 0), .pure (.int .i64 0)]) (F'.ins 4 x::H)=
    some (.pure (.tuple [.agg (bA r (my s ai)), .int .i64 0, .int .i64 0]),H):=fun x=>by
   have d1:=c1 x;have d2:=c2 x;have d3:=c3 x;generalize F'.ins 4 x=F5 at d1 d2 d3;have hnl: ¬H.length≤H.length-1:=(by omega);rw [aa (by simp)];simp [hnl,d1,d2,d3,a1,a2,a3,bA];exact⟨List.take_of_length_le (by simp),List.take_of_length_le (by simp),List.take_of_length_le (by simp)⟩
  rw [fin,gK,hat,he];simp only [bA]
 ·rw [hm];simp only [cf]at h4;simp [h4,aa]
end
end Go.Gh
