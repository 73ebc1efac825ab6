/- Texts joined: the evaluator over ghost values, its soundness, the walks. Spaces struck and names made short by a program, for the size. -/
import Derived.Test.YtkcmcjohoockcaaGreatGc5h
namespace Go.Gh
open Go.Proofs
set_option linter.unusedVariables false
set_option linter.unusedSimpArgs false
set_option linter.unnecessarySimpa false
set_option maxRecDepth 100000
set_option maxHeartbeats 8000000
section
variable {c:Nat} {H:aj}
theorem P9: ∀q:Fin 16,∀b∈[(1:Int),2,4],Be .i64 ((q.1:Nat):Int) b=if ((IntKind.i64.wrap (((q.1:Nat):Int).tdiv b)).tmod 2==1)then ((q.1:Nat):Int)else IntKind.i64.wrap (((q.1:Nat):Int)+b):=by decide+kernel
theorem H9: ∀q:Fin 16,∀b∈[(1:Int),2,4],mf ((q.1:Nat):Int) b=if ((IntKind.i64.wrap (((q.1:Nat):Int).tdiv b)).tmod 2==1)then IntKind.i64.wrap (((q.1:Nat):Int)-b)else ((q.1:Nat):Int):=by decide+kernel
theorem Yg: ∀q:Fin 16,mf ((q.1:Nat):Int) 3=mf (mf ((q.1:Nat):Int) 2) 1∧0≤mf ((q.1:Nat):Int) 2∧mf ((q.1:Nat):Int) 2<16:=by decide+kernel
section
variable {ts:List bm} {t:Nat} {b:Int}
theorem AI (ht:t<ts.length)(hs:0≤(ts.getD t aV).state∧(ts.getD t aV).state<16)(hb:b=1∨b=2∨b=4):
  dJ ts t b true=ts.set t ⟨(ts.getD t aV).cell,Be .i64 (ts.getD t aV).state b⟩:=by
 obtain⟨q,hq⟩:=Int.eq_ofNat_of_zero_le hs.1;have B:=P9 ⟨q,by omega⟩ b (by simp;exact hb);simp only [←hq]at B;have h0:decide ((0:Int)≤t)=true:=(by simp);rw [jC,iX,h0,Bool.true_and];simp only [Int.toNat_natCast];rw [B];by_cases h:((IntKind.i64.wrap ((ts.getD t aV).state.tdiv b)).tmod 2==1)=true
 ·rw [if_pos h,if_pos h];exact(wE ts t aV).symm
 ·rw [if_neg h,if_neg h];simp
theorem xx (ht:t<ts.length)(hs:0≤(ts.getD t aV).state∧(ts.getD t aV).state<16)(hb:b=1∨b=2∨b=4):
  dJ ts t b false=ts.set t ⟨(ts.getD t aV).cell,mf (ts.getD t aV).state b⟩:=by
 obtain⟨q,hq⟩:=Int.eq_ofNat_of_zero_le hs.1;have B:=H9 ⟨q,by omega⟩ b (by simp;exact hb);simp only [←hq]at B;have h0:decide ((0:Int)≤t)=true:=(by simp);rw [jC,iX,h0,Bool.true_and];simp only [Int.toNat_natCast];rw [B];split
 ·rename_i h;have h': ¬((IntKind.i64.wrap ((ts.getD t aV).state.tdiv b)).tmod 2==1)=true:=(by rw [h];simp);rw [if_neg h'];exact(wE ts t aV).symm
 ·rename_i h;have h':((IntKind.i64.wrap ((ts.getD t aV).state.tdiv b)).tmod 2==1)=true:=(by simpa using h);rw [if_pos h'];rfl
theorem Ia (ht:t<ts.length)(hs:0≤(ts.getD t aV).state∧(ts.getD t aV).state<16):
  dJ (dJ ts t 2 false) t 1 false=ts.set t ⟨(ts.getD t aV).cell,mf (ts.getD t aV).state 3⟩:=by
 obtain⟨q,hq⟩:=Int.eq_ofNat_of_zero_le hs.1;obtain⟨b1,b2,b3⟩:=Yg ⟨q,by omega⟩;simp only [←hq]at b1 b2 b3;rw [xx ht hs (.inr (.inl rfl))];have e:(ts.set t ⟨(ts.getD t aV).cell,mf (ts.getD t aV).state 2⟩).getD t aV=⟨(ts.getD t aV).cell,mf (ts.getD t aV).state 2⟩:=(by rw [wG ht,if_pos rfl]);rw [xx (by simpa using ht) (by rw [e];exact⟨b2,b3⟩) (.inl rfl),e,b1];simp
end
def vz (r:aC)(n1 n2 n3:Nm)(s:az):GV:= .agg [.pure (.int .i64 r.wide), .pure (.int .i64 r.deep), .pure (.slice (r.ah.map aS.row)), .pure (.slice (r.aa.map aY.row)), .pure (.slice (r.seen.map aE)), .pure (.slice (r.aP.map aE)), .pure (.slice (r.ai.map ak.row)), .aZ n1 1 s.ah.length 0 s.ah.length, .aZ n2 2 s.aq.length 0 s.aq.length, .aZ n3 2 s.aa.length 0 s.aa.length]
section
variable {r:aC} {s:az} {w:Nat} {a:ak} {n1 n2 n3:Nm} {v1 v2 v3:Nat}
theorem EI (h:mP H n1 n2 n3 v1 v2 v3 s):mC H (vz r n1 n2 n3 s) (.agg (aU r s)):=by
 unfold vz aU;rw [qj];simp only [mT,qi,mR,and_true,true_and];exact⟨⟨_,v1,false,h.g1,h.e1,by simp,rfl,rfl,rfl⟩,⟨_,v2,false,h.g2,h.e2,by simp,rfl,rfl,rfl⟩,⟨_,v3,false,h.g3,h.e3,by simp,rfl,rfl,rfl⟩⟩
theorem Kz (h:mP H n1 n2 n3 v1 v2 v3 s)(hw:w<s.aq.length)(h1:a.aQ=w)(h2:a.hand=0∨a.hand=1)(hH:0<H.length):
  aL KC (aG KC) 154 [vz r n1 n2 n3 s, .pure (.agg a.row)] c H=some (.pure (.int .i64 (aX s.aq w a.hand)),H):=
 gQ KC rfl rfl (Pv (EI h) (show mC H (.pure (.agg a.row)) (.agg a.row)from rfl)) rfl hH (fun H hH=>BX (c:=c) hw h1 h2 hH) rfl
theorem xy (h:mP H n1 n2 n3 v1 v2 v3 s)(hw:w<s.aq.length)(h1:a.aQ=w)(h2:a.hand=0∨a.hand=1)(hH:0<H.length):
  aL KC (aG KC) 153 [vz r n1 n2 n3 s, .pure (.agg a.row)] c H=some (.pure (.int .i64 (aX s.aq w (1-a.hand))),H):=
 gQ KC rfl rfl (Pv (EI h) (show mC H (.pure (.agg a.row)) (.agg a.row)from rfl)) rfl hH (fun H hH=>wH (c:=c) hw h1 h2 hH) rfl
theorem KA (h:mP H n1 n2 n3 v1 v2 v3 s){o:Nat}(ho:o<s.aq.length)(hH:0<H.length):
  aL KC (aG KC) 156 [vz r n1 n2 n3 s, .pure (.int .i64 o)] c H=some (.pure (.int .i64 (eC s.aq o)),H):=
 gQ KC rfl rfl (Pv (EI h) (show mC H (.pure (.int .i64 o)) (.int .i64 o)from rfl)) rfl hH (fun H hH=>B7 (c:=c) ho hH) rfl
def Pz (H:aj)(f:Nat)(r:aC)(n1 n2 n3:Nm)(s:az)(w:Nat)(a:ak)(c:Nat):Prop:=
 ∃v1' v2' v3',v1'≤s.ah.length∧v2'≤s.aq.length∧v3'≤s.aa.length∧
  aL KC (aG KC) f [vz r n1 n2 n3 s, .pure (.agg a.row)] c H=some (.pure (.tuple []),cn H n1 n2 n3 v1' v2' v3' (cX s w a))
theorem X9 (h:lI H n1 n2 n3 v1 v2 v3 s)(hb:DS s w a)(hst: ∀t:Nat,t<s.aa.length→0≤(s.aa.getD t aV).state∧(s.aa.getD t aV).state<16)(hH:0<H.length):
  (a.kind=1→Pz H 136 r n1 n2 n3 s w a c)∧(a.kind=2→Pz H 138 r n1 n2 n3 s w a c)∧(a.kind=3→Pz H 140 r n1 n2 n3 s w a c)∧(a.kind=4→Pz H 142 r n1 n2 n3 s w a c)∧
  (a.kind=5→Pz H 144 r n1 n2 n3 s w a c)∧(a.kind=6→Pz H 146 r n1 n2 n3 s w a c)∧(a.kind=7→Pz H 148 r n1 n2 n3 s w a c)∧(a.kind=8→Pz H 150 r n1 n2 n3 s w a c):=by
 have l1:=aj.bP h.g1;have l2:=aj.bP h.g2;have l3:=aj.bP h.g3;have d1: ¬n1.1=H.length:=(by omega);have d2: ¬n2.1=H.length:=(by omega);have d3: ¬n3.1=H.length:=(by omega);have hp:=hb.hp;have hh:=hb.hh;have hwho:=hb.aQ;have hg:s.aq.getD w bH=s.aq[w]:=bf hh;have hgp:s.ah.getD w 0=s.ah[w]:=bf hp;have G23: ∀b,(H.set n2 b).get n3=H.get n3:=fun b=>aj.aK b h.jZ.symm;have G32: ∀b,(H.set n3 b).get n2=H.get n2:=fun b=>aj.aK b h.jZ;have C32: ∀x y,(H.set n3 x).set n2 y=(H.set n2 y).set n3 x:=fun x y=>aj.set_comm h.jZ.symm;have G31: ∀b,(H.set n3 b).get n1=H.get n1:=fun b=>aj.aK b h.kL;have S2: ∀x,(H.set n1 x).set n2 (.arr 2 (s.aq.map aF.row) v2 false)=H.set n1 x:=fun x=>(by rw [aj.set_comm h.jP,h.s2]);have S3: ∀x,(H.set n1 x).set n3 (.arr 2 (s.aa.map bm.row) v3 false)=H.set n1 x:=fun x=>(by rw [aj.set_comm h.kL,h.s3]);have S4: ∀x,(H.set n2 x).set n3 (.arr 2 (s.aa.map bm.row) v3 false)=H.set n2 x:=fun x=>(by rw [aj.set_comm h.jZ,h.s3]);have s1:=h.s1;have s2:=h.s2;have s3:=h.s3;have G22: ∀b,(H.set n2 b).get n2=some b:=fun b=>aj.gf l2;have G33: ∀b,(H.set n3 b).get n3=some b:=fun b=>aj.gf l3;have E:=fun c (f:Fr)=>Kz (r:=r) (c:=c) (a:=a) (mP.up (fr:=f) h.tomP) hh hwho hb.hand (by simp);have G:=fun c (f:Fr)=>xy (r:=r) (c:=c) (a:=a) (mP.up (fr:=f) h.tomP) hh hwho hb.hand (by simp);have heq:aX s.aq w 0=s.aq[w].l∧aX s.aq w 1=s.aq[w].r:=(by unfold aX;rw [hg];simp);refine⟨fun k=> ?_,fun k=> ?_,fun k=> ?_,fun k=> ?_,fun k=> ?_,fun k=> ?_,fun k=> ?_,fun k=> ?_⟩
 ·have hd:=kq (s:=s) (w:=w) k;refine⟨s.ah.length,v2,v3,Nat.le_refl _,h.e2,h.e3,aM (br KC au Tryz.func136 rfl rfl Ff rfl rfl rfl (by simp) hH ?_)⟩;rw [bp];unfold vz;simp [d1,d2,d3,h.g1,h.g2,h.g3,h.e1,h.e2,h.e3,hp,hh,hwho,aE,aI,ae,hd,cn,S2,S3]
 ·obtain⟨t,et,ht⟩:=hb.take k;have hd:=pq (s:=s) (w:=w) k;have hgt:=bf (d:=aV) ht;rw [et,Int.toNat_natCast,hgt]at hd;simp only [bA,hg]at hd;refine⟨v1,s.aq.length,s.aa.length,h.e1,Nat.le_refl _,Nat.le_refl _,aM (br KC au Tryz.func138 rfl rfl Om rfl rfl rfl (by simp) hH ?_)⟩;rw [bp];unfold vz;rcases hb.hand with z|z
  ·rw [z]at hd;simp at hd;simp [d1,d2,d3,h.g1,h.g2,h.g3,h.e1,h.e2,h.e3,hp,hh,hwho,et,z,ht,aF.row,bm.row,aI,ae,hd,cn,G23,s1]
  ·rw [z]at hd;simp at hd;simp [d1,d2,d3,h.g1,h.g2,h.g3,h.e1,h.e2,h.e3,hp,hh,hwho,et,z,ht,aF.row,bm.row,aI,ae,hd,cn,G23,s1]
 ·obtain⟨t,et,ht⟩:=hb.held (by omega);rw [cE]at et;have hd:=mV (s:=s) (w:=w) k;have hgt:=bf (d:=aV) ht;rw [et,Int.toNat_natCast,hgt,hgp]at hd;simp only [bA,hg]at hd;refine⟨v1,s.aq.length,s.aa.length,h.e1,Nat.le_refl _,Nat.le_refl _,aM (br KC au Tryz.func140 rfl rfl Oo rfl rfl rfl (by simp) hH ?_)⟩;rw [et,bp]at E;rw [bp];unfold vz at E⊢;simp [hwho]at E;rcases hb.hand with z|z
  ·rw [z]at hd E;simp at hd;simp [d1,d2,d3,h.g1,h.g2,h.g3,h.e1,h.e2,h.e3,hp,hh,hwho,E,z,ht,aE,aF.row,bm.row,aI,ae,hd,cn,G32,C32,s1]
  ·rw [z]at hd E;simp at hd;simp [d1,d2,d3,h.g1,h.g2,h.g3,h.e1,h.e2,h.e3,hp,hh,hwho,E,z,ht,aE,aF.row,bm.row,aI,ae,hd,cn,G32,C32,s1]
 ·obtain⟨t,et,ht⟩:=hb.held (by omega);rw [cE]at et;obtain⟨o,eo,ho,how,htk⟩:=hb.sA k;have hgo:=bf (d:=bH) ho;have hsw: ∀x,(s.aq.set o x).getD w bH=s.aq[w]:=fun x=>(by rw [wG hh,if_neg how,hg]);have hd:=pt (s:=s) (w:=w) k;rw [et,eo,Int.toNat_natCast]at hd;have T:=fun c (f:Fr)=>KA (r:=r) (c:=c) (mP.up (fr:=f) h.tomP) ho (by simp);rw [et,bp]at E;unfold vz at E T;simp [hwho,eo]at E;simp only [bA,hgo,hsw]at hd;rcases htk with y|y
  ·rw [y]at hd T;refine⟨v1,s.aq.length,v3,h.e1,Nat.le_refl _,h.e3,aM (br KC au Tryz.func142 rfl rfl Fg rfl rfl rfl (by simp) hH ?_)⟩;rw [bp];unfold vz;rcases hb.hand with z|z
   ·rw [z]at hd E;simp at hd;simp [d1,d2,d3,h.g1,h.g2,h.g3,h.e1,h.e2,h.e3,hp,hh,hwho,eo,E,T,z,ht,ho,aE,aF.row,bm.row,aI,ae,hd,cn,G22,G23,s1,S4,how,List.getElem_set_ne]
   ·rw [z]at hd E;simp at hd;simp [d1,d2,d3,h.g1,h.g2,h.g3,h.e1,h.e2,h.e3,hp,hh,hwho,eo,E,T,z,ht,ho,aE,aF.row,bm.row,aI,ae,hd,cn,G22,G23,s1,S4,how,List.getElem_set_ne]
  ·rw [y]at hd T;refine⟨v1,s.aq.length,v3,h.e1,Nat.le_refl _,h.e3,aM (br KC au Tryz.func142 rfl rfl Fg rfl rfl rfl (by simp) hH ?_)⟩;rw [bp];unfold vz;rcases hb.hand with z|z
   ·rw [z]at hd E;simp at hd;simp [d1,d2,d3,h.g1,h.g2,h.g3,h.e1,h.e2,h.e3,hp,hh,hwho,eo,E,T,z,ht,ho,aE,aF.row,bm.row,aI,ae,hd,cn,G22,G23,s1,S4,how,List.getElem_set_ne]
   ·rw [z]at hd E;simp at hd;simp [d1,d2,d3,h.g1,h.g2,h.g3,h.e1,h.e2,h.e3,hp,hh,hwho,eo,E,T,z,ht,ho,aE,aF.row,bm.row,aI,ae,hd,cn,G22,G23,s1,S4,how,List.getElem_set_ne]
 ·obtain⟨u,eu,hu⟩:=hb.yz (.inl k);rw [cE]at eu;have hd:=py (s:=s) (w:=w) k;have hgt:=bf (d:=aV) hu;rw [eu,Int.toNat_natCast,AI hu (hst u hu) (.inl rfl),hgt]at hd;rw [eu,bp]at G;unfold vz at G;refine⟨v1,v2,s.aa.length,h.e1,h.e2,Nat.le_refl _,aM (br KC au Tryz.func144 rfl rfl Ou rfl rfl rfl (by simp) hH ?_)⟩;rw [bp];unfold vz;simp [d1,d2,d3,h.g1,h.g2,h.g3,h.e1,h.e2,h.e3,hp,hh,G,hu,bm.row,aI,ae,hd,cn,s1,s2]
 ·obtain⟨t,et,ht⟩:=hb.held (by omega);rw [cE]at et;obtain⟨u,eu,hu⟩:=hb.yz (.inr k);rw [cE]at eu;have hd:=pz (s:=s) (w:=w) k;have hgt:=bf (d:=aV) ht;have hst2:=hst;have S:=ru (t:=t) (bit:=2) (on:=false) hst ht (.inr (.inl rfl));have S':=ru (ts:=dJ s.aa t 2 false) (t:=t) (bit:=1) (on:=false) (fun j hj=>(S.2 j (by rw [S.1]at hj;exact hj)).2) (by rw [S.1];exact ht) (.inl rfl);rw [et,eu,Int.toNat_natCast,Int.toNat_natCast,AI (by rw [S'.1,S.1];exact hu) (S'.2 u (by rw [S.1];exact hu)).2 (.inr (.inl rfl)),Ia ht (hst t ht),hgt]at hd;rw [et,bp]at E;unfold vz at E;obtain⟨X,hX⟩: ∃X,s.aa.set t ⟨s.aa[t].cell,mf s.aa[t].state 3⟩=X:=⟨_,rfl⟩;have hXl:X.length=s.aa.length:=(by rw [←hX];simp);have huX:u<X.length:=(by omega);rw [hX,bf huX]at hd;have hXr:(s.aa.map bm.row).set t [.int .i64 s.aa[t].cell, .int .i64 (mf s.aa[t].state 3)]=X.map bm.row:=by
   rw [←hX,List.map_set];rfl
  have SX:mP (H.set n3 (.arr 2 (X.map bm.row) s.aa.length false)) n1 n2 n3 v1 v2 s.aa.length {s with aa:=X}:=
   ⟨h.jP,h.kL,h.jZ,(G31 _).trans h.g1,(G32 _).trans h.g2,G33 _,h.e1,h.e2,by show s.aa.length≤X.length;omega⟩
  have G':=fun c (f:Fr)=>xy (r:=r) (c:=c) (a:=a) (mP.up (fr:=f) SX) hh hwho hb.hand (by simp);simp only [eu]at G';rw [bp]at G';unfold vz at G';simp only [hXl]at G';refine⟨v1,v2,s.aa.length,h.e1,h.e2,Nat.le_refl _,aM (br KC au Tryz.func146 rfl rfl Ow rfl rfl rfl (by simp) hH ?_)⟩;rw [bp];unfold vz;simp [d1,d2,d3,h.g1,h.g2,h.g3,h.e1,h.e2,h.e3,hp,hh,E,ht,hXr,G',G33,hu,huX,hXl,bm.row,aI,ae,hd,cn,s1,s2]
 ·obtain⟨t,et,ht⟩:=hb.held (by omega);rw [cE]at et;have hd:=pA (s:=s) (w:=w) k;have hgt:=bf (d:=aV) ht;rw [et,Int.toNat_natCast,AI ht (hst t ht) (.inr (.inr rfl)),hgt]at hd;rw [et,bp]at E;unfold vz at E;refine⟨v1,v2,s.aa.length,h.e1,h.e2,Nat.le_refl _,aM (br KC au Tryz.func148 rfl rfl Oy rfl rfl rfl (by simp) hH ?_)⟩;rw [bp];unfold vz;simp [d1,d2,d3,h.g1,h.g2,h.g3,h.e1,h.e2,h.e3,hp,hh,E,ht,bm.row,aI,ae,hd,cn,s1,s2]
 ·obtain⟨t,et,ht⟩:=hb.held (by omega);rw [cE]at et;have hd:=pB (s:=s) (w:=w) k;have hgt:=bf (d:=aV) ht;rw [et,Int.toNat_natCast,xx ht (hst t ht) (.inr (.inr rfl)),hgt]at hd;rw [et,bp]at E;unfold vz at E;refine⟨v1,v2,s.aa.length,h.e1,h.e2,Nat.le_refl _,aM (br KC au Tryz.func150 rfl rfl OA rfl rfl rfl (by simp) hH ?_)⟩;rw [bp];unfold vz;simp [d1,d2,d3,h.g1,h.g2,h.g3,h.e1,h.e2,h.e3,hp,hh,E,ht,bm.row,aI,ae,hd,cn,s1,s2]
end
end
def Fr.gU (f:Fr):Prop:=(f.map (·.1)).Pairwise (· < ·)
theorem Fr.qp {q : Nat} {b : dF} {x : Nat × dF} : ∀ {f : Fr}, f.gU → x ∈ f.ins q b → x = (q, b) ∨ (x ∈ f ∧ x.1 ≠ q)
  | [], _, h => by simp at h; exact .inl h
  | (k, c) :: r, hs, h => by
    unfold Fr.gU at hs
    rw [List.map_cons, List.pairwise_cons] at hs
    simp only [Fr.sk] at h
    have hlt : ∀ y ∈ r, k < y.1 := fun y hy => hs.1 y.1 (List.mem_map_of_mem hy)
    split at h
    · rename_i e; subst e
      rcases List.mem_cons.1 h with h | h
      · exact .inl h
      · exact .inr ⟨List.mem_cons_of_mem _ h, fun e => by have := hlt x h; omega⟩
    · rename_i ne
      split at h
      · rename_i lt
        rcases List.mem_cons.1 h with h | h
        · exact .inl h
        · refine .inr ⟨h, fun e => ?_⟩
          rcases List.mem_cons.1 h with h | h
          · subst h; exact ne e.symm
          · have := hlt x h; omega
      · rcases List.mem_cons.1 h with h | h
        · subst h; exact .inr ⟨List.mem_cons_self .., fun e => ne e.symm⟩
        · rcases Fr.qp (f := r) hs.2 h with h | h
          · exact .inl h
          · exact .inr ⟨List.mem_cons_of_mem _ h.1, h.2⟩
theorem Fr.CG {q : Nat} {b : dF} : ∀ {f : Fr} {k : Nat}, k ∈ (f.ins q b).map (·.1) → k = q ∨ k ∈ f.map (·.1)
  | [], k, h => by simp at h; exact .inl h
  | (k0, c) :: r, k, h => by
    simp only [Fr.sk] at h
    split at h
    · rename_i e; subst e
      simp only [List.map_cons, List.mem_cons] at h ⊢
      exact .inr h
    · split at h
      · simp only [List.map_cons, List.mem_cons] at h ⊢
        exact h
      · simp only [List.map_cons, List.mem_cons] at h ⊢
        rcases h with h | h
        · exact .inr (.inl h)
        · rcases Fr.CG h with h | h
          · exact .inl h
          · exact .inr (.inr h)
theorem Fr.cB {q : Nat} {b : dF} : ∀ {f : Fr}, f.gU → (f.ins q b).gU
  | [], _ => by simp [Fr.gU]
  | (k, c) :: r, hs => by
    unfold Fr.gU at hs ⊢
    rw [List.map_cons, List.pairwise_cons] at hs
    simp only [Fr.sk]
    split
    · rename_i e; subst e
      rw [List.map_cons, List.pairwise_cons]; exact hs
    · rename_i ne
      split
      · rename_i lt
        rw [List.map_cons, List.pairwise_cons, List.map_cons, List.pairwise_cons]
        refine ⟨fun y hy => ?_, hs⟩
        rcases List.mem_cons.1 hy with h | h
        · subst h; exact lt
        · have := hs.1 y h; simp only at *; omega
      · rw [List.map_cons, List.pairwise_cons]
        refine ⟨fun y hy => ?_, Fr.cB (f := r) hs.2⟩
        rcases Fr.CG hy with h | h
        · subst h; simp only at *; omega
        · exact hs.1 y h
theorem Fr.get_mem {q : Nat} {b : dF} : ∀ {f : Fr}, f.get q = some b → (q, b) ∈ f
  | [], h => by simp at h
  | (k, c) :: r, h => by
    simp only [Fr.c8] at h
    split at h
    · rename_i e; subst e; cases h; exact List.mem_cons_self ..
    · exact List.mem_cons_of_mem _ (Fr.get_mem h)
theorem Fr.FZ {q : Nat} {b : dF} : ∀ {f : Fr}, f.gU → (q, b) ∈ f → f.get q = some b
  | [], _, h => by simp at h
  | (k, c) :: r, hs, h => by
    unfold Fr.gU at hs
    rw [List.map_cons, List.pairwise_cons] at hs
    simp only [Fr.c8]
    rcases List.mem_cons.1 h with h | h
    · cases h; simp
    · have := hs.1 q (List.mem_map_of_mem (f := (·.1)) h)
      rw [if_neg (by simp only at this; omega)]
      exact Fr.FZ hs.2 h
theorem Fr.AJ {q : Nat} : ∀ {f : Fr}, (f.del q).Sublist f
  | [] => .slnil
  | (k, c) :: r => by
    unfold Fr.del
    split
    · exact Fr.AJ.cons _
    · exact Fr.AJ.cons_cons _
theorem rM: ∀{l:List Nat} {f:Fr},(gB l f).Sublist f
 | [],f=>List.Sublist.refl f
 |q::l,f=>(rM (l:=l)).trans Fr.AJ
theorem EJ {l:List Nat}{f:Fr}(h:f.gU):(gB l f).gU:=h.sublist ((rM (l:=l) (f:=f)).map _)
theorem oo {p:Nat}: ∀{l:List Nat} {f:Fr},(gB l f).get p=if p∈l then none else f.get p
 | [],f=>by simp [gB]
 |q::l,f=>by
  unfold gB;rw [oo,Fr.vE];by_cases h1:p∈l
  ·simp [h1]
  ·by_cases h2:p=q
   ·simp [h1,h2]
   ·simp [h1,h2]
theorem rN {nm:Nm}: ∀{f:Fr},iT nm f=true↔ ∀x∈f,gM nm x.2=true
 | []=>by simp [iT]
 |x::r=>by simp [iT,rN (f:=r)]
theorem jJ {L:Nat}{s:bd}{fr:Fr}{p:Nat}: ∀{g:Fr},p∈gV L s fr g↔(∃b,(p,b)∈g)∧gN p=true∧jF (L,p) s=true∧iT (L,p) fr=true
 | []=>by simp [gV]
 |x::r=>by
  obtain⟨k,b⟩:=x;simp only [gV];by_cases h:(gN k && jF (L,k) s && iT (L,k) fr)=true
  ·rw [if_pos h,List.mem_cons,jJ];simp only [Bool.and_eq_true]at h;constructor
   ·rintro(rfl|⟨⟨b',hb⟩,h2⟩)
    ·exact⟨⟨b,List.mem_cons_self ..⟩,h.1.1,h.1.2,h.2⟩
    ·exact⟨⟨b',List.mem_cons_of_mem _ hb⟩,h2⟩
   ·rintro⟨⟨b',hb⟩,h2⟩;rcases List.mem_cons.1 hb with e|e
    ·cases e;exact .inl rfl
    ·exact .inr ⟨⟨b',e⟩,h2⟩
  ·rw [if_neg h,jJ];constructor
   ·rintro⟨⟨b',hb⟩,h2⟩;exact⟨⟨b',List.mem_cons_of_mem _ hb⟩,h2⟩
   ·rintro⟨⟨b',hb⟩,h2⟩;rcases List.mem_cons.1 hb with e|e
    ·cases e;exact absurd (by simp [h2]) h
    ·exact⟨⟨b',e⟩,h2⟩
theorem Yh {s:bd}{F:Fr}{H:aj}{nt:Nat}(hH:0<H.length): ∃F',qW ⟨s,F::H,nt⟩=some ⟨s,F'::H,nt⟩∧(F.gU→F'.gU)∧(∀x∈F',x∈F)∧
  (∀k,gN k=false→F'.get k=F.get k)∧(∀k x,x∈F→gM (H.length,k) x.2=false→F'.get k=F.get k)∧
  (∀k,gN k=true→jF (H.length,k) s=true→(∀x∈F,gM (H.length,k) x.2=true)→F'.get k=none):=by
 refine⟨gB (gV H.length s F F) F, ?_,EJ,fun x hx=>rM.subset hx,fun k hk=> ?_,fun k x hx hr=> ?_,fun k hk hs hr=> ?_⟩
 ·unfold qW;simp only;rw [if_neg (by omega)]
 ·rw [oo,if_neg];rw [jJ];rintro⟨_,h,_⟩;rw [hk]at h;cases h
 ·rw [oo,if_neg];rw [jJ];rintro⟨_,_,_,h⟩;rw [rN]at h;rw [h x hx]at hr;cases hr
 ·rw [oo];by_cases h:k∈gV H.length s F F
  ·rw [if_pos h]
  ·rw [if_neg h]
   cases hg:F.get k with
   |none=>rfl
   |some b=>exact absurd (jJ.2 ⟨⟨b,Fr.get_mem hg⟩,hk,hs,rN.2 hr⟩) h
def fS:Nat→Nat|0=>90139|1=>1000000024631|_=>2000000024631
def dw:Nat→Nat|0=>110619|1=>1000000041015|_=>2000000041015
def fC:Nat→Nat|0=>217115|1=>1000000057399|_=>2000000057399
def kH:Nat→Nat|1=>2|_=>1
def gW (L:Nat)(r0:aC)(ai:List ak):dF:= .box [.pure (.int .i64 r0.wide), .pure (.int .i64 r0.deep), .aZ (L,188441) 2 r0.ah.length 0 r0.ah.length, .aZ (L,339993) 5 r0.aa.length 0 r0.aa.length, .aR,cH (L,393241) 1 (r0.aP.map aE),cH (L,62) 9 (ai.map ak.row)]
def dX (L q:Nat)(s:az):dF:= .box [.aZ (L,fS q) 1 s.ah.length 0 s.ah.length, .aZ (L,dw q) 2 s.aq.length 0 s.aq.length, .aZ (L,fC q) 2 s.aa.length 0 s.aa.length]
structure SF (F:Fr)(k1 k2 k3:Nat)(s:az):Prop where
 h1: ∃v,v≤s.ah.length∧F.get k1=some (.arr 1 (s.ah.map aE) v false)
 h2: ∃v,v≤s.aq.length∧F.get k2=some (.arr 2 (s.aq.map aF.row) v false)
 h3: ∃v,v≤s.aa.length∧F.get k3=some (.arr 2 (s.aa.map bm.row) v false)
structure FB (L:Nat)(F:Fr)(r0:aC)(ai:List ak)(sb:dF):Prop where
 gU:F.gU
 g6:F.get 6=some lG
 g7:F.get 7=some (gW L r0 ai)
 g8:F.get 8=some sb
 gp:F.get 188441=some (.arr 2 (r0.ah.map aS.row) 0 false)
 gt:F.get 339993=some (.arr 5 (r0.aa.map aY.row) 0 false)
 gl:r0.aP≠[]→F.get 393241=some (.arr 1 (r0.aP.map aE) 0 false)
 Qa:ai=[]→F.get 62=none
 ga:ai≠[]→F.get 62=some (.arr 9 (ai.map ak.row) 0 false)
 ref: ∀x∈F,x.1≠8→ ∀k,gN k=true→gM (L,k) x.2=true
structure FI (L:Nat)(F:Fr)(r0:aC)(ai:List ak)(s:az)(q:Nat):Prop extends FB L F r0 ai (dX L q s) where
 sc:SF F (fS q) (dw q) (fC q) s
 EK: ∀k,gN k=true→F.get k≠none→k=fS q∨k=dw q∨k=fC q
structure FM (L:Nat)(F:Fr)(r0:aC)(ai:List ak)(s:az)(q:Nat)(t:az):Prop extends FB L F r0 ai (dX L q s) where
 sc:SF F (fS q) (dw q) (fC q) s
 nx:SF F (fS (kH q)) (dw (kH q)) (fC (kH q)) t
 EK: ∀k,gN k=true→F.get k≠none→(k=fS q∨k=dw q∨k=fC q)∨(k=fS (kH q)∨k=dw (kH q)∨k=fC (kH q))
theorem qq (q:Nat)(hq:q≤2):fS q≠dw q∧fS q≠fC q∧dw q≠fC q∧fS q≠fS (kH q)∧fS q≠dw (kH q)∧fS q≠fC (kH q)∧dw q≠fS (kH q)∧dw q≠dw (kH q)∧dw q≠fC (kH q)∧fC q≠fS (kH q)∧fC q≠dw (kH q)∧fC q≠fC (kH q):=by
 match q,hq with
 |0,_=>decide
 |1,_=>decide
 |2,_=>decide
theorem ue (q:Nat):1≤kH q∧kH q≤2:=by
 unfold kH;split<;>omega
def fixed:List Nat:=[6,7,8,62,188441,339993,393241]
theorem lO (q:Nat)(hq:q≤2):(∀k∈fixed,k≠fS q)∧(∀k∈fixed,k≠dw q)∧(∀k∈fixed,k≠fC q):=by
 match q,hq with
 |0,_=>decide
 |1,_=>decide
 |2,_=>decide
theorem Ib: ∀k∈fixed,gN k=false:=by decide
theorem FB.ins {L:Nat}{F:Fr}{r0:aC}{ai:List ak}{sb:dF}(h:FB L F r0 ai sb){k:Nat}{b:dF}(hk: ∀j∈fixed,j≠k)(hb: ∀nm,gM nm b=true):FB L (F.ins k b) r0 ai sb where
 gU:=Fr.cB h.gU
 g6:=(Fr.aw _ (hk 6 (by decide)) _).trans h.g6
 g7:=(Fr.aw _ (hk 7 (by decide)) _).trans h.g7
 g8:=(Fr.aw _ (hk 8 (by decide)) _).trans h.g8
 gp:=(Fr.aw _ (hk 188441 (by decide)) _).trans h.gp
 gt:=(Fr.aw _ (hk 339993 (by decide)) _).trans h.gt
 gl:=fun hl=>(Fr.aw _ (hk 393241 (by decide)) _).trans (h.gl hl)
 Qa:=fun ha=>(Fr.aw _ (hk 62 (by decide)) _).trans (h.Qa ha)
 ga:=fun ha=>(Fr.aw _ (hk 62 (by decide)) _).trans (h.ga ha)
 ref:=fun x hx hne k' hk'=>by
  rcases Fr.qp h.gU hx with e|⟨e,_⟩
  ·subst e;exact hb _
  ·exact h.ref x e hne k' hk'
def rO (F:Fr)(q v1 v2 v3:Nat)(t:az):Fr:=((F.ins (fS q) (.arr 1 (t.ah.map aE) v1 false)).ins (dw q) (.arr 2 (t.aq.map aF.row) v2 false)).ins (fC q) (.arr 2 (t.aa.map bm.row) v3 false)
theorem jK (F:Fr)(q v1 v2 v3:Nat)(t:az){k:Nat}(h1:k≠fS q)(h2:k≠dw q)(h3:k≠fC q):(rO F q v1 v2 v3 t).get k=F.get k:=by
 unfold rO;rw [Fr.aw _ h3,Fr.aw _ h2,Fr.aw _ h1]
theorem AK (F:Fr)(q:Nat)(hq:q≤2){v1 v2 v3:Nat}(t:az)(h1:v1≤t.ah.length)(h2:v2≤t.aq.length)(h3:v3≤t.aa.length):SF (rO F q v1 v2 v3 t) (fS q) (dw q) (fC q) t:=by
 obtain⟨n1,n2,n3,_⟩:=qq q hq;refine⟨⟨v1,h1, ?_⟩,⟨v2,h2, ?_⟩,⟨v3,h3, ?_⟩⟩
 ·unfold rO;rw [Fr.aw _ n2,Fr.aw _ n1,Fr.a7]
 ·unfold rO;rw [Fr.aw _ n3,Fr.a7]
 ·unfold rO;rw [Fr.a7]
theorem AL {L:Nat}{F:Fr}{r0:aC}{ai:List ak}{sb:dF}(h:FB L F r0 ai sb)(q:Nat)(hq:q≤2)(v1 v2 v3:Nat)(t:az):FB L (rO F q v1 v2 v3 t) r0 ai sb:=by
 obtain⟨a,b,c⟩:=lO q hq;exact((h.ins a fun _=>rfl).ins b fun _=>rfl).ins c fun _=>rfl
theorem SF.other {F F':Fr}{k1 k2 k3:Nat}{s:az}(h:SF F k1 k2 k3 s)(e1:F'.get k1=F.get k1)(e2:F'.get k2=F.get k2)(e3:F'.get k3=F.get k3):SF F' k1 k2 k3 s:=by
 obtain⟨a,b,c⟩:=h;exact⟨by rw [e1];exact a,by rw [e2];exact b,by rw [e3];exact c⟩
theorem FI.own {L:Nat}{F:Fr}{r0:aC}{ai:List ak}{s:az}{q:Nat}(hq:q≤2)(h:FI L F r0 ai s q):FM L (rO F (kH q) 0 0 0 s) r0 ai s q s:=by
 obtain⟨n1,n2,n3,m11,m12,m13,m21,m22,m23,m31,m32,m33⟩:=qq q hq;have hp:=ue q
 exact {AL h.toFB (kH q) hp.2 0 0 0 s with
  sc:=h.sc.other (jK _ _ _ _ _ _ m11 m12 m13) (jK _ _ _ _ _ _ m21 m22 m23) (jK _ _ _ _ _ _ m31 m32 m33)
  nx:=AK F (kH q) hp.2 s (Nat.zero_le _) (Nat.zero_le _) (Nat.zero_le _)
  EK:=fun k hk hg=>by
   by_cases h1:k=fS (kH q)
   ·exact .inr (.inl h1)
   by_cases h2:k=dw (kH q)
   ·exact .inr (.inr (.inl h2))
   by_cases h3:k=fC (kH q)
   ·exact .inr (.inr (.inr h3))
   rw [jK _ _ _ _ _ _ h1 h2 h3]at hg;exact .inl (h.EK k hk hg)}
theorem FM.TY {L:Nat}{F:Fr}{r0:aC}{ai:List ak}{s t t':az}{q:Nat}(hq:q≤2)(h:FM L F r0 ai s q t){v1 v2 v3:Nat}(h1:v1≤t'.ah.length)(h2:v2≤t'.aq.length)(h3:v3≤t'.aa.length):FM L (rO F (kH q) v1 v2 v3 t') r0 ai s q t':=by
 obtain⟨n1,n2,n3,m11,m12,m13,m21,m22,m23,m31,m32,m33⟩:=qq q hq;have hp:=ue q
 exact {AL h.toFB (kH q) hp.2 v1 v2 v3 t' with
  sc:=h.sc.other (jK _ _ _ _ _ _ m11 m12 m13) (jK _ _ _ _ _ _ m21 m22 m23) (jK _ _ _ _ _ _ m31 m32 m33)
  nx:=AK F (kH q) hp.2 t' h1 h2 h3
  EK:=fun k hk hg=>by
   by_cases h1:k=fS (kH q)
   ·exact .inr (.inl h1)
   by_cases h2:k=dw (kH q)
   ·exact .inr (.inr (.inl h2))
   by_cases h3:k=fC (kH q)
   ·exact .inr (.inr (.inr h3))
   rw [jK _ _ _ _ _ _ h1 h2 h3]at hg;exact h.EK k hk hg}
def AM (L:Nat)(F:Fr)(r0:aC)(ai:List ak):Fr:=(F.ins 62 (.arr 9 (ai.map ak.row) 0 false)).ins 7 (gW L r0 ai)
theorem jL (L:Nat)(F:Fr)(r0:aC)(ai:List ak){k:Nat}(h1:k≠62)(h2:k≠7):(AM L F r0 ai).get k=F.get k:=by
 unfold AM;rw [Fr.aw _ h2,Fr.aw _ h1]
theorem zq {L:Nat}{r0:aC}{ai:List ak}{k:Nat}(hk:gN k=true):gM (L,k) (gW L r0 ai)=true:=by
 have ne: ∀j,gN j=false→((L,j):Nm)≠(L,k):=fun j hj e=>by
  have:=(Prod.mk.inj e).2;subst this;rw [hj]at hk;cases hk
 have one: ∀j es rows,gN j=false→fb (L,k) (cH (L,j) es rows)=true:=fun j es rows hj=>by
  unfold cH;split
  ·rfl
  ·simpa [fb]using ne j hj
 have a:=ne 188441 (by decide);have b:=ne 339993 (by decide);have c:=one 393241 1 (r0.aP.map aE) (by decide);have d:=one 62 9 (ai.map ak.row) (by decide);simp only [gW,gM,gL,fb,decide_eq_true_eq,Bool.and_eq_true,true_and,and_true,c,d,ne_eq];exact⟨a,b⟩
theorem F8 {L:Nat}{F:Fr}{r0:aC}{ai acts':List ak}{sb:dF}(h:FB L F r0 ai sb)(hne:acts'≠[]):FB L (AM L F r0 acts') r0 acts' sb where
 gU:=Fr.cB (Fr.cB h.gU)
 g6:=(jL _ _ _ _ (by decide) (by decide)).trans h.g6
 g7:=by unfold AM;rw [Fr.a7]
 g8:=(jL _ _ _ _ (by decide) (by decide)).trans h.g8
 gp:=(jL _ _ _ _ (by decide) (by decide)).trans h.gp
 gt:=(jL _ _ _ _ (by decide) (by decide)).trans h.gt
 gl:=fun hl=>(jL _ _ _ _ (by decide) (by decide)).trans (h.gl hl)
 Qa:=fun e=>absurd e hne
 ga:=fun _=>by unfold AM;rw [Fr.aw _ (by decide),Fr.a7]
 ref:=fun x hx hne k' hk'=>by
  rcases Fr.qp (Fr.cB h.gU) hx with e|⟨e,_⟩
  ·subst e;exact zq hk'
  ·rcases Fr.qp h.gU e with e|⟨e,_⟩
   ·subst e;rfl
   ·exact h.ref x e hne k' hk'
theorem FM.app {L:Nat}{F:Fr}{r0:aC}{ai acts':List ak}{s t:az}{q:Nat}(hq:q≤2)(h:FM L F r0 ai s q t)(hne:acts'≠[]):FM L (AM L F r0 acts') r0 acts' s q t:=by
 have hp:=ue q;obtain⟨a,b,c⟩:=lO q hq;obtain⟨a',b',c'⟩:=lO (kH q) hp.2;have one: ∀k,(∀j∈fixed,j≠k)→(AM L F r0 acts').get k=F.get k:=fun k hk=>jL _ _ _ _ (hk 62 (by decide)).symm (hk 7 (by decide)).symm
 exact {F8 h.toFB hne with
  sc:=h.sc.other (one _ a) (one _ b) (one _ c)
  nx:=h.nx.other (one _ a') (one _ b') (one _ c')
  EK:=fun k hk hg=>by
   have h1:k≠62:=fun e=>(by subst e;cases hk);have h2:k≠7:=fun e=>(by subst e;cases hk);rw [jL _ _ _ _ h1 h2]at hg;exact h.EK k hk hg}
theorem EL {L q:Nat}{s:az}{k:Nat}(h1:k≠fS q)(h2:k≠dw q)(h3:k≠fC q):gM (L,k) (dX L q s)=true:=by
 simp only [dX,gM,gL,fb,Bool.and_true,Bool.and_eq_true,decide_eq_true_eq,ne_eq,Prod.mk.injEq,true_and];exact⟨fun e=>h1 e.symm,fun e=>h2 e.symm,fun e=>h3 e.symm⟩
theorem CH {L q:Nat}{s:az}:gM (L,fS q) (dX L q s)=false∧gM (L,dw q) (dX L q s)=false∧gM (L,fC q) (dX L q s)=false:=by
 refine⟨?_, ?_, ?_⟩<;>simp [dX,gM,gL,fb]
theorem FB.qW {F:Fr}{H:aj}{r0:aC}{ai:List ak}{t:az}{p nt:Nat}{s:bd}(hp:p≤2)(hH:0<H.length)(h:FB H.length F r0 ai (dX H.length p t))(sc:SF F (fS p) (dw p) (fC p) t)(hs: ∀k,gN k=true→jF (H.length,k) s=true):
  ∃F',Go.Gh.qW ⟨s,F::H,nt⟩=some ⟨s,F'::H,nt⟩∧FI H.length F' r0 ai t p:=by
 obtain⟨F',e,hsrt,hmem,hnf,hrf,hdead⟩:=Yh (s:=s) (F:=F) (nt:=nt) hH;refine⟨F',e, ?_⟩;have fx: ∀k∈fixed,F'.get k=F.get k:=fun k hk=>hnf k (Ib k hk);have m8:(8,dX H.length p t)∈F:=Fr.get_mem h.g8;have R:=CH (L:=H.length) (q:=p) (s:=t)
 exact {
  gU:=hsrt h.gU
  g6:=(fx 6 (by decide)).trans h.g6
  g7:=(fx 7 (by decide)).trans h.g7
  g8:=(fx 8 (by decide)).trans h.g8
  gp:=(fx 188441 (by decide)).trans h.gp
  gt:=(fx 339993 (by decide)).trans h.gt
  gl:=fun hl=>(fx 393241 (by decide)).trans (h.gl hl)
  Qa:=fun ha=>(fx 62 (by decide)).trans (h.Qa ha)
  ga:=fun ha=>(fx 62 (by decide)).trans (h.ga ha)
  ref:=fun x hx=>h.ref x (hmem x hx)
  sc:=sc.other (hrf _ _ m8 R.1) (hrf _ _ m8 R.2.1) (hrf _ _ m8 R.2.2)
  EK:=fun k hk hg=>by
   by_cases h1:k=fS p
   ·exact .inl h1
   by_cases h2:k=dw p
   ·exact .inr (.inl h2)
   by_cases h3:k=fC p
   ·exact .inr (.inr h3)
   refine absurd (hdead k hk (hs k hk) fun x hx=> ?_) hg;by_cases e8:x.1=8
   ·have:x.2=dX H.length p t:=by
     have:=Fr.FZ h.gU (show (x.1,x.2)∈F from hx)
     rw [e8,h.g8]at this;exact(Option.some.inj this).symm
    rw [this];exact EL h1 h2 h3
   ·exact h.ref x hx e8 k hk}
theorem FM.fin {F:Fr}{H:aj}{r0:aC}{ai:List ak}{s t:az}{q nt:Nat}{sl:bd}(hH:0<H.length)(h:FM H.length F r0 ai s q t)(hs: ∀k,gN k=true→jF (H.length,k) sl=true):
  ∃F',Go.Gh.qW ⟨sl,F.ins 8 (dX H.length (kH q) t)::H,nt⟩=some ⟨sl,F'::H,nt⟩∧FI H.length F' r0 ai t (kH q):=by
 have hp:=ue q;obtain⟨a',b',c'⟩:=lO (kH q) hp.2;refine FB.qW hp.2 hH ?_ ?_ hs
 ·exact {
   gU:=Fr.cB h.gU
   g6:=(Fr.aw _ (by decide) _).trans h.g6
   g7:=(Fr.aw _ (by decide) _).trans h.g7
   g8:=Fr.a7 ..
   gp:=(Fr.aw _ (by decide) _).trans h.gp
   gt:=(Fr.aw _ (by decide) _).trans h.gt
   gl:=fun hl=>(Fr.aw _ (by decide) _).trans (h.gl hl)
   Qa:=fun ha=>(Fr.aw _ (by decide) _).trans (h.Qa ha)
   ga:=fun ha=>(Fr.aw _ (by decide) _).trans (h.ga ha)
   ref:=fun x hx hne k' hk'=>by
    rcases Fr.qp h.gU hx with e|⟨e,_⟩
    ·exact absurd (by rw [e]) hne
    ·exact h.ref x e hne k' hk'}
 ·exact h.nx.other (Fr.aw _ (a' 8 (by decide)).symm _) (Fr.aw _ (b' 8 (by decide)).symm _) (Fr.aw _ (c' 8 (by decide)).symm _)
theorem FI.same {F:Fr}{H:aj}{r0:aC}{ai:List ak}{s:az}{q nt:Nat}{sl:bd}(hq:q≤2)(hH:0<H.length)(h:FI H.length F r0 ai s q)(hs: ∀k,gN k=true→jF (H.length,k) sl=true):
  ∃F',Go.Gh.qW ⟨sl,F::H,nt⟩=some ⟨sl,F'::H,nt⟩∧FI H.length F' r0 ai s q:=FB.qW hq hH h.toFB h.sc hs
section
theorem Fr.pQ {k : Nat} {b : dF} : ∀ {f : Fr}, f.gU → f.get k = some b → f.ins k b = f
  | [], _, h => by simp at h
  | (j, c) :: r, hs, h => by
    unfold Fr.gU at hs
    rw [List.map_cons, List.pairwise_cons] at hs
    simp only [Fr.c8] at h
    simp only [Fr.sk]
    by_cases e : k = j
    · subst e
      rw [if_pos rfl] at h
      cases h
      rw [if_pos rfl]
    · rw [if_neg e] at h
      rw [if_neg e]
      have := hs.1 k (List.mem_map_of_mem (f := (·.1)) (Fr.get_mem h))
      simp only at this
      rw [if_neg (by omega), Fr.pQ hs.2 h]
def sY (L:Nat)(r0:aC)(ai:List ak):GV:= .agg [.pure (.int .i64 r0.wide), .pure (.int .i64 r0.deep), .aZ (L,188441) 2 r0.ah.length 0 r0.ah.length, .aZ (L,339993) 5 r0.aa.length 0 r0.aa.length, .aR,cH (L,393241) 1 (r0.aP.map aE),cH (L,62) 9 (ai.map ak.row)]
def KB (L q:Nat)(s:az):GV:=kK (L,fS q) (L,dw q) (L,fC q) s
def jS (r0:aC)(ai:List ak):aC:={r0 with ai:=ai}
section
variable {F f0:Fr} {H:aj} {r0:aC} {ai:List ak} {sb:dF} {c:Nat}
theorem og {nm:Nm}{es:Nat}{rows:List (List PV)}(h:rows≠[]→H.get nm=some (.arr es rows 0 false)):FC H (cH nm es rows) (.slice rows):=by
 unfold cH;by_cases hr:rows=[]
 ·subst hr;rw [if_pos rfl];simp
 ·rw [if_neg hr];exact⟨rows,0,false,h hr,Nat.zero_le _,rfl,rfl,rfl,rfl⟩
theorem FB.rd (h:FB H.length F r0 ai sb)(hs:r0.seen=[]):mC (f0::F::H) (sY H.length r0 ai) (.agg (jS r0 ai).row):=by
 have ne: ¬H.length=H.length+1:=(by omega);have g: ∀k,aj.get (f0::F::H) (H.length,k)=F.get k:=fun k=>(by simp [ne]);rw [cI];unfold sY;rw [qj];simp only [jS,mT,qi,mR,and_true,true_and];refine⟨⟨_,0,false,(g _).trans h.gp,Nat.zero_le _,by simp,rfl,rfl,rfl⟩,⟨_,0,false,(g _).trans h.gt,Nat.zero_le _,by simp,rfl,rfl,rfl⟩, ?_,og fun hr=>(g _).trans (h.gl ?_),og fun hr=>(g _).trans (h.ga ?_)⟩
 ·rw [hs];rfl
 ·intro e;rw [e]at hr;exact hr rfl
 ·intro e;rw [e]at hr;exact hr rfl
theorem SF.rd {k1 k2 k3:Nat}{s:az}(h:SF F k1 k2 k3 s):mC (f0::F::H) (kK (H.length,k1) (H.length,k2) (H.length,k3) s) (.agg s.row):=by
 have ne: ¬H.length=H.length+1:=(by omega);have g: ∀k,aj.get (f0::F::H) (H.length,k)=F.get k:=fun k=>(by simp [ne]);obtain⟨⟨v1,a1,b1⟩,⟨v2,a2,b2⟩,⟨v3,a3,b3⟩⟩:=h;unfold kK az.row;rw [qj];simp only [mT,qi,mR,and_true,true_and];exact⟨⟨_,v1,false,(g _).trans b1,a1,by simp,rfl,rfl,rfl⟩,⟨_,v2,false,(g _).trans b2,a2,by simp,rfl,rfl,rfl⟩,⟨_,v3,false,(g _).trans b3,a3,by simp,rfl,rfl,rfl⟩⟩
theorem SF.self {k1 k2 k3:Nat}{s:az}(hF:F.gU)(h:SF F k1 k2 k3 s)(jP:k1≠k2)(kL:k1≠k3)(jZ:k2≠k3): ∃v1 v2 v3,lI (f0::F::H) (H.length,k1) (H.length,k2) (H.length,k3) v1 v2 v3 s:=by
 have ne: ¬H.length=H.length+1:=(by omega);have g: ∀k,aj.get (f0::F::H) (H.length,k)=F.get k:=fun k=>(by simp [ne]);have st: ∀k b,F.get k=some b→aj.set (f0::F::H) (H.length,k) b=f0::F::H:=fun k b hb=>(by simp [ne,Fr.pQ hF hb]);have nn: ∀a b:Nat,a≠b→((H.length,a):Nm)≠(H.length,b):=fun a b h e=>h (Prod.mk.inj e).2;obtain⟨⟨v1,a1,b1⟩,⟨v2,a2,b2⟩,⟨v3,a3,b3⟩⟩:=h;exact⟨v1,v2,v3,{jP:=nn _ _ jP,kL:=nn _ _ kL,jZ:=nn _ _ jZ,g1:=(g _).trans b1,g2:=(g _).trans b2,g3:=(g _).trans b3,e1:=a1,e2:=a2,e3:=a3,s1:=st _ _ b1,s2:=st _ _ b2,s3:=st _ _ b3}⟩
structure RB (r0:aC)(n:Nat):Prop where
 hn:IntKind.i64.wrap (r0.wide*r0.deep)=n
 n0:0<n
 n9:n≤9
 wide:r0.wide≠0
 pl:r0.ah.length≤3
 tl:r0.aa.length≤4
 p0:r0.ah≠[]
 t0:r0.aa≠[]
 seen:r0.seen=[]
theorem xz {nm:Nm}(hlt:nm.1<H.length){n:Nat}(hb:RB r0 n)(h:FB H.length F r0 ai sb){k1 k2 k3:Nat}{s:az}(hs:SF F k1 k2 k3 s)(hS:He r0 s)(w:Nat)(hw:w<r0.ah.length)(wd:Int):
  aL KC (aG KC) 49 [.aA nm 0,sY H.length r0 ai,kK (H.length,k1) (H.length,k2) (H.length,k3) s, .pure (.int .i64 w)] c (f0::F::H.set nm (bG wd))=
   some (.pure (.tuple [.agg (gJ (jS r0 ai) s w (bQ n r0.aa.length r0.ah.length w) wd).1.1.row, .bool (gJ (jS r0 ai) s w (bQ n r0.aa.length r0.ah.length w) wd).1.2]),f0::F::H.set nm (bG (gJ (jS r0 ai) s w (bQ n r0.aa.length r0.ah.length w) wd).2)):=by
 have hl:(H.set nm (bG wd)).length=H.length:=aj.length_set _ _ _;have h':FB (H.set nm (bG wd)).length F r0 ai sb:=(by rw [hl];exact h);have hne: ¬nm.1=H.length:=(by omega);have hne2: ¬nm.1=H.length+1:=(by omega);have B:fZ (f0::F::H.set nm (bG wd)) nm:=eE (eE (ly hlt));have W:bJ (f0::F::H.set nm (bG wd)) nm=wd:=(by rw [dK (by simp [hl];omega),dK (by rw [hl];exact hlt),lx hlt]);have M:=Hd (c:=c) (rg:=sY (H.set nm (bG wd)).length r0 ai) (sg:=kK ((H.set nm (bG wd)).length,k1) ((H.set nm (bG wd)).length,k2) ((H.set nm (bG wd)).length,k3) s) (jS r0 ai) s w n (h'.rd (f0:=f0) hb.seen) hs.rd ⟨hS.pl,hS.hl,hS.tl,hS.hr⟩ hw (by show r0.ah.length≤_;have:=hb.pl;omega) (by show r0.aa.length≤_;have:=hb.tl;omega) hb.wide hb.hn hb.n0 (by have:=hb.n9;omega) B
 rw [W,hl]at M;refine M.trans ?_;simp [hne,hne2,aj.length_set,jS]
theorem KD {H0:aj}(hl:H0.length=H.length){k1 k2 k3:Nat}{s:az}(hs:SF F k1 k2 k3 s)(hS:He r0 s){w v:Nat}{a b:ak}(hw:w<r0.ah.length)(hv:v<r0.ah.length)(h1:a.aQ=w)(h2:a.hand=0∨a.hand=1)(h3:b.aQ=v)(h4:b.hand=0∨b.hand=1):
  aL KC (aG KC) 53 [kK (H.length,k1) (H.length,k2) (H.length,k3) s, .pure (.agg a.row), .pure (.agg b.row)] c (f0::F::H0)=some (.pure (.bool (rj s w a v b)),f0::F::H0):=by
 have e1:=hS.pl;have e2:=hS.hl;have R:mC (f0::F::H0) (kK (H.length,k1) (H.length,k2) (H.length,k3) s) (.agg s.row):=(by rw [←hl];exact hs.rd);exact Hh R (show mC _ (.pure (.agg a.row)) (.agg a.row)from rfl) (show mC _ (.pure (.agg b.row)) (.agg b.row)from rfl) (by omega) (by omega) h1 h2 (by omega) (by omega) h3 h4 (by simp)
theorem T4 {H0:aj}(hl:H0.length=H.length){k1 k2 k3:Nat}{s:az}(hF:F.gU)(hs:SF F k1 k2 k3 s)(jP:k1≠k2)(kL:k1≠k3)(jZ:k2≠k3){w:Nat}{a:ak}(hb:DS s w a)(hhl:s.aq.length≤1000000):
  ∃v1 v2 v3,v1≤s.ah.length∧v2≤s.aq.length∧v3≤s.aa.length∧
  aL KC (aG KC) 51 [kK (H.length,k1) (H.length,k2) (H.length,k3) s, .pure (.agg a.row)] c (f0::F::H0)=
   some (.pure (.tuple []),f0::((F.ins k1 (.arr 1 ((cX s w a).ah.map aE) v1 false)).ins k2 (.arr 2 ((cX s w a).aq.map aF.row) v2 false)).ins k3 (.arr 2 ((cX s w a).aa.map bm.row) v3 false)::H0):=by
 obtain⟨u1,u2,u3,S⟩:=hs.self (f0:=f0) (H:=H0) hF jP kL jZ;obtain⟨v1,v2,v3,a1,a2,a3,e⟩:=KE (c:=c) S hb hhl (by simp);rw [hl]at e;refine⟨v1,v2,v3,a1,a2,a3,e.trans ?_⟩;have ne: ¬H.length=H.length+1:=(by omega);simp [cn,hl,ne]
end
end
section
section
variable {F:Fr} {H:aj} {r0:aC} {ai:List ak} {sb:dF}
theorem Yi {H0:aj}(hl:H0.length=H.length){s:az}{q:Nat}(hq:q≤2)(h:FI H.length F r0 ai s q)(hS:He r0 s)(p0:r0.ah≠[])(t0:r0.aa≠[])(pl:r0.ah.length≤1000000)(tl:r0.aa.length≤1000000)(a:ak):
  (match aL KC (aG KC) 50 [KB H.length q s] 54 ([(12,bR a)]::F::H0)with|some z=>si ([(12,bR a)]::F::H0) (.aA (H.length,8) 0) z|none=>none)=
   some (KB H.length (kH q) s,[(12,bR a)]::rO F (kH q) 0 0 0 s::H0):=by
 obtain⟨jP,kL,jZ,_⟩:=qq q hq;obtain⟨u1,u2,u3,S⟩:=h.sc.self (f0:=[(12,bR a)]) (H:=H0) h.gU jP kL jZ;have e1:=hS.pl;have e2:=hS.hl;have e3:=hS.tl;have q0:0<r0.ah.length:=List.length_pos_iff.2 p0;have q1:0<r0.aa.length:=List.length_pos_iff.2 t0;have ne: ¬H.length=H.length+1:=(by omega);have O:=X2 (c:=54) S.tomP (fun e=>by rw [e]at e1;simp at e1;omega) (fun e=>by rw [e]at e2;simp at e2;omega) (fun e=>by rw [e]at e3;simp at e3;omega) (by omega) (by omega) (by omega) (by simp) (by simp [ao]) (by simp [ao]) (by simp [ao]);rw [hl]at O;unfold KB;rw [O];have fr1: ∀k,k=fS 1∨k=dw 1∨k=fC 1→q≠1→F.get k=none:=fun k hk hq1=>by
  cases hg:F.get k with
  |none=>rfl
  |some b=>
   have:=h.EK k (by rcases hk with rfl|rfl|rfl<;>decide) (by rw [hg];exact fun e=>by cases e)
   exfalso
   match q,hq with
   |0,_=>rcases hk with rfl|rfl|rfl<;>revert this<;>decide
   |1,_=>exact hq1 rfl
   |2,_=>rcases hk with rfl|rfl|rfl<;>revert this<;>decide
 have fr2: ∀k,k=fS 2∨k=dw 2∨k=fC 2→q=1→F.get k=none:=fun k hk hq1=>by
  cases hg:F.get k with
  |none=>rfl
  |some b=>
   have:=h.EK k (by rcases hk with rfl|rfl|rfl<;>decide) (by rw [hg];exact fun e=>by cases e)
   exfalso;subst hq1;rcases hk with rfl|rfl|rfl<;>revert this<;>decide
 have A:cZ 0 (ao 54 6)=fS 1∧cZ 0 (ao 54 10)=dw 1∧cZ 0 (ao 54 14)=fC 1∧cZ 1 (ao 54 6)=fS 2∧cZ 1 (ao 54 10)=dw 2∧cZ 1 (ao 54 14)=fC 2:=(by decide);obtain⟨A1,A2,A3,B1,B2,B3⟩:=A;have N1:ao 54 6=24631:=(by decide);have N2:ao 54 10=41015:=(by decide);have N3:ao 54 14=57399:=(by decide);rw [N1]at A1 B1;rw [N2]at A2 B2;rw [N3]at A3 B3;by_cases hq1:q=1
 ·have hs: ∃b,F.get (fS 1)=some b:=by
   obtain⟨v,_,hv⟩:=h.sc.h1;rw [hq1]at hv;exact⟨_,hv⟩
  obtain⟨b1,hb1⟩:=hs;have g1:=fr2 (fS 2) (.inl rfl) hq1;have g2:=fr2 (dw 2) (.inr (.inl rfl)) hq1;have g3:=fr2 (fC 2) (.inr (.inr rfl)) hq1;have hn:kH q=2:=(by rw [hq1];rfl);rw [hn];simp only [fS,dw,fC]at hb1 g1 g2 g3 A1 A2 A3 B1 B2 B3;simp only [si,kK,cn,N1,N2,N3,hl];simp [refs,dM,dn,dedup,hl,ne,bR,rB,mj,iT,gM,gL,fb,gB,Fr.del,xg,xf,oH,rC,A1,A2,A3,B1,B2,B3,hb1,g1,g2,g3,rO,fS,dw,fC]
 ·have g1:=fr1 (fS 1) (.inl rfl) hq1;have g2:=fr1 (dw 1) (.inr (.inl rfl)) hq1;have g3:=fr1 (fC 1) (.inr (.inr rfl)) hq1;have hn:kH q=1:=by
   match q,hq with
   |0,_=>rfl
   |1,_=>exact absurd rfl hq1
   |2,_=>rfl
  rw [hn];simp only [fS,dw,fC]at g1 g2 g3 A1 A2 A3 B1 B2 B3;simp only [si,kK,cn,N1,N2,N3,hl];simp [refs,dM,dn,dedup,hl,ne,bR,rB,mj,iT,gM,gL,fb,gB,Fr.del,xg,xf,oH,rC,A1,A2,A3,B1,B2,B3,g1,g2,g3,rO,fS,dw,fC]
end
end
section
def TrG (r:aC):az→List (List ak)→Prop
 |_,[]=>True
 |s,g::gs=>(qL r s g∧g≠[]∧ ∀a∈g,∀b∈g,a.bc=b.bc)∧TrG r (mG s g) gs
theorem CI {r:aC}{g:List ak}: ∀{gs:List (List ak)} {s:az},TrG r s gs→(qL r (mG s gs.flatten) g∧g≠[]∧ ∀a∈g,∀b∈g,a.bc=b.bc)→TrG r s (gs++[g])
 | [],s,_,h=>⟨h,trivial⟩
 |g0::gs,s,h,h2=>⟨h.1,CI h.2 (by rw [←jj];exact h2)⟩
structure Made (r0:aC)(ai:List ak)(s:az)(t:Int):Prop where
 gs: ∃gs:List (List ak),ai=gs.flatten∧TrG r0 (ay r0) gs∧(gs.Pairwise fun g h=> ∀a∈g,∀b∈h,a.bc<b.bc)
 lt: ∀a∈ai,a.bc<t
 z: ∀a∈ai,0≤a.bc∧a.cY=0∧a.jV=0
 sc:s=mG (ay r0) ai
 snd:gz r0 s
 t0:0≤t
theorem Made.grp {r0:aC}{ai:List ak}{s:az}{t t':Int}{g:List ak}(h:Made r0 ai s t)(hg:qL r0 s g)(hne:g≠[])(hat: ∀a∈g,a.bc=t∧a.cY=0∧a.jV=0)(ht:t<t'):Made r0 (ai++g) (mG s g) t':=by
 obtain⟨gs,e,h1,h2⟩:=h.gs;have hs:=h.sc;have t0:=h.t0;refine⟨⟨gs++[g],by rw [e];simp,CI h1 ⟨by rw [←e,←hs];exact hg,hne,fun a ha b hb=>(hat a ha).1.trans (hat b hb).1.symm⟩, ?_⟩,fun a ha=> ?_,fun a ha=> ?_,by rw [jj,←hs],hg.snd h.snd,by omega⟩
 ·rw [List.pairwise_append];refine⟨h2,List.pairwise_singleton ..,fun g' hg' x hx a ha b hb=> ?_⟩;simp only [List.mem_singleton]at hx;subst hx;have:=h.lt a (by rw [e];exact List.mem_flatten.2 ⟨g',hg',ha⟩);have:=(hat b hb).1;omega
 ·rcases List.mem_append.1 ha with x|x
  ·have:=h.lt a x;omega
  ·have:=(hat a x).1;omega
 ·rcases List.mem_append.1 ha with x|x
  ·exact h.z a x
  ·have:=(hat a x).1;exact⟨by omega,(hat a x).2⟩
theorem EM {r:aC}(h:wB r):gz r (ay r):=by
 have ce: ∀l:List aS,∀t:Nat,kF (l.map fun _=>empty) t=0:=fun l t=>by
  induction l with
  |nil=>rfl
  |cons a l ih=>
   have: ¬(-1:Int)=t:=(by omega);simp only [List.map_cons,kF,ih];simp [Ac,empty,this]
 refine {pl:=by simp [ay],hl:=by simp [ay],tl:=by simp [ay],hr:=fun i hi=> ?_,pr:=fun x hx=> ?_,pn:=h.pn,th:=fun t ht=> ?_,st:=fun t ht=> ?_}
 ·simp only [ay,List.getElem_map,empty,List.length_map];omega
 ·simp only [ay,List.mem_map]at hx;obtain⟨p,hp,rfl⟩:=hx;exact(h.pc p hp).2
 ·have ht':t<r.aa.length:=(by simpa [ay]using ht);have e:((ay r).aa.getD t aV)=gC r.aa[t]:=by
   rw [bf ht];simp [ay]
  rw [e];exact .inr ⟨ce _ _,(h.tc _ (List.getElem_mem ht')).1,(h.tc _ (List.getElem_mem ht')).2.1⟩
 ·have ht':t<r.aa.length:=(by simpa [ay]using ht);have e:((ay r).aa.getD t aV)=gC r.aa[t]:=by
   rw [bf ht];simp [ay]
  rw [e];exact⟨(h.tc _ (List.getElem_mem ht')).2.2.1,(h.tc _ (List.getElem_mem ht')).2.2.2.1⟩
theorem Made.first {r:aC}(h:wB r){t:Int}(ht:0≤t):Made r [] (ay r) t:=
 ⟨⟨[],rfl,trivial, .nil⟩,fun _ h=>by simp at h,fun _ h=>by simp at h,rfl,EM h,ht⟩
def setAt (a:ak)(t:Int):ak:={a with bc:=t}
section
variable {r:aC} {s:az} {w:Nat} {a:ak} {t:Int}
theorem nW:bW r s w (setAt a t)=bW r s w a:=by rw [fP,fP];rfl
theorem yS:cX s w (setAt a t)=cX s w a:=by rw [jd,jd];rfl
theorem AN:bX s w (setAt a t)=bX s w a:=by rw [eV,eV];rfl
theorem pR (h:AB r w a):AB r w (setAt a t):=⟨h.aQ,h.wl,h.hand,h.kind,h.take,h.sA,h.step,h.form⟩
theorem tZ {ai:List ak}:bW {r with ai:=ai} s w a=bW r s w a:=by rw [fP,fP]
end
theorem ng {r:aC}{n w:Nat}{a:ak}(hn:r.wide*r.deep=n)(hw:w<r.ah.length)(h:a∈bQ n r.aa.length r.ah.length w):AB r w a∧a.bc=0∧a.cY=0∧a.jV=0:=by
 have one: ∀(hand kind:Nat),(hand=0∨hand=1)→2≤kind→kind≤8→a∈iA r.aa.length r.ah.length w kind hand→AB r w a∧a.bc=0∧a.cY=0∧a.jV=0:=fun hand kind hh k2 k8 ha=>by
  have hh':(hand:Int)=0∨(hand:Int)=1:=(by omega);unfold iA at ha;split at ha
  ·simp only [iB,List.mem_map,List.mem_range']at ha;obtain⟨x,⟨i,hi,rfl⟩,rfl⟩:=ha;exact⟨⟨rfl,hw,hh',⟨by simp [b7],by simp [b7]⟩,fun _=>⟨_,rfl,by omega⟩,fun h=>by simp [b7]at h,fun h=>by simp [b7]at h,by simp [mU,b7]⟩,rfl,rfl,rfl⟩
  ·split at ha
   ·simp only [gO,List.mem_map,List.mem_filter,List.mem_range']at ha;obtain⟨x,⟨⟨i,hi,rfl⟩,hne⟩,rfl⟩:=ha;refine⟨⟨rfl,hw,hh',⟨by simp [b7],by simp [b7]⟩,fun h=>by simp [b7]at h,fun _=>⟨_,rfl,by omega,fun e=> ?_⟩,fun h=>by simp [b7]at h,by simp [mU,b7]⟩,rfl,rfl,rfl⟩;rw [e]at hne;simp at hne
   ·rename_i n2 n4;simp only [List.mem_singleton]at ha;subst ha;have m1: ¬(kind:Int)=1:=(by omega);have m2: ¬(kind:Int)=2:=(by omega);have m4: ¬(kind:Int)=4:=(by omega);exact⟨⟨rfl,hw,hh',⟨by simp only [b7];omega,by simp only [b7];omega⟩,fun h=>absurd h m2,fun h=>absurd h m4,fun h=>absurd h m1,by simp [mU,b7,m1,m2,m4]⟩,rfl,rfl,rfl⟩
 unfold bQ at h;rcases List.mem_append.1 h with h|h
 ·simp only [ik,List.mem_map,List.mem_range']at h;obtain⟨x,⟨i,hi,rfl⟩,rfl⟩:=h;refine⟨⟨rfl,hw, .inl rfl,⟨by simp [b7],by simp [b7]⟩,fun h=>by simp [b7]at h,fun h=>by simp [b7]at h,fun _=>⟨?_, ?_⟩,by simp [mU,b7]⟩,rfl,rfl,rfl⟩
  ·simp only [b7];omega
  ·simp only [b7];omega
 ·simp only [fX,List.mem_flatMap,List.mem_range',oJ,List.mem_append]at h;obtain⟨k,⟨i,hi,rfl⟩,h⟩:=h;rcases h with h|h
  ·exact one 0 _ (.inl rfl) (by omega) (by omega) h
  ·exact one 1 _ (.inr rfl) (by omega) (by omega) h
end
section
theorem Ic {L k:Nat}(hk:gN k=true):((L,6):Nm)≠(L,k)∧((L,7):Nm)≠(L,k)∧((L,8):Nm)≠(L,k):=by
 have ne: ∀j,gN j=false→((L,j):Nm)≠(L,k):=fun j hj e=>by
  have:=(Prod.mk.inj e).2;subst this;rw [hj]at hk;cases hk
 exact⟨ne 6 (by decide),ne 7 (by decide),ne 8 (by decide)⟩
def fY (nm:Nm)(L:Nat)(t:Int)(i:Int):bd:=[(0, .aA nm 0),(6, .aA (L,6) 0),(7, .aA (L,7) 0),(8, .aA (L,8) 0),(9, .pure (.int .i64 t)),(10, .pure (.int .i64 i))]
theorem xA {nm:Nm}{L:Nat}{t i:Int}(h:nm.1<L)(k:Nat)(hk:gN k=true):jF (L,k) (fY nm L t i)=true:=by
 obtain⟨a,b,c⟩:=Ic (L:=L) hk;have d:nm≠(L,k):=fun e=>(by rw [e]at h;simp at h);simp only [fY,jF,fb,decide_eq_true a,decide_eq_true b,decide_eq_true c,decide_eq_true d];rfl
structure EN (L:Nat)(r0:aC)(m:Nat)(T:Int)(F:Fr)(ai:List ak)(s:az)(q:Nat)(t:Int):Prop where
 fi:FI L F r0 ai s q
 q2:q≤2
 md:Made r0 ai s t
 ml:ai.length≤m
 tT:t≤T
variable {H:aj}
theorem EO {nm:Nm} (hlt:nm.1<H.length) (r0:aC) (n:Nat) (hb:RB r0 n) (k:Nat) (hk:k≤1000) (m:Nat) (T:Int) (F:Fr) (ai:List ak) (s:az) (q:Nat) (t:Int) (wd:Int) (hR:EN H.length r0 m T F ai s q t) (Q:GX→bN→Prop)
  (w:Nat) (wd1 wd2:Int) (a:ak) (e1:lT wd r0.ah.length=((w:Int),wd1)) (hw:w<r0.ah.length) (e2:gJ (jS r0 ai) s w (bQ n r0.aa.length r0.ah.length w) wd1=((a,false),wd2))
  (ih: ∀F' wd',EN H.length r0 m T F' ai s q t→vo KC au 11 (lp Tryz.f11 0) [0,6,7,8,9,10] [6,7,8,9] Q (fY nm H.length t k) (F'::H.set nm (bG wd')) 174):
  vo KC au 11 (lp Tryz.f11 0) [0,6,7,8,9,10] [6,7,8,9] Q (fY nm H.length t ((k+1:Nat):Int)) (F::H.set nm (bG wd)) 174:=by
 have hne: ¬nm.1=H.length:=(by omega);have hne2: ¬nm.1=H.length+1:=(by omega);have hne3: ¬nm.1=H.length+1+1:=(by omega);have hle:nm.1≤H.length:=(by omega);have hB:=fun w f0 f1=>DJ hlt w f0 f1;have hW:=fun w f0 f1=>wz hlt w f0 f1;have g7:=hR.fi.g7;have g8:=hR.fi.g8;have M:=fun f0 c=>xz (f0:=f0) (c:=c) hlt hb hR.fi.toFB hR.fi.sc hR.md.snd.toHe w hw wd1;rw [e2]at M;have hk1:(0:Int)<(k:Int)+1:=(by omega);have hw1:=cU (x:=(k:Int)) (by omega) (by omega);have hkk:((k:Int)+1-1)=k:=(by omega);have pl:=hb.pl;have hpl:((r0.ah.length:Int))≤9223372036854775807:=(by omega);simp only [gW,dX]at g7 g8;simp only [sY,kK,ak.row]at M;have hl: ∀w,(H.set nm (bG w)).length=H.length:=fun w=>aj.length_set _ _ _;apply tI;conv=>arg 4;whnf
 simp [fY,hk1,hl,kJ,hB,hW,hlt,hne,hne2,aj.dR,hle,g7,g8,e1,hpl,M,hkk,hw1];obtain⟨F',eg,hF⟩:=FI.same (H:=H.set nm (bG wd2)) (nt:=174) (sl:=fY nm H.length t k) hR.q2 (by rw [hl];omega) (by rw [hl];exact hR.fi) (fun j hj=>by rw [hl];exact xA hlt j hj);rw [hl]at hF;simp only [fY]at eg;rw [eg,gS];exact ih F' wd2 ⟨hF,hR.q2,hR.md,hR.ml,hR.tT⟩
section
variable {F:Fr} {r0:aC} {ai:List ak} {s t:az} {q:Nat} {H0:aj}
theorem Yj (hl:H0.length=H.length)(hq:q≤2)(h:FI H.length F r0 ai s q)(hS:He r0 s){n:Nat}(hb:RB r0 n)(a:ak):
  ∃F1 z,FM H.length F1 r0 ai s q s∧aL KC (aG KC) 50 [KB H.length q s] 54 ([(12,bR a)]::F::H0)=some z∧
   si ([(12,bR a)]::F::H0) (.aA (H.length,8) 0) z=some (KB H.length (kH q) s,[(12,bR a)]::F1::H0):=by
 have e:=Yi hl hq h hS hb.p0 hb.t0 (by have:=hb.pl;omega) (by have:=hb.tl;omega) a
 cases hg:aL KC (aG KC) 50 [KB H.length q s] 54 ([(12,bR a)]::F::H0)with
 |none=>rw [hg]at e;cases e
 |some z=>
  rw [hg]at e;exact⟨_,z,h.own hq,rfl,e⟩
theorem T6 (hl:H0.length=H.length)(hq:q≤2)(h:FM H.length F r0 ai s q t){w:Nat}{a:ak}(hb:DS t w a)(hhl:t.aq.length≤1000000)(f0:Fr)(c:Nat):
  ∃F2,FM H.length F2 r0 ai s q (cX t w a)∧aL KC (aG KC) 51 [KB H.length (kH q) t, .pure (.agg a.row)] c (f0::F::H0)=some (.pure (.tuple []),f0::F2::H0):=by
 have hp:=ue q;obtain⟨n1,n2,n3,_⟩:=qq (kH q) hp.2;obtain⟨v1,v2,v3,a1,a2,a3,e⟩:=T4 (c:=c) (f0:=f0) hl h.gU h.nx n1 n2 n3 hb hhl;have L:=ig (s:=t) (w:=w) hb.kind;exact⟨_,h.TY hq (by omega) (by omega) (by omega),e⟩
theorem KF (hl:H0.length=H.length)(hq:q≤2)(h:FM H.length F r0 ai s q t)(a:ak)(hn:ai.length≤1000000):
  ∃F2 F3,FM H.length F3 r0 (ai++[a]) s q t∧(∀(f0:Fr) (ka:Nat),(ai=[]→ka=62)→xR H.length ka (cH (H.length,62) 9 (ai.map ak.row)) 9 72 [a.row] (f0::F::H0)=some (cH (H.length,62) 9 ((ai++[a]).map ak.row),f0::F2::H0))∧
   F2.get 7=some (gW H.length r0 ai)∧F2.ins 7 (gW H.length r0 (ai++[a]))=F3:=by
 have ne: ¬H.length=H.length+1:=(by omega);refine⟨F.ins 62 (.arr 9 ((ai++[a]).map ak.row) 0 false),_,h.app hq (acts':=ai++[a]) (by simp),fun f0 ka hka=> ?_, ?_,rfl⟩
 ·have ek:xR H.length ka (cH (H.length,62) 9 (ai.map ak.row)) 9 72 [a.row] (f0::F::H0)=xR H.length 62 (cH (H.length,62) 9 (ai.map ak.row)) 9 72 [a.row] (f0::F::H0):=by
   by_cases e:ai=[]
   ·rw [hka e]
   ·unfold cH;rw [if_neg (by simpa using e)];rfl
  rw [ek,pZ (fun hr=> ?_) (fun hr=> ?_) (by simp [hl];omega) (by simp;omega)]
  ·simp [hl,ne]
  ·have:ai=[]:=(by simpa using hr);simp [hl,ne,h.Qa this]
  ·have:ai≠[]:=(by intro e;subst e;exact hr rfl);simp [hl,ne,h.ga this]
 ·rw [Fr.aw _ (by decide)];exact h.g7
end
end
section
variable {H:aj}
theorem AO (wd:Int): ∃(p wd':Int),yp wd [1,1,2]=(p,wd')∧1≤p∧p≤2:=by
 have h:=kO wd 3 (by omega);obtain⟨y,hy⟩: ∃y,lT wd 3=y:=⟨_,rfl⟩;rw [hy]at h;have e:yp wd [1,1,2]=(List.getD [1,1,2] y.1.toNat 0,y.2):=by
  rw [tC,if_neg (by simp)];show (List.getD [1,1,2] (lT wd 3).1.toNat 0,(lT wd 3).2)=_
  rw [hy]
 refine⟨_,_,e, ?_⟩;have:y.1.toNat=0∨y.1.toNat=1∨y.1.toNat=2:=(by omega);rcases this with e|e|e<;>rw [e]<;>decide
theorem nh {nm:Nm} (hlt:nm.1<H.length) (r0:aC) (k m:Nat) (T:Int) (F:Fr) (ai:List ak) (s:az) (q:Nat) (t:Int) (hR:EN H.length r0 m T F ai s q t) (Q:GX→bN→Prop)
  (ih: ∀F' acts' s' q' t' wd',EN H.length r0 (m+2) (T+2) F' acts' s' q' t'→vo KC au 11 (lp Tryz.f11 0) [0,6,7,8,9,10] [6,7,8,9] Q (fY nm H.length t' k) (F'::H.set nm (bG wd')) 174)
  (F4:Fr) (acts':List ak) (t2:az) (p wd':Int) (fm:FM H.length F4 r0 acts' s q t2) (h1:t2.ah.length=s.ah.length∧t2.aq.length=s.aq.length∧t2.aa.length=s.aa.length)
  (hM:Made r0 acts' t2 (t+p)) (hp:p≤2) (hl':acts'.length≤m+2):
  kW (qW ⟨[(0,GV.aA nm 0),(6,GV.aA (H.length,6) 0),(7,GV.aA (H.length,7) 0),(8,GV.aA (H.length,8) 0),(9,GV.pure (PV.int IntKind.i64 (t+p))),(10,GV.pure (PV.int IntKind.i64 (k:Int)))],
    Fr.ins 8 (dF.box [GV.aZ (H.length,fS (kH q)) 1 s.ah.length 0 s.ah.length,GV.aZ (H.length,dw (kH q)) 2 s.aq.length 0 s.aq.length,GV.aZ (H.length,fC (kH q)) 2 s.aa.length 0 s.aa.length]) F4::H.set nm (bG wd'),174⟩)
   fun st=>vo KC au 11 (lp Tryz.f11 0) [0,6,7,8,9,10] [6,7,8,9] Q st.s st.h st.nt:=by
 have hl: ∀w,(H.set nm (bG w)).length=H.length:=fun w=>aj.length_set _ _ _;obtain⟨F',eg,hF⟩:=FM.fin (H:=H.set nm (bG wd')) (nt:=174) (sl:=fY nm H.length (t+p) k) (by rw [hl];omega) (by rw [hl];exact fm) (fun j hj=>by rw [hl];exact xA hlt j hj);rw [hl]at hF;simp only [fY,dX,h1,hl]at eg;rw [eg,gS];have tT:=hR.tT;exact ih F' acts' t2 (kH q) (t+p) wd' ⟨hF,(ue q).2,hM,hl',by omega⟩
theorem EP {nm:Nm} (hlt:nm.1<H.length) (r0:aC) (n:Nat) (hb:RB r0 n) (hn:r0.wide*r0.deep=n) (k:Nat) (hk:k≤1000) (m:Nat) (hm:m≤10000) (T:Int) (hT:T≤1000000) (F:Fr) (ai:List ak) (s:az) (q:Nat) (t:Int) (wd:Int) (hR:EN H.length r0 m T F ai s q t) (Q:GX→bN→Prop)
  (w:Nat) (wd1 wd2:Int) (a:ak) (e1:lT wd r0.ah.length=((w:Int),wd1)) (hw:w<r0.ah.length) (e2:gJ (jS r0 ai) s w (bQ n r0.aa.length r0.ah.length w) wd1=((a,true),wd2))
  (hA:AB r0 w a) (pa:bW r0 s w a=true) (za:a.cY=0∧a.jV=0)
  (o:Nat) (wd3 wd4:Int) (x:ak) (bx:Bool) (e3:lT wd2 r0.ah.length=((o:Int),wd3)) (ho:o<r0.ah.length) (e4:gJ (jS r0 (ai++[setAt a t])) s o (bQ n r0.aa.length r0.ah.length o) wd3=((x,bx),wd4))
  (hX:bx=true→AB r0 o x∧bW r0 s o x=true∧x.cY=0∧x.jV=0)
  (ih: ∀F' acts' s' q' t' wd',EN H.length r0 (m+2) (T+2) F' acts' s' q' t'→vo KC au 11 (lp Tryz.f11 0) [0,6,7,8,9,10] [6,7,8,9] Q (fY nm H.length t' k) (F'::H.set nm (bG wd')) 174):
  vo KC au 11 (lp Tryz.f11 0) [0,6,7,8,9,10] [6,7,8,9] Q (fY nm H.length t ((k+1:Nat):Int)) (F::H.set nm (bG wd)) 174:=by
 have hne: ¬nm.1=H.length:=(by omega);have hne2: ¬nm.1=H.length+1:=(by omega);have hne3: ¬nm.1=H.length+1+1:=(by omega);have hle:nm.1≤H.length:=(by omega);have hl: ∀w,(H.set nm (bG w)).length=H.length:=fun w=>aj.length_set _ _ _;have hB:=fun w f0 f1=>DJ hlt w f0 f1;have hW:=fun w f0 f1=>wz hlt w f0 f1;have g7:=hR.fi.g7;have g8:=hR.fi.g8;have hS:=hR.md.snd;have M:=fun f0 c=>xz (f0:=f0) (c:=c) hlt hb hR.fi.toFB hR.fi.sc hS.toHe w hw wd1;rw [e2]at M;have hk1:(0:Int)<(k:Int)+1:=(by omega);have hw1:=cU (x:=(k:Int)) (by omega) (by omega);have hkk:((k:Int)+1-1)=k:=(by omega);have pl:=hb.pl;have tl:=hb.tl;have ml:=hR.ml;have hpl:((r0.ah.length:Int))≤9223372036854775807:=(by omega);have t0:=hR.md.t0;have tT:=hR.tT;have hA':AB r0 w (setAt a t):=pR hA;have pa':bW r0 s w (setAt a t)=true:=nW.trans pa;have eh:=hS.hl;obtain⟨F1,z,fm1,ow1,ow2⟩:=Yj (H0:=H.set nm (bG wd2)) (hl _) hR.q2 hR.fi hS.toHe hb (setAt a t);obtain⟨F2,fm2,dd⟩:=T6 (H0:=H.set nm (bG wd2)) (hl _) hR.q2 fm1 (lH hS hA' pa') (by omega) [(12,bR (setAt a t)),(14, .box [.aZ (H.length,fS (kH q)) 1 s.ah.length 0 s.ah.length, .aZ (H.length,dw (kH q)) 2 s.aq.length 0 s.aq.length, .aZ (H.length,fC (kH q)) 2 s.aa.length 0 s.aa.length])] 57;obtain⟨F3,F4,fm4,ap1,f37,f34⟩:=KF (H0:=H.set nm (bG wd2)) (hl _) hR.q2 fm2 (setAt a t) (by omega);have g71:=fm1.g7;have g81:=fm1.g8;have g72:=fm2.g7;have g82:=fm2.g8;have g74:=fm4.g7;have g84:=fm4.g8;have M2:=fun f0 c=>xz (f0:=f0) (c:=c) hlt hb fm4.toFB fm4.sc hS.toHe o ho wd3;rw [e4]at M2;have LD:=ig (s:=s) (w:=w) hA'.kind;have ewho:(setAt a t).aQ.toNat=w:=(by rw [hA'.aQ];simp);have hM1: ∀p:Int,1≤p→Made r0 (ai++[setAt a t]) (cX s w (setAt a t)) (t+p):=fun p hp=>by
  have:=hR.md.grp (g:=[setAt a t]) (t':=t+p) ⟨fun b hb'=>by simp only [List.mem_singleton]at hb';subst hb';rw [ewho];exact⟨hA',pa'⟩,List.pairwise_singleton ..⟩ (by simp) (fun b hb'=>by simp only [List.mem_singleton]at hb';subst hb';exact⟨rfl,za⟩) (by omega)
  rwa [sD,ewho,Ak]at this
 simp only [gW,dX]at g7 g8 g71 g81 g72 g82 f37 f34 g74 g84;have LD':=LD;have ap1:=fun f0=>ap1 f0 62 (fun _=>rfl);simp only [sY,kK,KB,ak.row,setAt,bR,List.map_append,List.map_cons,List.map_nil]at LD' M M2 ow1 ow2 dd ap1 f37 f34 g74;have P:=fun(f0:Fr) (w:Int) (c:Nat)=>Fi (c:=c) (l:=[1,1,2]) (hB w f0 F4) (by simp);simp only [aE,List.map_cons,List.map_nil,hW]at P;apply tI;conv=>arg 4;whnf
 cases bx with
 |false=>
  obtain⟨p,wd6,e6,p1,p2⟩:=AO wd4;have hwp:=cU (x:=t+p) (by omega) (by omega);simp [fY,hk1,hl,kJ,hB,hW,hlt,hne,hne2,aj.dR,hle,g7,g8,e1,hpl,M,hkk,hw1,ow1,ow2,g71,g81,dd,g72,g82,ap1,f37,f34,g74,g84,e3,M2,P,e6,hwp];exact nh hlt r0 k m T F ai s q t hR Q ih F4 _ _ p wd6 fm4 LD (hM1 p p1) p2 (by simp;omega)
 |true=>
  obtain⟨hX1,px,zx⟩:=hX rfl;by_cases how:o=w
  ·obtain⟨p,wd6,e6,p1,p2⟩:=AO wd4;have hwp:=cU (x:=t+p) (by omega) (by omega);subst how;simp [fY,hk1,hl,kJ,hB,hW,hlt,hne,hne2,aj.dR,hle,g7,g8,e1,hpl,M,hkk,hw1,ow1,ow2,g71,g81,dd,g72,g82,ap1,f37,f34,g74,g84,e3,M2,P,e6,hwp];exact nh hlt r0 k m T F ai s q t hR Q ih F4 _ _ p wd6 fm4 LD (hM1 p p1) p2 (by simp;omega)
  ·have how':((o:Int)==(w:Int))=false:=(by simp;omega);have how2:((o:Int) !=(w:Int))=true:=(by simp;omega);obtain⟨wd5,e5⟩: ∃y,zG wd4 2=y:=⟨_,rfl⟩;obtain⟨b1,wd5⟩:=wd5;obtain⟨p,wd6,e6,p1,p2⟩:=AO wd5;have hwp:=cU (x:=t+p) (by omega) (by omega)
   cases b1 with
   |false=>
    simp [fY,hk1,hl,kJ,nA,hB,hW,hlt,hne,hne2,aj.dR,hle,g7,g8,e1,hpl,M,hkk,hw1,ow1,ow2,g71,g81,dd,g72,g82,ap1,f37,f34,g74,g84,e3,M2,P,e6,hwp,how',how2,e5];exact nh hlt r0 k m T F ai s q t hR Q ih F4 _ _ p wd6 fm4 LD (hM1 p p1) p2 (by simp;omega)
   |true=>
    have AP:=fun(f0:Fr) (c:Nat)=>KD (c:=c) (f0:=f0) (H0:=H.set nm (bG wd5)) (hl _) fm4.sc hS.toHe (a:=setAt a t) (b:=x) hw ho hA'.aQ hA'.hand hX1.aQ hX1.hand
    cases hap:rj s w (setAt a t) o x with
    |false=>
     rw [hap]at AP;simp only [kK,ak.row,setAt]at AP;simp [fY,hk1,hl,kJ,nA,hB,hW,hlt,hne,hne2,aj.dR,hle,g7,g8,e1,hpl,M,hkk,hw1,ow1,ow2,g71,g81,dd,g72,g82,ap1,f37,f34,g74,g84,e3,M2,P,e6,hwp,how',how2,e5,AP];exact nh hlt r0 k m T F ai s q t hR Q ih F4 _ _ p wd6 fm4 LD (hM1 p p1) p2 (by simp;omega)
    |true=>
     rw [hap]at AP;have hap':=Hl.1 hap;have hX':AB r0 o (setAt x t):=pR hX1;have px':bW r0 s o (setAt x t)=true:=nW.trans px;have hap2:LG (bX s w (setAt a t)) (bX s o (setAt x t)):=(by rw [AN (a:=x)];exact hap');have one:=yM hS hA' hX' pa' px' hap2;have S1:=hS.TY hA' pa';have e1h:=S1.hl;obtain⟨F5,fm5,dd5⟩:=T6 (H0:=H.set nm (bG wd5)) (hl _) hR.q2 fm4 (lH S1 hX' one.2.1) (by omega) [(12,bR (setAt a t)),(14, .box [.aZ (H.length,fS (kH q)) 1 s.ah.length 0 s.ah.length, .aZ (H.length,dw (kH q)) 2 s.aq.length 0 s.aq.length, .aZ (H.length,fC (kH q)) 2 s.aa.length 0 s.aa.length]),(16,bR (setAt x t))] 97;obtain⟨F6,F7,fm7,ap5,f67,f76⟩:=KF (H0:=H.set nm (bG wd5)) (hl _) hR.q2 fm5 (setAt x t) (by simp;omega);have g75:=fm5.g7;have g85:=fm5.g8;have g77:=fm7.g7;have g87:=fm7.g8;have L2:=ig (s:=cX s w (setAt a t)) (w:=o) hX'.kind;have P5:=fun(f0:Fr) (w:Int) (c:Nat)=>Fi (c:=c) (l:=[1,1,2]) (hB w f0 F7) (by simp);have ewho2:(setAt x t).aQ.toNat=o:=(by rw [hX'.aQ];simp);have hM2:Made r0 (ai++[setAt a t,setAt x t]) (cX (cX s w (setAt a t)) o (setAt x t)) (t+p):=by
      have:=hR.md.grp (g:=[setAt a t,setAt x t]) (t':=t+p) ⟨fun b hb'=>by
       simp only [List.mem_cons,List.not_mem_nil,or_false]at hb';rcases hb' with rfl|rfl
       ·rw [ewho];exact⟨hA',pa'⟩
       ·rw [ewho2];exact⟨hX',px'⟩,by
        rw [List.pairwise_cons];refine⟨fun b hb'=> ?_,List.pairwise_singleton ..⟩;simp only [List.mem_singleton]at hb';subst hb';unfold tch;rw [ewho,ewho2];exact hap2⟩ (by simp) (fun b hb'=>by
       simp only [List.mem_cons,List.not_mem_nil,or_false]at hb';rcases hb' with rfl|rfl
       ·exact⟨rfl,za⟩
       ·exact⟨rfl,zx⟩) (by omega)
      rwa [sD,ewho,sD,ewho2,Ak]at this
     have ap5:=fun f0=>ap5 f0 102 (fun e=>by simp at e);simp only [gW,dX]at g75 g85 g77 g87 f67 f76;simp only [kK,KB,ak.row,setAt,bR,List.map_append,List.map_cons,List.map_nil,LD',List.append_assoc,List.cons_append,List.nil_append]at AP dd5 ap5 f67 f76 g75 g77;simp only [aE,List.map_cons,List.map_nil,hW]at P5;simp [fY,hk1,hl,kJ,nA,hB,hW,hlt,hne,hne2,aj.dR,hle,g7,g8,e1,hpl,M,hkk,hw1,ow1,ow2,g71,g81,dd,g72,g82,ap1,f37,f34,g74,g84,e3,M2,P,e6,hwp,how',how2,e5,AP,dd5,g75,g85,ap5,f67,f76,g77,g87,P5];exact nh hlt r0 k m T F ai s q t hR Q ih F7 _ _ p wd6 fm7 (by omega) (by rw [List.append_assoc];exact hM2) p2 (by simp;omega)
end
section
variable {H:aj}
theorem u0 {r:aC}{s:az}{w:Nat}{all:List ak}{wd wd':Int}{a:ak}(hl:all.length≤1000000)(h:gJ r s w all wd=((a,true),wd')):a∈all∧bW r s w a=true:=by
 rw [xB]at h;have hlen:=rP r s w all;split at h
 ·cases h
 ·rename_i hne;have h0:0<(fD r s w all).length:=List.length_pos_iff.2 hne;have hr:=kO wd (fD r s w all).length (by omega);generalize lT wd (fD r s w all).length=y at h hr;have hi:y.1.toNat<(fD r s w all).length:=(by omega);have e:=(Prod.mk.inj (Prod.mk.inj h).1).1;rw [bf hi]at e;exact ES (e▸List.getElem_mem hi)
theorem Ie {nm:Nm}(hlt:nm.1<H.length)(r0:aC)(n:Nat)(hb:RB r0 n)(hn:r0.wide*r0.deep=n)(Q:GX→bN→Prop): ∀(k:Nat) (m:Nat) (T:Int) (F:Fr) (ai:List ak) (s:az) (q:Nat) (t:Int) (wd:Int),k≤1000→m+2*k≤10000→T+2*k≤100000→EN H.length r0 m T F ai s q t→
  (∀F' acts' s' q' t' wd',EN H.length r0 (m+2*k) (T+2*k) F' acts' s' q' t'→Q (.exit 0) ⟨[(6, .aA (H.length,6) 0),(7, .aA (H.length,7) 0),(8, .aA (H.length,8) 0),(9, .pure (.int .i64 t'))],F'::H.set nm (bG wd'),174⟩)→
  vo KC au 11 (lp Tryz.f11 0) [0,6,7,8,9,10] [6,7,8,9] Q (fY nm H.length t (k:Int)) (F::H.set nm (bG wd)) 174:=by
 have hl: ∀w,(H.set nm (bG w)).length=H.length:=fun w=>aj.length_set _ _ _;intro k
 induction k with
 |zero=>
  intro m T F ai s q t wd _ _ _ hR hq;apply tI;conv=>arg 4;whnf
  simp [fY,hl];exact hq F ai s q t wd (by simpa using hR)
 |succ k ih=>
  intro m T F ai s q t wd hk hm hT hR hq;have pl:=hb.pl;have tl:=hb.tl;have n9:=hb.n9;have p0:0<r0.ah.length:=List.length_pos_iff.2 hb.p0;obtain⟨w,wd1,e1,hw⟩:=qh wd r0.ah.length (by omega) (by omega);have hw':w<r0.ah.length:=(by omega);have el:=fun w:Nat=>rQ n r0.aa.length r0.ah.length (w:Int);have el': ∀w:Nat,(bQ n r0.aa.length r0.ah.length (w:Int)).length≤1000000:=fun w=>(by have:=el w;omega);have again: ∀(m':Nat) (T':Int),m'≤m+2→T'≤T+2→ ∀F' acts' s' q' t' wd',EN H.length r0 m' T' F' acts' s' q' t'→vo KC au 11 (lp Tryz.f11 0) [0,6,7,8,9,10] [6,7,8,9] Q (fY nm H.length t' k) (F'::H.set nm (bG wd')) 174:=fun m' T' hm' hT' F' acts' s' q' t' wd' hR'=>by
   refine ih m' T' F' acts' s' q' t' wd' (by omega) (by omega) (by omega) hR' fun F2 acts2 s2 q2 t2 wd2 hR2=>hq F2 acts2 s2 q2 t2 wd2 ?_;have a:=hR2.ml;have b:=hR2.tT;exact⟨hR2.fi,hR2.q2,hR2.md,by omega,by omega⟩
  obtain⟨y,e2⟩: ∃y,gJ (jS r0 ai) s w (bQ n r0.aa.length r0.ah.length w) wd1=y:=⟨_,rfl⟩;obtain⟨⟨a,b⟩,wd2⟩:=y
  cases b with
  |false=>exact EO hlt r0 n hb k (by omega) m T F ai s q t wd hR Q w wd1 wd2 a e1 hw' e2 (fun F' wd' h=>again m T (by omega) (by omega) F' ai s q t wd' h)
  |true=>
   obtain⟨ha,pa⟩:=u0 (el' w) e2;obtain⟨hA,_,za⟩:=ng hn hw' ha;rw [show jS r0 ai={r0 with ai:=ai}from rfl,tZ]at pa
   obtain⟨o,wd3,e3,ho⟩:=qh wd2 r0.ah.length (by omega) (by omega);have ho':o<r0.ah.length:=(by omega);obtain⟨y,e4⟩: ∃y,gJ (jS r0 (ai++[setAt a t])) s o (bQ n r0.aa.length r0.ah.length o) wd3=y:=⟨_,rfl⟩;obtain⟨⟨x,bx⟩,wd4⟩:=y;refine EP hlt r0 n hb hn k (by omega) m (by omega) T (by omega) F ai s q t wd hR Q w wd1 wd2 a e1 hw' e2 hA pa za o wd3 wd4 x bx e3 ho' e4 (fun hbx=> ?_) (again (m+2) (T+2) (by omega) (by omega));subst hbx;obtain⟨hx,px⟩:=u0 (el' o) e4;obtain⟨hX,_,zx⟩:=ng hn ho' hx;rw [show jS r0 (ai++[setAt a t])={r0 with ai:=ai++[setAt a t]}from rfl,tZ]at px
   exact⟨hX,px,zx⟩
end
section
variable {H:aj}
section
variable {F f0 f1:Fr} {r0:aC} {ai:List ak} {s:az} {q L:Nat}
theorem FI.doS (hq:q≤2)(h:FI L F r0 ai s q){t':az}{v1 v2 v3:Nat}(h1:v1≤t'.ah.length)(h2:v2≤t'.aq.length)(h3:v3≤t'.aa.length)(hl:t'.ah.length=s.ah.length∧t'.aq.length=s.aq.length∧t'.aa.length=s.aa.length):FI L (rO F q v1 v2 v3 t') r0 ai t' q:=by
 have e:dX L q t'=dX L q s:=(by simp only [dX,hl]);have b:=AL h.toFB q hq v1 v2 v3 t';rw [←e]at b
 exact {b with
  sc:=AK F q hq t' h1 h2 h3
  EK:=fun k hk hg=>by
   by_cases h1:k=fS q
   ·exact .inl h1
   by_cases h2:k=dw q
   ·exact .inr (.inl h2)
   by_cases h3:k=fC q
   ·exact .inr (.inr h3)
   rw [jK _ _ _ _ _ _ h1 h2 h3]at hg;exact h.EK k hk hg}
theorem FI.app (hq:q≤2)(h:FI L F r0 ai s q){acts':List ak}(hne:acts'≠[]):FI L (AM L F r0 acts') r0 acts' s q:=by
 obtain⟨a,b,c⟩:=lO q hq;have one: ∀k,(∀j∈fixed,j≠k)→(AM L F r0 acts').get k=F.get k:=fun k hk=>jL _ _ _ _ (hk 62 (by decide)).symm (hk 7 (by decide)).symm
 exact {F8 h.toFB hne with
  sc:=h.sc.other (one _ a) (one _ b) (one _ c)
  EK:=fun k hk hg=>by
   have h1:k≠62:=fun e=>(by subst e;cases hk);have h2:k≠7:=fun e=>(by subst e;cases hk);rw [jL _ _ _ _ h1 h2]at hg;exact h.EK k hk hg}
theorem Yk (hq:q≤2)(h:FI H.length F r0 ai s q){w:Nat}{a:ak}(hb:DS s w a)(hhl:s.aq.length≤1000000)(f0 f1:Fr)(c:Nat):
  ∃F2,FI H.length F2 r0 ai (cX s w a) q∧aL KC (aG KC) 51 [KB H.length q s, .pure (.agg a.row)] c (f0::f1::F::H)=some (.pure (.tuple []),f0::f1::F2::H):=by
 obtain⟨jP,kL,jZ,_⟩:=qq q hq;have ne: ¬H.length=H.length+1:=(by omega);have ne2: ¬H.length=H.length+1+1:=(by omega);have g: ∀k,aj.get (f0::f1::F::H) (H.length,k)=F.get k:=fun k=>(by simp [ne]);have st: ∀k b,F.get k=some b→aj.set (f0::f1::F::H) (H.length,k) b=f0::f1::F::H:=fun k b hb=>(by simp [ne,Fr.pQ h.gU hb]);have nn: ∀a b:Nat,a≠b→((H.length,a):Nm)≠(H.length,b):=fun a b h e=>h (Prod.mk.inj e).2;obtain⟨⟨u1,a1,b1⟩,⟨u2,a2,b2⟩,⟨u3,a3,b3⟩⟩:=h.sc;have S:lI (f0::f1::F::H) (H.length,fS q) (H.length,dw q) (H.length,fC q) u1 u2 u3 s:={jP:=nn _ _ jP,kL:=nn _ _ kL,jZ:=nn _ _ jZ,g1:=(g _).trans b1,g2:=(g _).trans b2,g3:=(g _).trans b3,e1:=a1,e2:=a2,e3:=a3,s1:=st _ _ b1,s2:=st _ _ b2,s3:=st _ _ b3};obtain⟨v1,v2,v3,c1,c2,c3,e⟩:=KE (c:=c) S hb hhl (by simp);have LD:=ig (s:=s) (w:=w) hb.kind;refine⟨rO F q v1 v2 v3 (cX s w a),h.doS hq (by omega) (by omega) (by omega) LD,e.trans ?_⟩;simp [cn,rO,ne]
theorem Qb (hq:q≤2)(h:FI H.length F r0 ai s q)(a:ak)(hn:ai.length≤1000000)(h0:ai≠[])(f0 f1:Fr)(ka:Nat):
  ∃F2 F3,FI H.length F3 r0 (ai++[a]) s q∧xR H.length ka (cH (H.length,62) 9 (ai.map ak.row)) 9 72 [a.row] (f0::f1::F::H)=some (cH (H.length,62) 9 ((ai++[a]).map ak.row),f0::f1::F2::H)∧
   F2.get 7=some (gW H.length r0 ai)∧F2.ins 7 (gW H.length r0 (ai++[a]))=F3:=by
 have ne: ¬H.length=H.length+1:=(by omega);refine⟨F.ins 62 (.arr 9 ((ai++[a]).map ak.row) 0 false),_,h.app hq (acts':=ai++[a]) (by simp), ?_, ?_,rfl⟩
 ·have ek:xR H.length ka (cH (H.length,62) 9 (ai.map ak.row)) 9 72 [a.row] (f0::f1::F::H)=xR H.length 62 (cH (H.length,62) 9 (ai.map ak.row)) 9 72 [a.row] (f0::f1::F::H):=by
   unfold cH;rw [if_neg (by simpa using h0)];rfl
  rw [ek,pZ (fun hr=>absurd (by simpa using hr) h0) (fun hr=>by simp [ne,h.ga h0]) (by simp;omega) (by simp;omega)];simp [ne]
 ·rw [Fr.aw _ (by decide)];exact h.g7
end
def ni (t:Int)(w:Nat)(hd:Int):ak:=⟨t,w,3,hd,0,0,0,0,0⟩
theorem F9 {r:aC}{t hd:Int}{w:Nat}(hw:w<r.ah.length)(hh:hd=0∨hd=1):AB r w (ni t w hd):=
 ⟨rfl,hw,hh,⟨by simp [ni],by simp [ni]⟩,fun h=>by simp [ni]at h,fun h=>by simp [ni]at h,fun h=>by simp [ni]at h,by simp [mU,ni]⟩
theorem KG {r0:aC}{ai:List ak}{s:az}{t hd:Int}{w:Nat}(h:Made r0 ai s t)(hw:w<r0.ah.length)(hh:hd=0∨hd=1)(h0:0≤aX s.aq w hd):
  bW r0 s w (ni t w hd)=true∧Made r0 (ai++[ni t w hd]) (cX s w (ni t w hd)) (t+1)∧aX (cX s w (ni t w hd)).aq w hd= -1∧
  (∀w' hd',(hd'=0∨hd'=1)→ ¬(w'=w∧hd'=hd)→aX (cX s w (ni t w hd)).aq w' hd'=aX s.aq w' hd'):=by
 have pa:bW r0 s w (ni t w hd)=true:=(by rw [Ae rfl];exact decide_eq_true h0);have hA:=F9 (r:=r0) (t:=t) hw hh;have ew:(ni t w hd).aQ.toNat=w:=(by simp [ni]);have hwh:w<s.aq.length:=(by rw [h.snd.hl];exact hw);refine⟨pa, ?_, ?_,fun w' hd' h1 h2=> ?_⟩
 ·have:=h.grp (g:=[ni t w hd]) (t':=t+1) ⟨fun b hb=>by simp only [List.mem_singleton]at hb;subst hb;rw [ew];exact⟨hA,pa⟩,List.pairwise_singleton ..⟩ (by simp) (fun b hb=>by simp only [List.mem_singleton]at hb;subst hb;exact⟨rfl,rfl,rfl⟩) (by omega)
  rwa [sD,ew,Ak]at this
 ·rw [mV rfl];show aX (bA s.aq w hd (-1)) w hd= -1
  rw [DP w hd hwh hh hh,if_pos ⟨rfl,rfl⟩]
 ·rw [mV rfl];show aX (bA s.aq w hd (-1)) w' hd'=_
  rw [DP w' hd' hwh hh h1,if_neg h2]
theorem KH {r0:aC}{s:az}{t hd:Int}{w:Nat}(h:Made r0 [] s t)(hw:w<r0.ah.length):aX s.aq w hd= -1:=by
 have e:s=ay r0:=(by rw [h.sc];rfl);subst e;unfold aX;have:(ay r0).aq.getD w bH=empty:=by
  rw [bf (by simp [ay];exact hw)];simp [ay]
 rw [this];split<;>rfl
def lP (L:Nat)(t:Int)(w:Nat)(hd:Int):bd:=[(6, .aA (L,6) 0),(7, .aA (L,7) 0),(8, .aA (L,8) 0),(9, .pure (.int .i64 t)),(18, .pure (.int .i64 w)),(19, .pure (.int .i64 hd))]
theorem CJ (r0:aC) (n:Nat) (hb:RB r0 n) (m:Nat) (hm:m≤100000) (T:Int) (hT:T≤1000000) (F:Fr) (ai:List ak) (s:az) (q:Nat) (t:Int) (hR:EN H.length r0 m T F ai s q t) (Q:GX→bN→Prop) (w:Nat) (hw:w<r0.ah.length) (hd:Int) (hh:hd=0∨hd=1)
  (ih: ∀F' acts' s' t',EN H.length r0 (m+1) (T+1) F' acts' s' q t'→aX s'.aq w hd= -1→(∀w' hd',(hd'=0∨hd'=1)→ ¬(w'=w∧hd'=hd)→aX s'.aq w' hd'=aX s.aq w' hd')→
   fM KC au 11 (lp Tryz.f11 2) [6,7,8,9,18,19] [6,7,8,9,18] Q (lP H.length t' w (hd+1)) ([]::F'::H) 174):
  fM KC au 11 (lp Tryz.f11 2) [6,7,8,9,18,19] [6,7,8,9,18] Q (lP H.length t w hd) ([]::F::H) 174:=by
 have g7:=hR.fi.g7;have g8:=hR.fi.g8;obtain⟨v2,hv2,gh⟩:=hR.fi.sc.h2;have hS:=hR.md.snd;have hwh:w<s.aq.length:=(by rw [hS.hl];exact hw);have eh:=hS.hl;have pl:=hb.pl;have ml:=hR.ml;have t0:=hR.md.t0;have tT:=hR.tT;have R:=iz hS.toHe (w:=w) (hand:=hd) hw;have hw1:=cU (x:=hd+1) (by omega) (by omega);have hw2:=cU (x:=t+1) (by omega) (by omega);have hlt:hd<2:=(by omega);have ne: ¬H.length=H.length+1:=(by omega);obtain⟨x,hx⟩: ∃x,aX s.aq w hd=x:=⟨_,rfl⟩;have hx':aX s.aq w hd=(if hd=0 then s.aq[w].l else s.aq[w].r):=by
  unfold aX;rw [bf hwh]
 by_cases h0:0≤x
 ·have a0:ai≠[]:=fun e=>by
   subst e;have:=KH (hd:=hd) hR.md hw;omega
  obtain⟨pa,M,z1,z2⟩:=KG hR.md hw hh (by rw [hx];exact h0);have hA:=F9 (r:=r0) (t:=t) hw hh;obtain⟨F2,fi2,dd⟩:=Yk hR.q2 hR.fi (lH hS hA pa) (by omega) [(20,bR (ni t w hd))] [] 135;obtain⟨F3,F4,fi4,ap,f37,f34⟩:=Qb hR.q2 fi2 (ni t w hd) (by omega) a0 [(20,bR (ni t w hd))] [] 140;have g72:=fi2.g7;have g82:=fi2.g8;have I:=ih F4 _ _ (t+1) ⟨fi4,hR.q2,M,by simp;omega,by omega⟩ z1 z2;simp only [gW,dX]at g7 g8 g72 g82 f37 f34;simp only [KB,kK,ak.row,ni,bR,List.map_append,List.map_cons,List.map_nil]at dd ap f37 f34;apply ax;conv=>arg 4;whnf
  rcases hh with rfl|rfl
  ·rw [if_pos rfl]at hx';have hx2:s.aq[w].l=x:=hx'.symm.trans hx;simp [lP]at I;simp [lP,g7,g8,gh,hv2,ne,hwh,aF.row,hx2,h0,dd,g72,g82,ap,f37,f34,hw2];exact I
  ·rw [if_neg (by decide)]at hx';have hx2:s.aq[w].r=x:=hx'.symm.trans hx;have w11:IntKind.i64.wrap (1+1)=2:=rfl;simp [lP]at I;simp [lP,g7,g8,gh,hv2,ne,hwh,aF.row,hx2,h0,dd,g72,g82,ap,f37,f34,hw2,w11];exact I
 ·have z1:aX s.aq w hd= -1:=(by omega);have I:=ih F ai s t ⟨hR.fi,hR.q2,hR.md,by omega,by omega⟩ z1 (fun w' hd' _ _=>rfl);simp only [gW,dX]at g7 g8;apply ax;conv=>arg 4;whnf
  rcases hh with rfl|rfl
  ·rw [if_pos rfl]at hx';have hx2:s.aq[w].l=x:=hx'.symm.trans hx;simp [lP]at I;simp [lP,g7,g8,gh,hv2,ne,hwh,aF.row,hx2,h0];exact I
  ·rw [if_neg (by decide)]at hx';have hx2:s.aq[w].r=x:=hx'.symm.trans hx;have w11:IntKind.i64.wrap (1+1)=2:=rfl;simp [lP]at I;simp [lP,g7,g8,gh,hv2,ne,hwh,aF.row,hx2,h0,w11];exact I
end
section
variable {H:aj}
theorem Ig (r0:aC)(n:Nat)(hb:RB r0 n)(q:Nat)(Q:GX→bN→Prop): ∀(k w m:Nat) (T:Int) (F:Fr) (ai:List ak) (s:az) (t:Int),w+k=r0.ah.length→m+2*k≤100000→T+2*k≤1000000→EN H.length r0 m T F ai s q t→
  (∀w' hd',w'<w→(hd'=0∨hd'=1)→aX s.aq w' hd'= -1)→
  (∀F' acts' s' t',EN H.length r0 (m+2*k) (T+2*k) F' acts' s' q t'→(∀w' hd',w'<r0.ah.length→(hd'=0∨hd'=1)→aX s'.aq w' hd'= -1)→Q (.exit 2) ⟨[(6, .aA (H.length,6) 0),(7, .aA (H.length,7) 0),(8, .aA (H.length,8) 0)],F'::H,174⟩)→
  fM KC au 11 (lp Tryz.f11 1) [6,7,8,9,18] [6,7,8] Q [(6, .aA (H.length,6) 0),(7, .aA (H.length,7) 0),(8, .aA (H.length,8) 0),(9, .pure (.int .i64 t)),(18, .pure (.int .i64 w))] (F::H) 174:=by
 have pl:=hb.pl;intro k
 induction k with
 |zero=>
  intro w m T F ai s t hw hm hT hR hz hq;have g7:=hR.fi.g7;simp only [gW]at g7;have hwl: ¬w<r0.ah.length:=(by omega);apply ax;conv=>arg 4;whnf
  simp [g7,hwl];exact hq F ai s t (by simpa using hR) (fun w' hd' h1 h2=>hz w' hd' (by omega) h2)
 |succ k ih=>
  intro w m T F ai s t hw hm hT hR hz hq;have g7:=hR.fi.g7;simp only [gW]at g7;have hwl:w<r0.ah.length:=(by omega);have hw1:=cU (x:=(w:Int)+1) (by omega) (by omega);apply ax;conv=>arg 4;whnf
  simp [g7,hwl];refine CJ r0 n hb m (by omega) T (by omega) F ai s q t hR _ w hwl 0 (.inl rfl) (fun F1 acts1 s1 t1 hR1 z1 y1=> ?_);refine CJ r0 n hb (m+1) (by omega) (T+1) (by omega) F1 acts1 s1 q t1 hR1 _ w hwl (0+1) (.inr rfl) (fun F2 acts2 s2 t2 hR2 z2 y2=> ?_);apply ax;conv=>arg 4;whnf
  simp [lP,hw1];have hR2':EN H.length r0 (m+2) (T+2) F2 acts2 s2 q t2:=⟨hR2.fi,hR2.q2,hR2.md,hR2.ml,by have:=hR2.tT;omega⟩;refine ih (w+1) (m+2) (T+2) F2 acts2 s2 t2 (by omega) (by omega) (by omega) hR2' (fun w' hd' h1 h2=> ?_) (fun F' acts' s' t' hR' h'=>hq F' acts' s' t' ?_ h')
  ·by_cases e:w'=w
   ·subst e;rcases h2 with rfl|rfl
    ·rw [y2 w' 0 (.inl rfl) (by simp)];exact z1
    ·simpa using z2
   ·rw [y2 w' hd' h2 (fun h=>e h.1),y1 w' hd' h2 (fun h=>e h.1)];exact hz w' hd' (by omega) h2
  ·have a:=hR'.ml;have b:=hR'.tT;exact⟨hR'.fi,hR'.q2,hR'.md,by omega,by omega⟩
def KI (t:aY)(sp:bm):aY:={t with home:=sp.cell,want:=sp.state}
def oM (ts:List aY)(sps:List bm)(i:Nat):List aY:=ts.mapIdx fun j t=>if j<i then KI t (sps.getD j aV)else t
theorem Cu (ts:List aY)(sps:List bm)(i:Nat):(oM ts sps i).length=ts.length:=by simp [oM]
theorem sZ (ts:List aY)(sps:List bm)(i j:Nat)(h:j<ts.length):(oM ts sps i)[j]'(by simpa [oM]using h)=if j<i then KI ts[j] (sps.getD j aV)else ts[j]:=by simp [oM]
theorem Ih (ts:List aY)(sps:List bm)(i:Nat)(h:i<ts.length):oM ts sps (i+1)=(oM ts sps i).set i (KI ts[i] (sps.getD i aV)):=by
 refine List.ext_getElem (by simp [oM]) fun j h1 h2=> ?_;have hj:j<ts.length:=(by simpa [oM]using h1);rw [List.getElem_set,sZ _ _ _ _ hj,sZ _ _ _ _ hj];by_cases e:i=j
 ·subst e;simp
 ·rw [if_neg e];by_cases h3:j<i
  ·rw [if_pos h3,if_pos (by omega)]
  ·rw [if_neg h3,if_neg (by omega)]
structure FT (L:Nat)(F:Fr)(r0:aC)(ai:List ak)(s:az)(q:Nat)(ts:List aY):Prop where
 g6:F.get 6=some lG
 g7:F.get 7=some (gW L r0 ai)
 g8:F.get 8=some (dX L q s)
 gp:F.get 188441=some (.arr 2 (r0.ah.map aS.row) 0 false)
 gl:r0.aP≠[]→F.get 393241=some (.arr 1 (r0.aP.map aE) 0 false)
 ga:ai≠[]→F.get 62=some (.arr 9 (ai.map ak.row) 0 false)
 h3: ∃v,v≤s.aa.length∧F.get (fC q)=some (.arr 2 (s.aa.map bm.row) v false)
 gt: ∃v,v≤ts.length∧F.get 339993=some (.arr 5 (ts.map aY.row) v false)
 tl:ts.length=r0.aa.length
theorem FT.ins {L:Nat}{F:Fr}{r0:aC}{ai:List ak}{s:az}{q:Nat}{ts ts':List aY}(hq:q≤2)(h:FT L F r0 ai s q ts){v:Nat}(hv:v≤ts'.length)(hl:ts'.length=ts.length):FT L (F.ins 339993 (.arr 5 (ts'.map aY.row) v false)) r0 ai s q ts' where
 g6:=(Fr.aw _ (by decide) _).trans h.g6
 g7:=(Fr.aw _ (by decide) _).trans h.g7
 g8:=(Fr.aw _ (by decide) _).trans h.g8
 gp:=(Fr.aw _ (by decide) _).trans h.gp
 gl:=fun hl=>(Fr.aw _ (by decide) _).trans (h.gl hl)
 ga:=fun hl=>(Fr.aw _ (by decide) _).trans (h.ga hl)
 h3:=by
  obtain⟨v,a,b⟩:=h.h3;exact⟨v,a,(Fr.aw _ ((lO q hq).2.2 339993 (by decide)).symm _).trans b⟩
 gt:=⟨v,hv,Fr.a7 ..⟩
 tl:=hl.trans h.tl
theorem Ii (r0:aC)(n:Nat)(hb:RB r0 n)(ai:List ak)(s:az)(q:Nat)(hq:q≤2)(hsl:s.aa.length=r0.aa.length)(Q:GX→bN→Prop): ∀(k i:Nat) (F:Fr) (ts:List aY),i+k=r0.aa.length→FT H.length F r0 ai s q ts→ts=oM r0.aa s.aa i→
  (∀F',FT H.length F' r0 ai s q (oM r0.aa s.aa r0.aa.length)→Q (.exit 6) ⟨[(6, .aA (H.length,6) 0),(7, .aA (H.length,7) 0)],F'::H,174⟩)→
  fM KC au 11 (lp Tryz.f11 3) [6,7,8,21] [6,7] Q [(6, .aA (H.length,6) 0),(7, .aA (H.length,7) 0),(8, .aA (H.length,8) 0),(21, .pure (.int .i64 i))] (F::H) 174:=by
 have tl:=hb.tl;intro k
 induction k with
 |zero=>
  intro i F ts hi h hts hq';have g7:=h.g7;simp only [gW]at g7;have hwl: ¬i<r0.aa.length:=(by omega);apply ax;conv=>arg 4;whnf
  simp [g7,hwl];have e:i=r0.aa.length:=(by omega);subst e;rw [hts]at h;exact hq' F h
 |succ k ih=>
  intro i F ts hi h hts hq';have g7:=h.g7;have g8:=h.g8;simp only [gW,dX]at g7 g8;obtain⟨v3,a3,b3⟩:=h.h3;obtain⟨vt,bc,bt⟩:=h.gt;have tl':=h.tl;have hwl:i<r0.aa.length:=(by omega);have hil:i<ts.length:=(by omega);have his:i<s.aa.length:=(by omega);have hw1:=cU (x:=(i:Int)+1) (by omega) (by omega);have ne: ¬H.length=H.length+1:=(by omega);have nk:fC q≠339993:=((lO q hq).2.2 339993 (by decide)).symm;have I:=fun ts' h1 h2=>ih (i+1) (F.ins 339993 (.arr 5 (ts'.map aY.row) ts'.length false)) ts' (by omega) (h.ins hq (Nat.le_refl _) h1) h2 hq';have a3':v3≤r0.aa.length:=(by omega);have at2:vt≤r0.aa.length:=(by omega);apply ax;conv=>arg 4;whnf
  simp [g7,g8,hwl,b3,bt,a3',at2,ne,hil,his,tl',hsl,hw1,bm.row,aY.row,Fr.a7,Fr.aw,Fr.fe,nk];have ei:ts[i]=r0.aa[i]:=by
   subst hts;rw [sZ _ _ _ _ hwl,if_neg (by omega)]
  have I2:=I (ts.set i (KI r0.aa[i] (s.aa.getD i aV))) (by simp) (by rw [hts,Ih _ _ _ hwl]);rw [bf his]at I2;simp [aY.row,KI,tl',ei]at I2⊢;exact I2
end
section
variable {c:Nat} {H:aj}
def G2 (L:Nat)(r0:aC):Fr:=eG 393241 1 (r0.aP.map aE) [(6,lG),(7,gW L r0 []),(188441, .arr 2 (r0.ah.map aS.row) 0 false),(339993, .arr 5 (r0.aa.map aY.row) 0 false)]
def G4 (L:Nat)(r0:aC):Fr:=eG 393241 1 (r0.aP.map aE) [(6,lG),(7,gW L r0 []),(8,dX L 0 (ay r0)),(90139, .arr 1 ((ay r0).ah.map aE) 0 false),(110619, .arr 2 ((ay r0).aq.map aF.row) 0 false),(188441, .arr 2 (r0.ah.map aS.row) 0 false),(217115, .arr 2 ((ay r0).aa.map bm.row) 0 false),(339993, .arr 5 (r0.aa.map aY.row) 0 false)]
theorem AA {key es:Nat}{rows:List (List PV)}{fr:Fr}(h:fr.gU):(eG key es rows fr).gU:=by
 unfold eG;split
 ·exact h
 ·exact Fr.cB h
theorem Qc {key es:Nat}{rows:List (List PV)}{fr:Fr}{x:Nat×dF}(hs:fr.gU)(h:x∈eG key es rows fr):x=(key, .arr es rows 0 false)∨x∈fr:=by
 unfold eG at h;split at h
 ·exact .inr h
 ·rcases Fr.qp hs h with e|e
  ·exact .inl e
  ·exact .inr e.1
theorem KJ (L:Nat)(r0:aC):Fr.gU [(6,lG),(7,gW L r0 []),(8,dX L 0 (ay r0)),(90139, .arr 1 ((ay r0).ah.map aE) 0 false),(110619, .arr 2 ((ay r0).aq.map aF.row) 0 false),(188441, .arr 2 (r0.ah.map aS.row) 0 false),(217115, .arr 2 ((ay r0).aa.map bm.row) 0 false),(339993, .arr 5 (r0.aa.map aY.row) 0 false)]:=by
 simp [Fr.gU]
theorem ad9 (L:Nat)(r0:aC):FI L (G4 L r0) r0 [] (ay r0) 0 where
 gU:=AA (KJ L r0)
 g6:=by unfold G4;rw [bE (by decide)];simp
 g7:=by unfold G4;rw [bE (by decide)];simp
 g8:=by unfold G4;rw [bE (by decide)];simp
 gp:=by unfold G4;rw [bE (by decide)];simp
 gt:=by unfold G4;rw [bE (by decide)];simp
 gl:=fun h=>by unfold G4;rw [dg (by simpa using h)]
 Qa:=fun _=>by unfold G4;rw [bE (by decide)];simp
 ga:=fun h=>absurd rfl h
 ref:=fun x hx hne k hk=>by
  rcases Qc (KJ L r0) hx with e|e
  ·subst e;rfl
  ·simp only [List.mem_cons,List.not_mem_nil,or_false]at e;rcases e with rfl|rfl|rfl|rfl|rfl|rfl|rfl|rfl
   ·rfl
   ·exact zq hk
   ·exact absurd rfl hne
   ·rfl
   ·rfl
   ·rfl
   ·rfl
   ·rfl
 sc:=⟨⟨0,Nat.zero_le _,by unfold G4 fS;rw [bE (by decide)];simp⟩,⟨0,Nat.zero_le _,by unfold G4 dw;rw [bE (by decide)];simp⟩,⟨0,Nat.zero_le _,by unfold G4 fC;rw [bE (by decide)];simp⟩⟩
 EK:=fun k hk hg=>by
  have n0:k≠393241:=fun e=>(by subst e;cases hk);have ne: ∀j,gN j=false→k≠j:=fun j hj e=>(by subst e;rw [hj]at hk;cases hk);unfold G4 at hg;rw [bE n0]at hg;simp only [Fr.c8,Fr.get_nil]at hg;rw [if_neg (ne 6 (by decide)),if_neg (ne 7 (by decide)),if_neg (ne 8 (by decide)),if_neg (ne 90139 (by decide)),if_neg (ne 110619 (by decide)),if_neg (ne 188441 (by decide)),if_neg (ne 217115 (by decide)),if_neg (ne 339993 (by decide))]at hg;exact absurd rfl hg
theorem aea {r0:aC}(h:wB r0): ∃n:Nat,RB r0 n∧r0.wide*r0.deep=n:=by
 obtain⟨w,hw⟩:=Int.eq_ofNat_of_zero_le (show 0≤r0.wide by have:=h.w1;omega)
 obtain⟨d,hd⟩:=Int.eq_ofNat_of_zero_le (show 0≤r0.deep by have:=h.d1;omega)
 have w1:=h.w1;have w3:=h.w3;have d1:=h.d1;have d3:=h.d3;have e:r0.wide*r0.deep=((w*d:Nat):Int):=(by rw [hw,hd];simp);have l9:w*d≤3*3:=Nat.mul_le_mul (by omega) (by omega);have l1:0<w*d:=Nat.mul_pos (by omega) (by omega);exact⟨w*d,⟨by rw [e];exact cU (by omega) (by omega),l1,by omega,by omega,h.p3,h.t4,h.p0,h.t0,h.seen⟩,e⟩
theorem aeb {L:Nat}(hL:L=H.length){r0:aC}(hs:r0.seen=[]):mC (G2 L r0::H) (sY L r0 []) (.agg (jS r0 []).row):=by
 subst hL;have g: ∀k,aj.get (G2 H.length r0::H) (H.length,k)=(G2 H.length r0).get k:=fun k=>(by simp);rw [cI];unfold sY;rw [qj];simp only [jS,mT,qi,mR,and_true,true_and];refine⟨⟨_,0,false,(g _).trans (by unfold G2;rw [bE (by decide)];simp),Nat.zero_le _,by simp,rfl,rfl,rfl⟩,⟨_,0,false,(g _).trans (by unfold G2;rw [bE (by decide)];simp),Nat.zero_le _,by simp,rfl,rfl,rfl⟩, ?_,og fun hr=>(g _).trans (by unfold G2;rw [dg hr]),og fun hr=>absurd rfl hr⟩;rw [hs];rfl
def HU (r0:aC)(ai:List ak)(s:az):aC:={r0 with ai:=ai,aa:=oM r0.aa s.aa r0.aa.length}
structure KL (r0:aC)(ai:List ak)(s:az)(m:Nat):Prop where
 room:wB r0
 made: ∃t:Int,Made r0 ai s t∧t≤2+m
 len:ai.length≤m
 aq: ∀w' hd',w'<r0.ah.length→(hd'=0∨hd'=1)→aX s.aq w' hd'= -1
def kt (c:Nat):Nat:=ao c 339993
def kl (c:Nat):Nat:=ao c 393241
def ka (c:Nat):Nat:=ao c 62
theorem HT {nm:Nm}(hB0:fZ H nm){sd N:Nat}(hsd:1≤sd∧sd≤3)(hN:N≤15)(hN1:1≤N):
  ∃r0 ai s wd,KL r0 ai s (2*N+6)∧aL KC (aG KC) 11 [.aA nm 0, .pure (.int .i64 sd), .pure (.int .i64 N)] c H=
   some (.pure (.agg (HU r0 ai s).row),H.set nm (bG wd)):=by
 have hlt:=gP hB0;have hset:=jU hB0;have hne: ¬nm.1=H.length:=(by omega);have hne2: ¬nm.1=H.length+1:=(by omega);have hle:nm.1≤H.length:=by omega
 suffices hs:kW (aL KC (aG KC) 11 [.aA nm 0, .pure (.int .i64 sd), .pure (.int .i64 N)] c H) (fun x=> ∃r0 ai s wd,KL r0 ai s (2*N+6)∧x=(.pure (.agg (HU r0 ai s).row),H.set nm (bG wd)))by
  obtain⟨x,hx,r0,ai,s,wd,h1,h3⟩:=hs;exact⟨r0,ai,s,wd,h1,by rw [hx,h3]⟩
 refine aW KC au Tryz.func11 rfl rfl VU rfl rfl rfl (by simp) (by omega) ?_;have hl: ∀w,(H.set nm (bG w)).length=H.length:=fun w=>aj.length_set _ _ _;obtain⟨r0,wd1,hRB,eroom⟩:=Hc (c:=24) (H:=[(6,lG)]::H) (nm:=nm) (eE hB0) hsd (by simp [ao]) (by simp [ao]) (by simp [ao]) (fun k e=>hne (by rw [e];simp));obtain⟨n,hb,hn⟩:=aea hRB;have k1:ao 24 46=188441:=(by decide);have k2:ao 24 83=339993:=(by decide);have k3:ao 24 96=393241:=(by decide);have f1:ao 26 22=90139:=(by decide);have f2:ao 26 27=110619:=(by decide);have f3:ao 26 53=217115:=(by decide);have hroom:gT (aj.set (aj.set ([(6,lG)]::H.set nm (bG wd1)) (H.length,188441) (.arr 2 (r0.ah.map aS.row) 0 false)) (H.length,339993) (.arr 5 (r0.aa.map aY.row) 0 false)) (H.length,393241) 1 (r0.aP.map aE)=eG 393241 1 (r0.aP.map aE) [(6,lG),(188441, .arr 2 (r0.ah.map aS.row) 0 false),(339993, .arr 5 (r0.aa.map aY.row) 0 false)]::H.set nm (bG wd1):=by
  unfold gT eG;by_cases hls:r0.aP.map aE=[]
  ·rw [if_pos hls,if_pos hls];simp [hl]
  ·rw [if_neg hls,if_neg hls];simp [hl]
 simp only [List.length_cons,Nat.add_sub_cancel,k1,k2,k3,aj.dR hlt,hroom]at eroom;have efirst:=tS (c:=26) (H:=G2 H.length r0::H.set nm (bG wd1)) (jS r0 []) (aeb (H:=H.set nm (bG wd1)) (hl _).symm hRB.seen) hRB.p0 hRB.t0 (by show r0.ah.length≤_;have:=hb.pl;omega) (by show r0.aa.length≤_;have:=hb.tl;omega) (by simp) (by simp [hl,f1,G2]) (by simp [hl,f2,G2]) (by simp [hl,f3,G2])
 have hfirst:cn (G2 H.length r0::H.set nm (bG wd1)) (H.length,90139) (H.length,110619) (H.length,217115) 0 0 0 (ay (jS r0 []))=eG 393241 1 (r0.aP.map aE) [(6,lG),(7,gW H.length r0 []),(90139, .arr 1 ((ay r0).ah.map aE) 0 false),(110619, .arr 2 ((ay r0).aq.map aF.row) 0 false),(188441, .arr 2 (r0.ah.map aS.row) 0 false),(217115, .arr 2 ((ay r0).aa.map bm.row) 0 false),(339993, .arr 5 (r0.aa.map aY.row) 0 false)]::H.set nm (bG wd1):=by
  show cn _ _ _ _ 0 0 0 (ay r0)=_
  simp [cn,hl,G2]
 simp only [List.length_cons,Nat.add_sub_cancel,hl,f1,f2,f3,hfirst]at efirst;obtain⟨t,wd2,e2,ht⟩:=qh wd1 3 (by omega) (by omega);obtain⟨i,wd3,e3,hi1,hi2⟩:=mQ wd2 N (by omega) (by omega);have hB:=fun w f0=>adU hlt w f0;have hW:=fun w f0=>TX hlt w f0;have e4:sY H.length r0 []=wC (H.length,188441) (H.length,339993) (H.length,393241) r0:=rfl;rw [e4]at efirst;simp [lG,wC,kK,gW,G2,ff]at eroom efirst;have RS:EN H.length r0 0 2 (G4 H.length r0) [] (ay r0) 0 t:=⟨ad9 _ _,by omega,Made.first hRB (by omega),by simp,by omega⟩
 have L1:=fun Q=>Ie (H:=H) hlt r0 n hb hn Q i 0 2 (G4 H.length r0) [] (ay r0) 0 t wd3 (by omega) (by omega) (by omega) RS;simp [fY,G4,gW,dX,fS,dw,fC,lG,ff]at L1;simp [lG,eroom,hl,efirst,kJ,tB,hB,hW,hne,hlt,hle,aj.dR,e2,e3];refine L1 _ fun F1 acts1 s1 q1 t1 wd4 hR1=> ?_;clear L1;simp;have L2:=fun Q=>Ig (H:=H.set nm (bG wd4)) r0 n hb q1 Q r0.ah.length 0 (2*i) (2+2*i) F1 acts1 s1 t1 (by omega) (by have:=hb.pl;omega) (by have:=hb.pl;omega) (by rw [hl];exact hR1) (fun w' hd' h=>absurd h (by omega));simp only [hl]at L2;refine L2 _ fun F2 acts2 s2 t2 hR2 hz=> ?_;clear L2;simp
 have L3:=fun Q=>Ii (H:=H.set nm (bG wd4)) r0 n hb acts2 s2 q1 hR2.q2 hR2.md.snd.tl Q r0.aa.length 0 F2 r0.aa (by omega) (by
  rw [hl];exact⟨hR2.fi.g6,hR2.fi.g7,hR2.fi.g8,hR2.fi.gp,hR2.fi.gl,hR2.fi.ga,hR2.fi.sc.h3,⟨0,Nat.zero_le _,hR2.fi.gt⟩,rfl⟩) (by
  refine List.ext_getElem (by simp [oM]) fun j h1 h2=> ?_;rw [sZ _ _ _ _ h1,if_neg (by omega)])
 simp only [hl]at L3;refine L3 _ fun F3 hF=> ?_;clear L3;have g6:=hF.g6;have g7:=hF.g7;obtain⟨v,hv,gt⟩:=hF.gt;simp only [lG,gW]at g6 g7;have p3:=hRB.p3;have ml:=hR2.ml;have tT:=hR2.tT;have hRes:KL r0 acts2 s2 (2*N+6):=⟨hRB,⟨t2,hR2.md,by omega⟩,by omega,hz⟩;simp [g6,g7,hl,Fr.a7];have gp':=hF.gp;have gl':=hF.gl;have ga':=hF.ga;have tl:(oM r0.aa s2.aa r0.aa.length).length=r0.aa.length:=Cu _ _ _
 suffices hs: ∀x,gn KC 11 c (.agg [.pure (.int .i64 r0.wide), .pure (.int .i64 r0.deep), .aZ (H.length,188441) 2 r0.ah.length 0 r0.ah.length, .aZ (H.length,339993) 5 r0.aa.length 0 r0.aa.length, .aR,cH (H.length,393241) 1 (r0.aP.map aE),cH (H.length,62) 9 (acts2.map ak.row)]) (F3.ins 6 x::H.set nm (bG wd4))=
   some (.pure (.agg (HU r0 acts2 s2).row),H.set nm (bG wd4))by
  rw [hs,gS];exact⟨r0,acts2,s2,hRes,wd4,rfl⟩
 intro x;have e6: ∀k,k≠6→(F3.ins 6 x).get k=F3.get k:=fun k h=>Fr.aw _ h _;have e1:=(e6 188441 (by decide)).trans gp';have e2:=(e6 339993 (by decide)).trans gt;have e3:=fun h=>(e6 393241 (by decide)).trans (gl' h);have e4:=fun h=>(e6 62 (by decide)).trans (ga' h);generalize F3.ins 6 x=F5 at e1 e2 e3 e4;rw [ae (by simp)];have lt:(H.set nm (bG wd4)).length-1<H.length:=(by rw [hl];omega);have hv':v≤r0.aa.length:=(by rw [←tl];exact hv);have nl: ¬H.length≤H.length-1:=(by omega);have q1: ∀k,aj.get (F5::H.set nm (bG wd4)) (H.length,k)=F5.get k:=fun k=>(by simp [hl]);have tk1:List.take r0.ah.length (r0.ah.map aS.row)=r0.ah.map aS.row:=List.take_of_length_le (by simp);have tk2:List.take r0.aa.length ((oM r0.aa s2.aa r0.aa.length).map aY.row)=(oM r0.aa s2.aa r0.aa.length).map aY.row:=List.take_of_length_le (by simp [tl]);have hc1:cP (F5::H.set nm (bG wd4)) ((H.set nm (bG wd4)).length-1) (.aZ (H.length,188441) 2 r0.ah.length 0 r0.ah.length)= .pure (.slice (r0.ah.map aS.row)):=by
  simp [hl,nl,q1,e1,tk1]
 have hc2:cP (F5::H.set nm (bG wd4)) ((H.set nm (bG wd4)).length-1) (.aZ (H.length,339993) 5 r0.aa.length 0 r0.aa.length)= .pure (.slice ((oM r0.aa s2.aa r0.aa.length).map aY.row)):=by
  simp [hl,nl,q1,e2,tk2,tl,hv']
 have hc3:cP (F5::H.set nm (bG wd4)) ((H.set nm (bG wd4)).length-1) (cH (H.length,393241) 1 (r0.aP.map aE))=if r0.aP.map aE=[]then .aR else .pure (.slice (r0.aP.map aE)):=dz (hl _) lt (fun h=>e3 (by simpa using h));have hc4:cP (F5::H.set nm (bG wd4)) ((H.set nm (bG wd4)).length-1) (cH (H.length,62) 9 (acts2.map ak.row))=if acts2.map ak.row=[]then .aR else .pure (.slice (acts2.map ak.row)):=dz (hl _) lt (fun h=>e4 (by simpa using h));rw [qb];have e:canon (dm ([.pure (.int .i64 r0.wide), .pure (.int .i64 r0.deep), .aZ (H.length,188441) 2 r0.ah.length 0 r0.ah.length, .aZ (H.length,339993) 5 r0.aa.length 0 r0.aa.length, .aR,cH (H.length,393241) 1 (r0.aP.map aE),cH (H.length,62) 9 (acts2.map ak.row)].map (cP (F5::H.set nm (bG wd4)) ((H.set nm (bG wd4)).length-1))))= .pure (.agg (HU r0 acts2 s2).row):=by
  refine pk ?_;have ci: ∀rows:List (List PV),cJ (if rows=[]then .aR else .pure (.slice rows))= .pure (.slice rows):=fun rows=>by
   split
   ·rename_i h;subst h;rfl
   ·rfl
  simp only [List.map_cons,List.map_nil,mc,hc1,hc2,hc3,hc4,ci];rw [cI];show _=_
  simp [HU,hRB.seen]
 rw [e]
end
section
variable {c:Nat} {H:aj}
theorem jI {l key es bytes:Nat}{rows:List (List PV)}{fr:Fr}(hl:H.length=l)(hf:fr.get key=none)(hb:rows.length*bytes≤1099511627776):
  xR l key .aR es bytes rows (fr::H)=some (cH (l,key) es rows,eG key es rows fr::H):=by
 subst hl;unfold cH eG;by_cases h:rows=[]
 ·subst h;simp
 ·have: ¬H.length+1≤H.length:=(by omega);simp [h,hf,hb,this]
theorem Ga (l:List Int)(hn:l.length≤1000000)(hH:0<H.length):aL KC (aG KC) 56 [.pure (.slice (l.map aE))] c H=some (.pure (.slice (l.map aE)),H):=by
 refine aM (aW KC au Tryz.func56 rfl rfl Wk rfl rfl rfl (by simp) hH ?_);have hb:l.length*8≤1099511627776:=(by omega);have A:=jI (H:=H) (l:=H.length) (key:=5) (es:=1) (bytes:=8) (rows:=l.map aE) (fr:=[]) rfl rfl (by simpa using hb);have hall: ∀x:Int,(aE x).length=1:=fun x=>rfl;simp [A,hall];rw [ae]
 ·rw [gS,WZ rfl (by omega)]
 ·simp
def yi (n2 n3 n7:Nm)(r:aC):GV:= .agg [.pure (.int .i64 r.wide), .pure (.int .i64 r.deep),cH n2 2 (r.ah.map aS.row),cH n3 5 (r.aa.map aY.row), .pure (.slice (r.seen.map aE)), .pure (.slice (r.aP.map aE)),cH n7 9 (r.ai.map ak.row)]
def Ki (H:aj)(n2 n3 n7:Nm)(r:aC):aj:=gT (gT (gT H n2 2 (r.ah.map aS.row)) n3 5 (r.aa.map aY.row)) n7 9 (r.ai.map ak.row)
theorem Ej (r:aC) (h:eL r) (hH:0<H.length)
  (hf1:H.get (H.length-1,ao c 6)=none) (hf2:H.get (H.length-1,ao c 10)=none) (hf3:H.get (H.length-1,ao c 22)=none):
  aL KC (aG KC) 13 [.pure (.agg r.row)] c H=some (yi (H.length-1,ao c 6) (H.length-1,ao c 10) (H.length-1,ao c 22) r,Ki H (H.length-1,ao c 6) (H.length-1,ao c 10) (H.length-1,ao c 22) r):=by
 refine aM (aW KC au Tryz.func13 rfl rfl VX rfl rfl rfl (by simp) hH ?_);rw [cI];have h1:=h.p;have h2:=h.t;have h3:=h.a;have b1:r.ah.length*16≤1099511627776:=(by omega);have b2:r.aa.length*40≤1099511627776:=(by omega);have b3:r.ai.length*72≤1099511627776:=(by omega);have l1: ∀x:aS,x.row.length=2:=fun x=>rfl;have l2: ∀x:aY,x.row.length=5:=fun x=>rfl;have l3: ∀x:ak,x.row.length=9:=fun x=>rfl;have I1:=fun c (H:aj) (hH:0<H.length)=>Ga (c:=c) (H:=H) r.seen h.s hH;have I2:=fun c (H:aj) (hH:0<H.length)=>Ga (c:=c) (H:=H) r.aP h.l hH;have A1:=fun fr hf=>jI (H:=H) (l:=H.length) (key:=6) (es:=2) (bytes:=16) (rows:=r.ah.map aS.row) (fr:=fr) rfl hf (by simpa using b1);have A2:=fun fr hf=>jI (H:=H) (l:=H.length) (key:=10) (es:=5) (bytes:=40) (rows:=r.aa.map aY.row) (fr:=fr) rfl hf (by simpa using b2);have A3:=fun fr hf=>jI (H:=H) (l:=H.length) (key:=22) (es:=9) (bytes:=72) (rows:=r.ai.map ak.row) (fr:=fr) rfl hf (by simpa using b3);simp [A1,A2,A3,l1,l2,l3,I1,I2];have jP:ao c 6≠ao c 10:=(by unfold ao;omega);have kL:ao c 6≠ao c 22:=(by unfold ao;omega);have jZ:ao c 10≠ao c 22:=(by unfold ao;omega);have nn: ∀a b:Nat,a≠b→((H.length-1,b):Nm)≠(H.length-1,a):=fun a b h e=>h (Prod.mk.inj e).2.symm;have gg: ∀(H':aj) (a b:Nat) (x:dF),a≠b→(H'.set (H.length-1,a) x).get (H.length-1,b)=H'.get (H.length-1,b):=fun H' a b x h=>aj.aK x (nn a b h);have d2:=fun x=>(gg H _ _ x jP).trans hf2;have d3:=fun x=>(gg H _ _ x kL).trans hf3;have d3':=fun x=>(gg H _ _ x jZ).trans hf3;have d4:=fun x y=>(gg (H.set (H.length-1,ao c 6) x) _ _ y jZ).trans (d3 x)
 suffices hs: ∀x y,gn KC 13 c (yi (H.length,6) (H.length,10) (H.length,22) r) (eG 22 9 (r.ai.map ak.row) (eG 10 5 (r.aa.map aY.row) (eG 6 2 (r.ah.map aS.row) [(1,x),(2,y)]))::H)=
   some (yi (H.length-1,ao c 6) (H.length-1,ao c 10) (H.length-1,ao c 22) r,Ki H (H.length-1,ao c 6) (H.length-1,ao c 10) (H.length-1,ao c 22) r)by
  have:=hs;unfold yi at this;rw [this,gS];rfl
 intro x y;unfold yi Ki;by_cases e1:r.ah=[]
 ·by_cases e2:r.aa=[]
  ·by_cases e3:r.ai=[]
   ·simp [e1,e2,e3,cH,eG,bS,refs,dM,dn,cr,dC,dD,dedup,cL,cd,tD,vn,jW,im,gT,hf1,hf2,hf3,d2,d3,d3',d4]
   ·simp [e1,e2,e3,cH,eG,bS,refs,dM,dn,cr,dC,dD,dedup,cL,cd,tD,vn,jW,im,gT,hf1,hf2,hf3,d2,d3,d3',d4]
  ·by_cases e3:r.ai=[]
   ·simp [e1,e2,e3,cH,eG,bS,refs,dM,dn,cr,dC,dD,dedup,cL,cd,tD,vn,jW,im,gT,hf1,hf2,hf3,d2,d3,d3',d4]
   ·simp [e1,e2,e3,cH,eG,bS,refs,dM,dn,cr,dC,dD,dedup,cL,cd,tD,vn,jW,im,gT,hf1,hf2,hf3,d2,d3,d3',d4]
 ·by_cases e2:r.aa=[]
  ·by_cases e3:r.ai=[]
   ·simp [e1,e2,e3,cH,eG,bS,refs,dM,dn,cr,dC,dD,dedup,cL,cd,tD,vn,jW,im,gT,hf1,hf2,hf3,d2,d3,d3',d4]
   ·simp [e1,e2,e3,cH,eG,bS,refs,dM,dn,cr,dC,dD,dedup,cL,cd,tD,vn,jW,im,gT,hf1,hf2,hf3,d2,d3,d3',d4]
  ·by_cases e3:r.ai=[]
   ·simp [e1,e2,e3,cH,eG,bS,refs,dM,dn,cr,dC,dD,dedup,cL,cd,tD,vn,jW,im,gT,hf1,hf2,hf3,d2,d3,d3',d4]
   ·simp [e1,e2,e3,cH,eG,bS,refs,dM,dn,cr,dC,dD,dedup,cL,cd,tD,vn,jW,im,gT,hf1,hf2,hf3,d2,d3,d3',d4]
theorem sQ {F:Fr}{l key es:Nat}{rows:List (List PV)}(hl:H.length=l):gT (F::H) (l,key) es rows=eG key es rows F::H:=by
 subst hl;unfold gT eG;split
 ·rfl
 ·simp
theorem AQ {key es:Nat}{rows:List (List PV)}{F:Fr}{b:dF}:(eG key es rows F).ins key b=F.ins key b:=by
 unfold eG;split
 ·rfl
 ·exact Fr.fe _
theorem rF {g:GV}(r:aC)(h:eL r)(hg:mC H g (.agg r.row))(hH:0<H.length):aL KC (aG KC) 60 [g] c H=some (.pure (.int .i64 (cv r)),H):=
 gQ KC rfl rfl (Pt hg) rfl hH (fun H hH=>ET (c:=c) r h.s h.l h.p h.t hH) rfl
end
section
variable {c:Nat} {H:aj}
theorem ot {K:Ctx}{rec:Rec}{f:FuncId}{args:List GV}(h1:mX args=false)(h2:K.Be f=false)(h3:K.ID f=false):aL K rec f args c H=bF K rec f args c H:=by
 unfold aL;simp [h1,h2,h3]
section
variable {x:List PV} {l:List (List PV)}
theorem Gb:iQ KC .eql 22 (.pure (.slice (x::l)))=some (.bool false):=by
 unfold iQ;rw [Gx,Tryz.underlying22];rfl
theorem Gc:iQ KC .eql 23 (.pure (.slice (x::l)))=some (.bool false):=by
 unfold iQ;rw [Gx,Tryz.underlying23];rfl
theorem Gd:iQ KC .eql 24 (.pure (.slice (x::l)))=some (.bool false):=by
 unfold iQ;rw [Gx,Tryz.underlying24];rfl
theorem Ge:iQ KC .eql 25 (.pure (.slice (x::l)))=some (.bool false):=by
 unfold iQ;rw [Gx,Tryz.underlying25];rfl
theorem Gf:iQ KC .eql 38 (.pure (.slice (x::l)))=some (.bool false):=by
 unfold iQ;rw [Gx,Tryz.underlying38];rfl
theorem Gg:iQ KC .eql 39 (.pure (.slice (x::l)))=some (.bool false):=by
 unfold iQ;rw [Gx,Tryz.underlying39];rfl
end
theorem u4 (l:List Int)(h0:l≠[])(hn:l.length≤1000000)(hH:0<H.length)(hf:H.get (H.length-1,ao c 7)=none):
  aL KC (aG KC) 99 [.pure (.slice (l.map aE))] c H=some (.aZ (H.length-1,ao c 7) 1 l.length 0 l.length,H.set (H.length-1,ao c 7) (.arr 1 (l.map aE) 0 false)):=by
 obtain⟨x,l',rfl⟩:=List.exists_cons_of_ne_nil h0;have hb:(l'.length+1)*8≤1099511627776:=(by simp at hn;omega);have hall: ∀x:Int,(aE x).length=1:=fun x=>rfl;have hnl: ¬H.length+1≤H.length:=(by omega);rw [ot rfl rfl rfl];refine aM (aH KC au Tryz.func99 rfl rfl WX (by simp) hH ?_);simp [Gb,Gc,Gd,Ge,Gf,Gg,hb,hall,hnl,bS,refs,dM,dn,cr,dC,dD,dedup,cL,cd,tD,hf,vn,jW,im]
theorem td (l:List aF)(h0:l≠[])(hn:l.length≤1000000)(hH:0<H.length)(hf:H.get (H.length-1,ao c 7)=none):
  aL KC (aG KC) 100 [.pure (.slice (l.map aF.row))] c H=some (.aZ (H.length-1,ao c 7) 2 l.length 0 l.length,H.set (H.length-1,ao c 7) (.arr 2 (l.map aF.row) 0 false)):=by
 obtain⟨x,l',rfl⟩:=List.exists_cons_of_ne_nil h0;have hb:(l'.length+1)*16≤1099511627776:=(by simp at hn;omega);have hall: ∀x:aF,(aF.row x).length=2:=fun x=>rfl;have hnl: ¬H.length+1≤H.length:=(by omega);rw [ot rfl rfl rfl];refine aM (aH KC au Tryz.func100 rfl rfl NL (by simp) hH ?_);simp [Gb,Gc,Gd,Ge,Gf,Gg,hb,hall,hnl,bS,refs,dM,dn,cr,dC,dD,dedup,cL,cd,tD,hf,vn,jW,im]
theorem AR (l:List bm)(h0:l≠[])(hn:l.length≤1000000)(hH:0<H.length)(hf:H.get (H.length-1,ao c 7)=none):
  aL KC (aG KC) 101 [.pure (.slice (l.map bm.row))] c H=some (.aZ (H.length-1,ao c 7) 2 l.length 0 l.length,H.set (H.length-1,ao c 7) (.arr 2 (l.map bm.row) 0 false)):=by
 obtain⟨x,l',rfl⟩:=List.exists_cons_of_ne_nil h0;have hb:(l'.length+1)*16≤1099511627776:=(by simp at hn;omega);have hall: ∀x:bm,(bm.row x).length=2:=fun x=>rfl;have hnl: ¬H.length+1≤H.length:=(by omega);rw [ot rfl rfl rfl];refine aM (aH KC au Tryz.func101 rfl rfl NM (by simp) hH ?_);simp [Gb,Gc,Gd,Ge,Gf,Gg,hb,hall,hnl,bS,refs,dM,dn,cr,dC,dD,dedup,cL,cd,tD,hf,vn,jW,im]
theorem uK (l:List ak)(h0:l≠[])(hn:l.length≤1000000)(hH:0<H.length)(hf:H.get (H.length-1,ao c 7)=none):
  aL KC (aG KC) 75 [.pure (.slice (l.map ak.row))] c H=some (.aZ (H.length-1,ao c 7) 9 l.length 0 l.length,H.set (H.length-1,ao c 7) (.arr 9 (l.map ak.row) 0 false)):=by
 obtain⟨x,l',rfl⟩:=List.exists_cons_of_ne_nil h0;have hb:(l'.length+1)*72≤1099511627776:=(by simp at hn;omega);have hall: ∀x:ak,(ak.row x).length=9:=fun x=>rfl;have hnl: ¬H.length+1≤H.length:=(by omega);rw [ot rfl rfl rfl];refine aM (aH KC au Tryz.func75 rfl rfl Wz (by simp) hH ?_);simp [Gb,Gc,Gd,Ge,Gf,Gg,hb,hall,hnl,bS,refs,dM,dn,cr,dC,dD,dedup,cL,cd,tD,hf,vn,jW,im]
end
section
variable {c:Nat} {H:aj}
def bT (r:aC)(s:az):dF:= .box [.pure (.int .i64 r.wide), .pure (.int .i64 r.deep), .pure (.slice (r.ah.map aS.row)), .pure (.slice (r.aa.map aY.row)), .pure (.slice (r.seen.map aE)), .pure (.slice (r.aP.map aE)), .pure (.slice (r.ai.map ak.row)), .pure (.slice (s.ah.map aE)), .pure (.slice (s.aq.map aF.row)), .pure (.slice (s.aa.map bm.row))]
structure Full (s:az):Prop where
 p0:s.ah≠[]
 h0:s.aq≠[]
 pl:s.ah.length≤1000000
 hl:s.aq.length≤1000000
 tl:s.aa.length≤1000000
theorem Hp (r:aC){s:az}(h:Full s)(ht0:s.aa≠[])(hH:0<H.length)(hf1:H.get (H.length-1,ao c 28679)=none)(hf2:H.get (H.length-1,ao c 28683)=none)(hf3:H.get (H.length-1,ao c 28687)=none):
  aL KC (aG KC) 63 [.pure (.agg (aU r s))] c H=some (vz r (H.length-1,ao c 28679) (H.length-1,ao c 28683) (H.length-1,ao c 28687) s,
   cn H (H.length-1,ao c 28679) (H.length-1,ao c 28683) (H.length-1,ao c 28687) 0 0 0 s):=by
 refine aM (aW KC au Tryz.func63 rfl rfl I6 rfl rfl rfl (by simp) hH ?_);have jP:ao c 28679≠ao c 28683:=(by unfold ao;omega);have kL:ao c 28679≠ao c 28687:=(by unfold ao;omega);have jZ:ao c 28683≠ao c 28687:=(by unfold ao;omega);have k1:(H.length-1,ao c 28683)≠((H.length-1,ao c 28679):Nm):=fun e=>jP (Prod.mk.inj e).2.symm;have k2:(H.length-1,ao c 28687)≠((H.length-1,ao c 28679):Nm):=fun e=>kL (Prod.mk.inj e).2.symm;have k3:(H.length-1,ao c 28687)≠((H.length-1,ao c 28683):Nm):=fun e=>jZ (Prod.mk.inj e).2.symm;have g2: ∀b,(H.set (H.length-1,ao c 28679) b).get (H.length-1,ao c 28683)=none:=fun b=>(aj.aK b k1).trans hf2;have g3: ∀b b',((H.set (H.length-1,ao c 28679) b).set (H.length-1,ao c 28683) b').get (H.length-1,ao c 28687)=none:=fun b b'=>(aj.aK b' k3).trans ((aj.aK b k2).trans hf3);have m1:ao 6 7=28679:=(by decide);have m2:ao 10 7=28683:=(by decide);have m3:ao 14 7=28687:=(by decide);have C1:=fun(F:Fr) (hf:F.get 28679=none)=>u4 (c:=6) (H:=F::H) s.ah h.p0 h.pl (by simp) (by simp [m1,hf]);have C2:=fun(F:Fr) (hf:F.get 28683=none)=>td (c:=10) (H:=F::H) s.aq h.h0 h.hl (by simp) (by simp [m2,hf]);have C3:=fun(F:Fr) (hf:F.get 28687=none)=>AR (c:=14) (H:=F::H) s.aa ht0 h.tl (by simp) (by simp [m3,hf]);simp [m1,m2,m3]at C1 C2 C3;unfold aU;simp [C1,C2,C3,bS,refs,dM,dn,cr,dC,dD,dedup,cL,cd,tD,hf1,g2,g3,vn,jW,im,cn,vz]
def stE (r:aC)(n1 n2:Nm)(s:az):GV:= .agg [.pure (.int .i64 r.wide), .pure (.int .i64 r.deep), .pure (.slice (r.ah.map aS.row)), .pure (.slice (r.aa.map aY.row)), .pure (.slice (r.seen.map aE)), .pure (.slice (r.aP.map aE)), .pure (.slice (r.ai.map ak.row)), .aZ n1 1 s.ah.length 0 s.ah.length, .aZ n2 2 s.aq.length 0 s.aq.length, .aR]
theorem CK:aL KC (aG KC) 101 [.pure (.slice [])] c H=some (.aR,H):=by
 unfold aL;rw [show KC.xS 101=true from rfl]
 simp [mX]
theorem D6 (r:aC){s:az}(h:Full s)(ht0:s.aa=[])(hH:0<H.length)(hf1:H.get (H.length-1,ao c 28679)=none)(hf2:H.get (H.length-1,ao c 28683)=none):
  aL KC (aG KC) 63 [.pure (.agg (aU r s))] c H=some (stE r (H.length-1,ao c 28679) (H.length-1,ao c 28683) s,
   (H.set (H.length-1,ao c 28679) (.arr 1 (s.ah.map aE) 0 false)).set (H.length-1,ao c 28683) (.arr 2 (s.aq.map aF.row) 0 false)):=by
 refine aM (aW KC au Tryz.func63 rfl rfl I6 rfl rfl rfl (by simp) hH ?_);have jP:ao c 28679≠ao c 28683:=(by unfold ao;omega);have k1:(H.length-1,ao c 28683)≠((H.length-1,ao c 28679):Nm):=fun e=>jP (Prod.mk.inj e).2.symm;have g2: ∀b,(H.set (H.length-1,ao c 28679) b).get (H.length-1,ao c 28683)=none:=fun b=>(aj.aK b k1).trans hf2;have m1:ao 6 7=28679:=(by decide);have m2:ao 10 7=28683:=(by decide);have C1:=fun(F:Fr) (hf:F.get 28679=none)=>u4 (c:=6) (H:=F::H) s.ah h.p0 h.pl (by simp) (by simp [m1,hf]);have C2:=fun(F:Fr) (hf:F.get 28683=none)=>td (c:=10) (H:=F::H) s.aq h.h0 h.hl (by simp) (by simp [m2,hf]);have C3:=fun(H:aj)=>CK (c:=14) (H:=H);simp [m1,m2]at C1 C2;unfold aU;simp [ht0,C1,C2,C3,bS,refs,dM,dn,cr,dC,dD,dedup,cL,cd,tD,hf1,g2,vn,jW,im,stE]
def ad5 (r:aC)(s:az):Prop:= ∀i,i<r.aa.length→s.aa.getD i aV=⟨(r.aa.getD i cK).home,(r.aa.getD i cK).want⟩
def PT (s:az):Prop:=s.aq=s.aq.map fun _=>empty
noncomputable def kU:aC→az→Bool:=mI fun r s=>decide (s.aq=s.aq.map fun _=>empty) && decide (∀i,i<r.aa.length→s.aa.getD i aV=⟨(r.aa.getD i cK).home,(r.aa.getD i cK).want⟩)
theorem sI (r:aC)(s:az):kU r s=(decide (s.aq=s.aq.map fun _=>empty) && decide (∀i,i<r.aa.length→s.aa.getD i aV=⟨(r.aa.getD i cK).home,(r.aa.getD i cK).want⟩)):=by rw [kU,cO]
theorem Ij (r:aC)(s:az)(hn:s.aq.length≤1000000)(Q:GX→bN→Prop): ∀k i:Nat,i+k=s.aq.length→
  ((∀j,i≤j→j<s.aq.length→s.aq.getD j bH=empty)→Q (.exit 0) ⟨[(1, .aA (H.length,1) 0),(2,aN)],[(1,bT r s)]::H,41⟩)→
  (¬(∀j,i≤j→j<s.aq.length→s.aq.getD j bH=empty)→Q .ret ⟨[(1, .aA (H.length,1) 0),(2, .pure (.bool false))],[(1,bT r s)]::H,41⟩)→
  fM KC au 94 (lp Tryz.f94 0) [1,9,10,11] [1,2] Q [(1, .aA (H.length,1) 0),(9, .pure (.slice (s.aq.map aF.row))),(10, .pure (.int .i64 s.aq.length)),(11, .pure (.int .i64 i))] ([(1,bT r s)]::H) 41:=by
 intro k
 induction k with
 |zero=>
  intro i hi h1 h2;apply ax;conv=>arg 4;whnf
  have: ¬i<s.aq.length:=(by omega);simp [this,bT];simpa [bT]using h1 (fun j a b=>by omega)
 |succ k ih=>
  intro i hi h1 h2;have hia:i<s.aq.length:=(by omega);have hw:=cU (x:=(i:Int)+1) (by omega) (by omega);have hg:=bf (d:=bH) hia;apply ax;conv=>arg 4;whnf
  by_cases e1:s.aq[i].l= -1
  ·by_cases e2:s.aq[i].r= -1
   ·have he:s.aq.getD i bH=empty:=(by rw [hg];cases hh:s.aq[i];rw [hh]at e1 e2;simp only at e1 e2;rw [e1,e2];rfl);have ih':=ih (i+1) (by omega) (fun h=>h1 fun j a b=>by
     by_cases e:j=i
     ·rw [e];exact he
     ·exact h j (by omega) b) (fun h=>h2 fun h'=>h fun j a b=>h' j (by omega) b)
    simp [hia,aF.row,hw,bT,e1,e2];simpa [aF.row,bT]using ih'
   ·have e2':(s.aq[i].r== -1)=false:=(by simpa using e2);simp [hia,aF.row,bT,e1,e2'];simpa [bT]using h2 fun h'=>by
     have:=h' i (Nat.le_refl _) hia;rw [hg]at this;rw [this]at e2;exact e2 rfl
  ·have e1':(s.aq[i].l== -1)=false:=(by simpa using e1);simp [hia,aF.row,bT,e1'];simpa [bT]using h2 fun h'=>by
    have:=h' i (Nat.le_refl _) hia;rw [hg]at this;rw [this]at e1;exact e1 rfl
theorem Ik (r:aC)(s:az)(hn:r.aa.length≤1000000)(hst:s.aa.length=r.aa.length)(Q:GX→bN→Prop): ∀k i:Nat,i+k=r.aa.length→
  ((∀j,i≤j→j<r.aa.length→s.aa.getD j aV=⟨(r.aa.getD j cK).home,(r.aa.getD j cK).want⟩)→Q (.exit 2) ⟨[(2,aN)],[(1,bT r s)]::H,41⟩)→
  (¬(∀j,i≤j→j<r.aa.length→s.aa.getD j aV=⟨(r.aa.getD j cK).home,(r.aa.getD j cK).want⟩)→Q .ret ⟨[(2, .pure (.bool false))],[(1,bT r s)]::H,41⟩)→
  fM KC au 94 (lp Tryz.f94 1) [1,21,22,23] [2] Q [(1, .aA (H.length,1) 0),(21, .pure (.slice (r.aa.map aY.row))),(22, .pure (.int .i64 r.aa.length)),(23, .pure (.int .i64 i))] ([(1,bT r s)]::H) 41:=by
 intro k
 induction k with
 |zero=>
  intro i hi h1 h2;apply ax;conv=>arg 4;whnf
  have: ¬i<r.aa.length:=(by omega);simp [this,bT];simpa [bT]using h1 (fun j a b=>by omega)
 |succ k ih=>
  intro i hi h1 h2;have hia:i<r.aa.length:=(by omega);have his:i<s.aa.length:=(by omega);have hw:=cU (x:=(i:Int)+1) (by omega) (by omega);have hg:=bf (d:=cK) hia;have hg2:=bf (d:=aV) his;apply ax;conv=>arg 4;whnf
  by_cases e1:s.aa[i].cell=r.aa[i].home
  ·by_cases e2:s.aa[i].state=r.aa[i].want
   ·have he:s.aa.getD i aV=⟨(r.aa.getD i cK).home,(r.aa.getD i cK).want⟩:=(by rw [hg,hg2,←e1,←e2]);have ih':=ih (i+1) (by omega) (fun h=>h1 fun j a b=>by
     by_cases e:j=i
     ·rw [e];exact he
     ·exact h j (by omega) b) (fun h=>h2 fun h'=>h fun j a b=>h' j (by omega) b)
    simp [hia,his,aY.row,bm.row,hw,bT,e1,e2];simpa [aY.row,bm.row,bT]using ih'
   ·have e2':(s.aa[i].state==r.aa[i].want)=false:=(by simpa using e2);simp [hia,his,aY.row,bm.row,bT,e1,e2'];simpa [bT]using h2 fun h'=>by
     have:=h' i (Nat.le_refl _) hia;rw [hg,hg2]at this;rw [this]at e2;exact e2 rfl
  ·have e1':(s.aa[i].cell==r.aa[i].home)=false:=(by simpa using e1);simp [hia,his,aY.row,bm.row,bT,e1'];simpa [bT]using h2 fun h'=>by
    have:=h' i (Nat.le_refl _) hia;rw [hg,hg2]at this;rw [this]at e1;exact e1 rfl
theorem wO (r:aC)(s:az)(hn:r.aa.length≤1000000)(hn2:s.aq.length≤1000000)(hst:s.aa.length=r.aa.length)(hH:0<H.length):
  aL KC (aG KC) 94 [.pure (.agg (aU r s))] c H=some (.pure (.bool (kU r s)),H):=by
 refine dp rfl rfl rfl rfl rfl hH fun H hH=> ?_;refine aM (aH KC au Tryz.func94 rfl rfl WS (by simp) hH ?_);have hd:=sI r s;have eh:(∀j,0≤j→j<s.aq.length→s.aq.getD j bH=empty)↔PT s:=by
  unfold PT;constructor
  ·intro h;refine List.ext_getElem (by simp) fun j h1 h2=> ?_;have:=h j (Nat.zero_le _) h1;rw [bf h1]at this;simp [this]
  ·intro h j _ hj;rw [bf hj];have:s.aq[j]'hj=(s.aq.map fun _=>empty)[j]'(by simpa using hj):=(by congr 1);rw [this];simp
 have et:(∀j,0≤j→j<r.aa.length→s.aa.getD j aV=⟨(r.aa.getD j cK).home,(r.aa.getD j cK).want⟩)↔ad5 r s:=⟨fun h i hi=>h i (Nat.zero_le _) hi,fun h i _ hi=>h i hi⟩;have L1:=fun Q=>Ij (H:=H) r s hn2 Q s.aq.length 0 (by omega);rw [eh]at L1;have L2:=fun Q=>Ik (H:=H) r s hn hst Q r.aa.length 0 (by omega);rw [et]at L2;unfold aU;simp;simp [bT]at L1 L2;refine L1 _ (fun h=> ?_) (fun h=> ?_)
 ·simp;refine L2 _ (fun h2=> ?_) (fun h2=> ?_)
  ·have:kU r s=true:=(by rw [hd,decide_eq_true (p:=s.aq=s.aq.map fun _=>empty) h,Bool.true_and];exact decide_eq_true (p:= ∀i,i<r.aa.length→s.aa.getD i aV=⟨(r.aa.getD i cK).home,(r.aa.getD i cK).want⟩) h2);simp [ae,this]
  ·have:kU r s=false:=by
    rw [hd,Bool.and_eq_false_iff];right;exact decide_eq_false (p:= ∀i,i<r.aa.length→s.aa.getD i aV=⟨(r.aa.getD i cK).home,(r.aa.getD i cK).want⟩) h2
   simp [ae,this]
 ·have:kU r s=false:=by
   rw [hd,Bool.and_eq_false_iff];left;exact decide_eq_false (p:=s.aq=s.aq.map fun _=>empty) h
  simp [ae,this]
end
section
variable {c:Nat} {H:aj}
theorem aec {l key es bytes dw es2:Nat}{rows rows2:List (List PV)}{r:List PV}{X f0:Fr}(hl:H.length=l)(hne:key≠dw)(hf:X.get key=none)(hb:(rows.length+1)*bytes≤1099511627776):
  xR l key (cH (l,key) es rows) es bytes [r] (f0::eG dw es2 rows2 (eG key es rows X)::H)=some (cH (l,key) es (rows++[r]),f0::eG dw es2 rows2 (eG key es (rows++[r]) X)::H):=by
 subst hl;have g: ∀rows,(eG dw es2 rows2 (eG key es rows X)).get key=(eG key es rows X).get key:=fun rows=>bE hne;have hh: ∀Fx:Fr,aj.get (f0::Fx::H) (H.length,key)=Fx.get key:=fun Fx=>(by simp);rw [pZ (fun h=>(hh _).trans ((g _).trans (by rw [h,ja,hf]))) (fun h=>(hh _).trans ((g _).trans (dg h))) (by simp;omega) hb];have e:(eG dw es2 rows2 (eG key es rows X)).ins key (.arr es (rows++[r]) 0 false)=eG dw es2 rows2 (eG key es (rows++[r]) X):=by
  rw [r8 hne,AQ];congr 1;unfold eG;simp
 simp [e]
def pF:dF:= .box [.pure (.int .i64 0), .pure (.int .i64 0), .aR, .aR, .aR, .aR, .aR, .aR, .aR, .aR]
def EU (r:aC)(L:Nat)(p:List Int)(h:List aF):Fr:=eG 31 2 (h.map aF.row) (eG 23 1 (p.map aE) [(1,aD r),(2,pF),(3, .box [.pure (.int .i64 r.wide), .pure (.int .i64 r.deep), .pure (.slice (r.ah.map aS.row)), .pure (.slice (r.aa.map aY.row)), .pure (.slice (r.seen.map aE)), .pure (.slice (r.aP.map aE)), .pure (.slice (r.ai.map ak.row)),cH (L,23) 1 (p.map aE),cH (L,31) 2 (h.map aF.row), .aR])])
theorem Il (r:aC)(hpl:r.ah.length≤1000000)(Q:GX→bN→Prop): ∀(k i:Nat) (p:List Int) (h:List aF),i+k=r.ah.length→p.length=i→h.length=i→
  Q (.exit 0) ⟨[(1, .aA (H.length,1) 0),(2, .aA (H.length,2) 0),(3, .aA (H.length,3) 0)],EU r H.length (p++(r.ah.drop i).map (·.cell)) (h++(r.ah.drop i).map fun _=>empty)::H,56⟩→
  fM KC au 92 (lp Tryz.f92 0) [1,2,3,11,12,13] [1,2,3] Q [(1, .aA (H.length,1) 0),(2, .aA (H.length,2) 0),(3, .aA (H.length,3) 0),(11, .pure (.slice (r.ah.map aS.row))),(12, .pure (.int .i64 r.ah.length)),(13, .pure (.int .i64 i))] (EU r H.length p h::H) 56:=by
 intro k
 induction k with
 |zero=>
  intro i p h hi hp hh hq;have e1:r.ah.drop i=[]:=List.drop_of_length_le (by omega);rw [e1]at hq;apply ax;conv=>arg 4;whnf
  have: ¬i<r.ah.length:=(by omega);simp [this,EU];simpa [EU]using hq
 |succ k ih=>
  intro i p h hi hp hh hq;have hia:i<r.ah.length:=(by omega);have hw:=cU (x:=(i:Int)+1) (by omega) (by omega);have e1:r.ah.drop i=r.ah[i]::r.ah.drop (i+1):=List.drop_eq_getElem_cons hia;have ih':=ih (i+1) (p++[r.ah[i].cell]) (h++[empty]) (by omega) (by simp [hp]) (by simp [hh]) (by rw [e1,List.map_cons,List.map_cons]at hq;rw [List.append_assoc,List.append_assoc];exact hq);have b1:(p.length+1)*8≤1099511627776:=(by omega);have b2:(h.length+1)*16≤1099511627776:=(by omega);have K1:=fun(f0 X:Fr) hf=>aec (H:=H) (l:=H.length) (key:=23) (es:=1) (bytes:=8) (dw:=31) (es2:=2) (rows:=p.map aE) (rows2:=h.map aF.row) (r:=[.int .i64 r.ah[i].cell]) (X:=X) (f0:=f0) rfl (by decide) hf (by simpa using b1);have K2:=fun(f0 X:Fr) hf=>vR (H:=H) (l:=H.length) (key:=31) (es:=2) (bytes:=16) (rows:=h.map aF.row) (r:=[.int .i64 (-1), .int .i64 (-1)]) (fr:=X) (f0:=f0) rfl hf (by simpa using b2);apply ax;conv=>arg 4;whnf
  simp [EU,aE,aF.row,empty]at ih';simp [hia,aS.row,EU,hw,K1,K2];exact ih'
def EV (r:aC)(L:Nat)(p:List Int)(h:List aF)(t:List bm):Fr:=eG 51 2 (t.map bm.row) (eG 31 2 (h.map aF.row) (eG 23 1 (p.map aE) [(1,aD r),(2,pF),(3, .box [.pure (.int .i64 r.wide), .pure (.int .i64 r.deep), .pure (.slice (r.ah.map aS.row)), .pure (.slice (r.aa.map aY.row)), .pure (.slice (r.seen.map aE)), .pure (.slice (r.aP.map aE)), .pure (.slice (r.ai.map ak.row)),cH (L,23) 1 (p.map aE),cH (L,31) 2 (h.map aF.row),cH (L,51) 2 (t.map bm.row)])]))
theorem Im (r:aC)(htl:r.aa.length≤1000000)(p:List Int)(h:List aF)(Q:GX→bN→Prop): ∀(k i:Nat) (t:List bm),i+k=r.aa.length→t.length=i→
  Q (.exit 2) ⟨[(2, .aA (H.length,2) 0),(3, .aA (H.length,3) 0)],EV r H.length p h (t++(r.aa.drop i).map gC)::H,56⟩→
  fM KC au 92 (lp Tryz.f92 1) [2,3,36,37,38] [2,3] Q [(2, .aA (H.length,2) 0),(3, .aA (H.length,3) 0),(36, .pure (.slice (r.aa.map aY.row))),(37, .pure (.int .i64 r.aa.length)),(38, .pure (.int .i64 i))] (EV r H.length p h t::H) 56:=by
 intro k
 induction k with
 |zero=>
  intro i t hi ht hq;have e1:r.aa.drop i=[]:=List.drop_of_length_le (by omega);rw [e1]at hq;apply ax;conv=>arg 4;whnf
  have: ¬i<r.aa.length:=(by omega);simp [this,EV];simpa [EV]using hq
 |succ k ih=>
  intro i t hi ht hq;have hia:i<r.aa.length:=(by omega);have hw:=cU (x:=(i:Int)+1) (by omega) (by omega);have e1:r.aa.drop i=r.aa[i]::r.aa.drop (i+1):=List.drop_eq_getElem_cons hia;have ih':=ih (i+1) (t++[gC r.aa[i]]) (by omega) (by simp [ht]) (by rw [e1,List.map_cons]at hq;rw [List.append_assoc];exact hq);have b2:(t.length+1)*16≤1099511627776:=(by omega);have K2:=fun(f0 X:Fr) hf=>vR (H:=H) (l:=H.length) (key:=51) (es:=2) (bytes:=16) (rows:=t.map bm.row) (r:=[.int .i64 r.aa[i].cell, .int .i64 r.aa[i].state]) (fr:=X) (f0:=f0) rfl hf (by simpa using b2);apply ax;conv=>arg 4;whnf
  simp [EV,bm.row,gC]at ih';simp [hia,aY.row,EV,hw,K2];exact ih'
theorem tW (r:aC)(hpl:r.ah.length≤1000000)(htl:r.aa.length≤1000000)(hH:0<H.length):
  aL KC (aG KC) 92 [.pure (.agg r.row)] c H=some (.pure (.agg (aU r (ay r))),H):=by
 refine aM (aW KC au Tryz.func92 rfl rfl WQ rfl rfl rfl (by simp) hH ?_);rw [cI];have L1:=fun Q h=>Il (H:=H) r hpl Q r.ah.length 0 [] [] (by omega) rfl rfl h;simp [EU,ff,ja,aD,pF]at L1;simp;refine L1 _ ?_;clear L1;have L2:=fun p h Q hh=>Im (H:=H) r htl p h Q r.aa.length 0 [] (by omega) rfl hh;simp [EV,ff,ja,aD,pF]at L2;simp;have L3:=L2 (r.ah.map (·.cell)) (r.ah.map fun _=>empty);simp at L3;refine L3 _ ?_;clear L2 L3;simp;obtain⟨a1,h1⟩: ∃a1,r.ah.map (aE ∘ fun x=>x.cell)=a1:=⟨_,rfl⟩;obtain⟨a2,h2⟩: ∃a2,r.ah.map (aF.row ∘ fun _=>empty)=a2:=⟨_,rfl⟩;obtain⟨a3,h3⟩: ∃a3,r.aa.map (bm.row ∘ gC)=a3:=⟨_,rfl⟩;rw [h1,h2,h3];generalize hx:dF.box [.pure (.int .i64 r.wide), .pure (.int .i64 r.deep), .pure (.slice (r.ah.map aS.row)), .pure (.slice (r.aa.map aY.row)), .pure (.slice (r.seen.map aE)), .pure (.slice (r.aP.map aE)), .pure (.slice (r.ai.map ak.row)),cH (H.length,23) 1 a1,cH (H.length,31) 2 a2,cH (H.length,51) 2 a3]=x;obtain⟨y,hy⟩: ∃y,dF.box [.pure (.int .i64 r.wide), .pure (.int .i64 r.deep), .pure (.slice (r.ah.map aS.row)), .pure (.slice (r.aa.map aY.row)), .pure (.slice (r.seen.map aE)), .pure (.slice (r.aP.map aE)), .pure (.slice (r.ai.map ak.row))]=y:=⟨_,rfl⟩;rw [hy];obtain⟨F,hF⟩: ∃F,eG 51 2 a3 (eG 31 2 a2 (eG 23 1 a1 [(1,y),(2,x),(3,x)]))=F:=⟨_,rfl⟩;have g1:a1≠[]→F.get 23=some (.arr 1 a1 0 false):=fun h=>(by rw [←hF,bE (by decide),bE (by decide),dg h]);have g2:a2≠[]→F.get 31=some (.arr 2 a2 0 false):=fun h=>(by rw [←hF,bE (by decide),dg h]);have g3:a3≠[]→F.get 51=some (.arr 2 a3 0 false):=fun h=>(by rw [←hF,dg h]);rw [hF,ae (by simp),gS];have lt:H.length-1<H.length:=(by omega);rw [qb];have ci: ∀rows:List (List PV),cJ (if rows=[]then .aR else .pure (.slice rows))= .pure (.slice rows):=fun rows=>by
  split
  ·rename_i h;subst h;rfl
  ·rfl
 have e:canon (dm ([.pure (.int .i64 r.wide), .pure (.int .i64 r.deep), .pure (.slice (r.ah.map aS.row)), .pure (.slice (r.aa.map aY.row)), .pure (.slice (r.seen.map aE)), .pure (.slice (r.aP.map aE)), .pure (.slice (r.ai.map ak.row)),cH (H.length,23) 1 a1,cH (H.length,31) 2 a2,cH (H.length,51) 2 a3].map (cP (F::H) (H.length-1))))= .pure (.agg (aU r (ay r))):=by
  refine pk ?_;simp only [List.map_cons,List.map_nil,mc,dz rfl lt g1,dz rfl lt g2,dz rfl lt g3,ci];simp [aU,ay,←h1,←h2,←h3,cJ]
 rw [e]
end
section
variable {c:Nat} {H:aj}
def kS (tk:List (Int×Int)):List (PV×GV):=tk.map fun x=>(.agg [.int .i64 x.1, .int .i64 x.2], .pure (.bool true))
theorem nj (a b : Int) : ∀ (tk : List (Int × Int)) (i : Nat), cQ (.agg [.int .i64 a, .int .i64 b]) (kS tk) i = some (if (a, b) ∈ tk then some (i + tk.idxOf (a, b), .pure (.bool true)) else none)
  | [], i => by simp [kS, cQ]
  | (p, q) :: tk, i => by
    have ih := nj a b tk (i + 1)
    unfold kS at ih ⊢
    rw [List.map_cons]
    unfold cQ
    by_cases h : a = p ∧ b = q
    · obtain ⟨rfl, rfl⟩ := h
      simp [oC, jB]
    · have h' : (a == p && b == q) = false := by
        rw [Bool.and_eq_false_iff]
        by_cases e : a = p
        · right; simpa using fun e2 => h ⟨e, e2⟩
        · left; simpa using e
      have hne : ¬ (a, b) = (p, q) := fun e => h ⟨(Prod.mk.inj e).1, (Prod.mk.inj e).2⟩
      have hne' : ¬ (p, q) = (a, b) := fun e => hne e.symm
      simp only [oC, jB, if_true, Bool.and_true, h', ih, List.mem_cons, hne, false_or]
      have hb : ((p, q) == (a, b)) = false := by simpa using hne'
      simp only [List.idxOf_cons, hb, cond_false, Option.some.injEq]
      by_cases hm : (a, b) ∈ tk
      · simp [hm]; omega
      · simp [hm]
def xC (tk:List (Int×Int))(x:Int×Int):List (Int×Int):=if x∈tk then tk else tk++[x]
theorem KM {tk:List (Int×Int)}{x y:Int×Int}:y∈xC tk x↔y∈tk∨y=x:=by
 unfold xC;split
 ·rename_i h;constructor
  ·exact .inl
  ·rintro(h'|rfl)
   ·exact h'
   ·exact h
 ·simp
def eZ (tk l:List (Int×Int)):List (Int×Int):=l.foldl xC tk
theorem yN {y:Int×Int}: ∀{l tk:List (Int×Int)},y∈eZ tk l↔y∈tk∨y∈l
 | [],tk=>by simp [eZ]
 |x::l,tk=>by
  show y∈eZ (xC tk x) l↔_
  rw [yN,KM];simp only [List.mem_cons];constructor
  ·rintro((h|h)|h)
   ·exact .inl h
   ·exact .inr (.inl h)
   ·exact .inr (.inr h)
  ·rintro(h|h|h)
   ·exact .inl (.inl h)
   ·exact .inl (.inr h)
   ·exact .inr h
theorem KN {tk:List (Int×Int)}{a b:Int}(h:(a,b)∈tk):(kS tk).set (tk.idxOf (a,b)) (.agg [.int .i64 a, .int .i64 b], .pure (.bool true))=kS tk:=by
 have hl:tk.idxOf (a,b)<tk.length:=List.idxOf_lt_length_iff.2 h;unfold kS;refine List.ext_getElem (by simp) fun j h1 h2=> ?_;rw [List.getElem_set];split
 ·rename_i e;subst e;simp [List.getElem_idxOf]
 ·rfl
theorem KO {tk:List (Int×Int)}{a b:Int}:kS tk++[(.agg [.int .i64 a, .int .i64 b], .pure (.bool true))]=kS (tk++[(a,b)]):=by simp [kS]
structure MF (F:Fr)(r:aC)(s:az)(tk:List (Int×Int)):Prop where
 g2:F.get 2=some (bT r s)
 g4:F.get 4=some pF
 gm:F.get 18=some (.map (kS tk))
theorem yO {F:Fr}{r:aC}{s:az}{tk:List (Int×Int)}(hF:MF F r s tk)(a:ak)(g:List ak)(n i:Nat)(l:List (Int×Int))(hl:l.length≤1000)(Q:GX→bN→Prop): ∀k j:Nat,j+k=l.length→
  ((∀x∈l.drop j,x∉tk)→Q (.exit 2) ⟨[(2, .aA (H.length,2) 0),(4, .aA (H.length,4) 0),(5,aN),(6,aN),(7, .aA (H.length,7) 0),(8, .map (H.length,18)),(10, .aA (H.length+1,10) 0),(11, .pure (.slice (l.map dQ))),(19, .pure (.slice (g.map ak.row))),(20, .pure (.int .i64 n)),(21, .pure (.int .i64 i))],[(10,bR a)]::F::H,65⟩)→
  (¬(∀x∈l.drop j,x∉tk)→Q .ret ⟨[(2, .aA (H.length,2) 0),(4, .aA (H.length,4) 0),(5, .pure (.int .i64 i)),(6, .pure (.int .i64 12)),(7, .aA (H.length,7) 0),(8, .map (H.length,18)),(10, .aA (H.length+1,10) 0),(11, .pure (.slice (l.map dQ))),(19, .pure (.slice (g.map ak.row))),(20, .pure (.int .i64 n)),(21, .pure (.int .i64 i))],[(10,bR a)]::F.ins 4 (bT r s)::H,65⟩)→
  fM KC au 118 (lp Tryz.f118 1) [2,4,7,8,9,10,11,19,20,21,35,36,37] [2,4,5,6,7,8,10,11,19,20,21] Q
   [(2, .aA (H.length,2) 0),(4, .aA (H.length,4) 0),(7, .aA (H.length,7) 0),(8, .map (H.length,18)),(9, .pure (.int .i64 i)),(10, .aA (H.length+1,10) 0),(11, .pure (.slice (l.map dQ))),(19, .pure (.slice (g.map ak.row))),(20, .pure (.int .i64 n)),(21, .pure (.int .i64 i)),(35, .pure (.slice (l.map dQ))),(36, .pure (.int .i64 l.length)),(37, .pure (.int .i64 j))] ([(10,bR a)]::F::H) 65:=by
 have g2:=hF.g2;have g4:=hF.g4;have gm:=hF.gm;intro k
 induction k with
 |zero=>
  intro j hj h1 h2;apply ax;conv=>arg 4;whnf
  have hnl: ¬j<l.length:=(by omega);have e:l.drop j=[]:=List.drop_of_length_le (by omega);simp [hnl];simpa [bR]using h1 (by rw [e];simp)
 |succ k ih=>
  intro j hj h1 h2;have hja:j<l.length:=(by omega);have hw:=cU (x:=(j:Int)+1) (by omega) (by omega);have ed:l.drop j=l[j]::l.drop (j+1):=List.drop_eq_getElem_cons hja;have ne: ¬H.length=H.length+1:=(by omega);simp only [bT]at g2;simp only [pF]at g4;apply ax;conv=>arg 4;whnf
  by_cases hm:l[j]∈tk
  ·have hm':(l[j].1,l[j].2)∈tk:=hm;have h2':=h2 (fun h=>h l[j] (by rw [ed];exact List.mem_cons_self ..) hm);simp only [bT,bR]at h2';simp [hja,dQ,gm,nj,hm',mapOf,ne,g2,g4,aI,bR];exact h2'
  ·have hm': ¬(l[j].1,l[j].2)∈tk:=hm;have ih':=ih (j+1) (by omega) (fun h=>h1 fun x hx=>by
    rw [ed]at hx;rcases List.mem_cons.1 hx with rfl|hx
    ·exact hm
    ·exact h x hx) (fun h=>h2 fun h'=>h fun x hx=>h' x (by rw [ed];exact List.mem_cons_of_mem _ hx))
   simp [hja,dQ,gm,nj,hm',mapOf,ne,hw,bR];simpa [dQ,bR]using ih'
theorem Ca {a:ak}(g:List ak)(n i:Nat)(l:List (Int×Int))(hl:l.length≤1000)(Q:GX→bN→Prop): ∀(k j:Nat) (F:Fr) (tk:List (Int×Int)),j+k=l.length→F.gU→F.get 18=some (.map (kS tk))→
  Q (.exit 4) ⟨[(2, .aA (H.length,2) 0),(4, .aA (H.length,4) 0),(7, .aA (H.length,7) 0),(8, .map (H.length,18)),(10, .aA (H.length+1,10) 0),(19, .pure (.slice (g.map ak.row))),(20, .pure (.int .i64 n)),(21, .pure (.int .i64 i))],[(10,bR a)]::F.ins 18 (.map (kS (eZ tk (l.drop j))))::H,65⟩→
  fM KC au 118 (lp Tryz.f118 2) [2,4,7,8,10,19,20,21,47,48,49] [2,4,7,8,10,19,20,21] Q
   [(2, .aA (H.length,2) 0),(4, .aA (H.length,4) 0),(7, .aA (H.length,7) 0),(8, .map (H.length,18)),(10, .aA (H.length+1,10) 0),(19, .pure (.slice (g.map ak.row))),(20, .pure (.int .i64 n)),(21, .pure (.int .i64 i)),(47, .pure (.slice (l.map dQ))),(48, .pure (.int .i64 l.length)),(49, .pure (.int .i64 j))] ([(10,bR a)]::F::H) 65:=by
 intro k
 induction k with
 |zero=>
  intro j F tk hj hs gm h1;apply ax;conv=>arg 4;whnf
  have hnl: ¬j<l.length:=(by omega);have e:l.drop j=[]:=List.drop_of_length_le (by omega);rw [e,show eZ tk []=tk from rfl,Fr.pQ hs gm]at h1
  simp only [bR]at h1;simp [hnl,bR];exact h1
 |succ k ih=>
  intro j F tk hj hs gm h1;have hja:j<l.length:=(by omega);have hw:=cU (x:=(j:Int)+1) (by omega) (by omega);have ed:l.drop j=l[j]::l.drop (j+1):=List.drop_eq_getElem_cons hja;have ne: ¬H.length=H.length+1:=(by omega);rw [ed,show eZ tk (l[j]::l.drop (j+1))=eZ (xC tk l[j]) (l.drop (j+1))from rfl]at h1
  have ih':=ih (j+1) (F.ins 18 (.map (kS (xC tk l[j])))) (xC tk l[j]) (by omega) (Fr.cB hs) (Fr.a7 ..) (by rw [Fr.fe];exact h1);apply ax;conv=>arg 4;whnf
  by_cases hm:l[j]∈tk
  ·have hm':(l[j].1,l[j].2)∈tk:=hm;have e2:xC tk l[j]=tk:=(by unfold xC;rw [if_pos hm]);rw [e2]at ih';have e3:=KN hm';simp [hja,dQ,gm,nj,hm',ne,hw,bR,muV,lu,e3];simpa [dQ,bR]using ih'
  ·have hm': ¬(l[j].1,l[j].2)∈tk:=hm;have e2:xC tk l[j]=tk++[(l[j].1,l[j].2)]:=(by unfold xC;rw [if_neg hm]);rw [e2]at ih';simp [hja,dQ,gm,nj,hm',ne,hw,bR,muV,lu,KO];simpa [dQ,bR]using ih'
end
end Go.Gh
