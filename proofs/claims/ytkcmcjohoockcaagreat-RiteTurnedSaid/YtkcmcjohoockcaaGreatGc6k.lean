/- Texts joined: the evaluator over ghost values, its soundness, the walks. Spaces struck and names made short by a program, for the size. -/
import Derived.Test.YtkcmcjohoockcaaGreatGc6j
import Derived.Test.YtkcmcjohoockcaaGreatGc6f
import Derived.Test.YtkcmcjohoockcaaGreatGc6i
namespace Go.Gh
open Go.Proofs
set_option linter.unusedVariables false
set_option linter.unusedSimpArgs false
set_option linter.unnecessarySimpa false
set_option maxRecDepth 100000
set_option maxHeartbeats 8000000
section
variable {c:Nat} {H:ai}
noncomputable def wU (S:aZ)(st:LoopState)(p:Option GX):fS:={eA:=S,nt:=69,params:=[44],assign:=rgA Tryz.f116,body:=rgB Tryz.f116,fn:=116,state:=st,pending:=p}
def CG (r:aC)(s:ay)(l:List au)(n:Int)(b:Bool)(lb:fS):Fr:=
 [(9,bL r s),(10, .box [.pure (.slice (l.map au.row))]),(11, .box [.pure (.int .i64 n)]),(12, .box [.pure (.bool b)]),(10000010, .loop lb)]
def CT (r:aC)(s:ay)(l:List au)(n:Int)(b:Bool)(lb:fS)(G:ai):ai:=CG r s l n b lb::G
section
variable {r:aC} {s:ay} {l:List au} {n:Int} {b:Bool} {lb:fS} {G:ai} {L:Nat} (hL:G.length=L) (pre:ai)
include hL
theorem SL:(pre++CT r s l n b lb G).length=pre.length+(L+1):=by simp [CT,hL]
theorem sN (k:Nat):ai.get (pre++CT r s l n b lb G) (L,k)=(CG r s l n b lb).get k:=by
 rw [nu (by simp [CT,hL])];unfold CT;rw [ai.fb,if_pos hL.symm]
theorem SM {nm:Nm}(h:nm.1<L):ai.get (pre++CT r s l n b lb G) nm=ai.get G nm:=by
 rw [nu (by simp [CT,hL];omega)];unfold CT;rw [ai.fb,if_neg (by omega)]
theorem Eg (lb':fS):ai.set (pre++CT r s l n b lb G) (L,10000010) (.loop lb')=pre++CT r s l n b lb' G:=by
 rw [rE (by simp [CT,hL])];unfold CT;rw [ai.jB,if_pos hL.symm];rfl
theorem Ln (b':Bool):ai.set (pre++CT r s l n b lb G) (L,12) (.box [.pure (.bool b')])=pre++CT r s l n b' lb G:=by
 rw [rE (by simp [CT,hL])];unfold CT;rw [ai.jB,if_pos hL.symm];rfl
end
theorem Ik (l:List au)(hn:l.length≤1000000){F:Fr}(hf:F.get (ak c 7)=none): ∃g F',Sg H F' g l∧(∀q top,g= .bd (H.length,q) 9 top 0 top→q=ak c 7)∧(∀k,k≠ak c 7→F'.get k=F.get k)∧
  aN KC (aF KC) 75 [.pure (.slice (l.map au.row))] c (F::H)=some (g,F'::H):=by
 refine⟨_,_, ?_, ?_, ?_,HU l hn hf⟩
 ·unfold dh;by_cases h:l=[]
  ·subst h;exact Or.inl ⟨rfl,rfl⟩
  ·refine Or.inr ⟨h,ak c 7,0,by rw [if_neg (by simpa using h)];simp, ?_,Nat.zero_le _⟩;exact dH (by simpa using h)
 ·intro q top e;unfold dh at e;split at e
  ·cases e
  ·cases e;rfl
 ·intro k hk;exact bO hk
noncomputable def VY (r:aC)(s:ay)(l:List au)(n:Nat)(S:aZ)(up:ai→ai)(C:GV→ai)(a:GV×Bool):ai:=
 CT r s l ((n:Int)+1) a.2 (wU S (if a.2=true then .done else .ready) (if a.2=true then some .ret else none)) (up (C a.1))
section
variable {r:aC} {w:Nat} {aj:List au} {nU:Nat} {n3 n8 n9 n11 n15 n16 n17:Nm} {n0:Nat} {C:GV→ai} (M:Y3 r w aj nU n3 n8 n9 n11 n15 n16 n17 n0 C) (P:xB r w aj nU)
include M P
theorem SO {fin:ay→List au→Bool} {all:List au} {s:ay} (hS:fB r s) (hF:Full s) (l:List au) (hl:l.length≤100000) {n:Nat} (hn:n≤1000)
  (ih: ∀(c:Nat) (s:ay) (l:List au) (g:GV) (pre:ai),fB r s→Full s→l.length+n≤100001→
   bJ KC (aF KC) 116 [.pure (.agg (aP r s)), .pure (.slice (l.map au.row)), .pure (.int .i64 n), .aA n8 0, .aA n11 0, .aA n16 0, .aA n15 0, .aA n9 0, .aA n17 0] c (pre++C g)=
    some (.pure (.bool (ij r w all fin n s l g).2),pre++C (ij r w all fin n s l g).1))
  (hln:l.length+1+n≤100001) {x:au} (hx:AB r w x) (hp:bV r s w x=true) (S:aZ) {L:Nat} (pre0:ai) (hL:pre0.length+n0=L) (h9:look S 9= .aA (L,9) 0) (h10:look S 10= .aA (L,10) 0) (h11:look S 11= .aA (L,11) 0) (h12:look S 12= .aA (L,12) 0) (h6:look S 6= .aA n15 0) (h8:look S 8= .aA n17 0) (g:GV) (pre:ai):
  ground (aF KC) (L,10000010) [.pure (.agg x.row)] (pre++CT r s l ((n:Int)+1) false (wU S .ready none) (pre0++C g))=
   some (.pure (.bool (if gT r w (dn s w x)=true then true else !(ij r w all fin n (dn s w x) (l++[x]) g).2)),pre++VY r s l n S (pre0++ ·) C (if gT r w (dn s w x)=true then (g,false)else ij r w all fin n (dn s w x) (l++[x]) g)):=by
 have hG: ∀g,(pre0++C g).length=L:=fun g=>(by rw [List.length_append,M.len,hL]);have gl:=fun(lb:fS) (g:GV) (b:Bool) (pre:ai)=>sN (r:=r) (s:=s) (l:=l) (n:=(n:Int)+1) (b:=b) (lb:=lb) (hG g) pre 10000010;refine aM (Fp KC aw (l:=wU S .ready none) (s:=(44, .pure (.agg x.row))::S) ?_ rfl ?_ ?_ ?_ ?_)
 ·rw [gl];rfl
 ·simp [wU,iw]
 ·kernel_rfl
 ·kernel_rfl
 ·show wp KC aw 116 (rgA Tryz.f116) _ _
  conv=>arg 4;whnf
  have ln:=fun lb g b pre=>SL (r:=r) (s:=s) (l:=l) (n:=(n:Int)+1) (b:=b) (lb:=lb) (hG g) pre;have gl2:=fun(lb:fS) (g:GV) (b:Bool) (pre:ai)=>(gl lb g b pre).trans (show _=some (.loop lb)from rfl)
  have sl:=fun(lb lb':fS) (g:GV) (b:Bool) (pre:ai)=>Eg (r:=r) (s:=s) (l:=l) (n:=(n:Int)+1) (b:=b) (lb:=lb) (hG g) pre lb';have g9:=fun(lb:fS) (g:GV) (b:Bool) (pre:ai)=>(sN (r:=r) (s:=s) (l:=l) (n:=(n:Int)+1) (b:=b) (lb:=lb) (hG g) pre 9).trans (show _=some (bL r s)from rfl)
  have g10:=fun(lb:fS) (g:GV) (b:Bool) (pre:ai)=>(sN (r:=r) (s:=s) (l:=l) (n:=(n:Int)+1) (b:=b) (lb:=lb) (hG g) pre 10).trans (show _=some (.box [.pure (.slice (l.map au.row))])from rfl)
  have VW:=fun(lb:fS) (g:GV) (b:Bool) (pre:ai)=>(sN (r:=r) (s:=s) (l:=l) (n:=(n:Int)+1) (b:=b) (lb:=lb) (hG g) pre 11).trans (show _=some (.box [.pure (.int .i64 ((n:Int)+1))])from rfl)
  have low:=fun(lb:fS) (g:GV) (b:Bool) (pre:ai) (nm:Nm) (h:nm.1<n0)=>(SM (r:=r) (s:=s) (l:=l) (n:=(n:Int)+1) (b:=b) (lb:=lb) (hG g) pre (nm:=nm) (by omega)).trans (nu (G:=C g) (by rw [M.len];exact h) pre0);have g3:=fun(lb:fS) (g:GV) (b:Bool) (pre:ai)=>(low lb g b pre n3 M.l3).trans (M.g3 g);have g9':=fun(lb:fS) (g:GV) (b:Bool) (pre:ai)=>(low lb g b pre n9 M.l9).trans (M.g9 g);have O7:=fun(lb:fS) (g:GV) (b:Bool) (pre:ai)=>(low lb g b pre n15 M.Y4).trans (M.O7 g);have VX:=fun(lb:fS) (g:GV) (b:Bool) (pre:ai)=>(low lb g b pre n17 M.l17).trans (M.VX g);have m15:=M.Y4;have m17:=M.l17;have e0: ¬L=pre.length+(L+1):=(by omega);have e1: ¬L=pre.length+(L+1)+1:=(by omega);have e15: ¬n15.1=pre.length+(L+1):=(by omega);have e15': ¬n15.1=pre.length+(L+1)+1:=(by omega);have e17: ¬n17.1=pre.length+(L+1):=(by omega);have e17': ¬n17.1=pre.length+(L+1)+1:=(by omega);have hS2:=hS.Si hx hp;have hF2:=uH hS hS2 hF;have hxw:x.aR.toNat=w:=(by rw [hx.aR];rfl);have MN:=fun(c:Nat) (H:ai) (hH:0<H.length)=>xI (c:=c) (H:=H) hS P.hr.w hF [x] (by simp) (fun a ha=>by rw [List.mem_singleton.1 ha,hxw];exact hx) hH;rw [Il (by rw [hxw];exact hp),hxw]at MN;simp only [List.map_cons,List.map_nil]at MN;have SN:=fun(c:Nat) (lb:fS) (g:GV) (b:Bool) (pre:ai)=>D8 (c:=c) (H:=pre++CT r s l ((n:Int)+1) b lb (pre0++C g)) P.hr.sh (s:=dn s w x) (w:=w) (by rw [hS2.pl];exact P.wl) (g3 lb g b pre) (g9' lb g b pre) (by rw [ln];omega);have SN2:=fun c lb g b X=>SN c lb g b (X::pre);simp only [List.cons_append]at SN2;rw [bH]at MN;rw [aP,aP]at MN;rw [aP]at SN2;simp [AN,bH,ln,gl2,sl];refine⟨by show 16<69;omega,rfl, ?_⟩
  show wp KC aw 116 (rgB Tryz.f116) ⟨_,_::(pre++CT r s l ((n:Int)+1) false (wU S .busy none) (pre0++C g)),69⟩ _
  conv=>arg 4;whnf
  cases hs2:gT r w (dn s w x)with
  |true=>
   rw [hs2]at SN2;simp [h9,h10,h11,h12,h6,h8,ln,g9,bL,e0,MN,SN2,e15,e17,O7,oT,gl2,sl];rfl
  |false=>
   rw [hs2]at SN2;obtain⟨gc,F1,L1,k1,f1,CE⟩:=Ik (c:=61) (H:=pre++CT r s l ((n:Int)+1) false (wU S .busy none) (pre0++C g)) l (by omega) (F:=[(16, .box [.pure (.int .i64 x.bR), .pure (.int .i64 x.aR), .pure (.int .i64 x.kind), .pure (.int .i64 x.hand), .pure (.int .i64 x.bf), .pure (.int .i64 x.cell), .pure (.int .i64 x.other), .pure (.int .i64 x.dQ), .pure (.int .i64 x.mH)]),(17, .box [.pure (.int .i64 r.wide), .pure (.int .i64 r.deep), .pure (.slice (r.ae.map aV.row)), .pure (.slice (r.aa.map a8.row)), .pure (.slice (r.seen.map aD)), .pure (.slice (r.a7.map aD)), .pure (.slice (r.aj.map au.row)), .pure (.slice ((dn s w x).ae.map aD)), .pure (.slice ((dn s w x).ao.map aI.row)), .pure (.slice ((dn s w x).aa.map br.row))])]) (by simp [ak]);have d16:(16:Nat)≠ak 61 7:=(by decide);have d64:(64:Nat)≠ak 61 7:=(by decide);have f16:=f1 16 d16;have f64:=f1 64 d64;have f17:=f1 17 (by decide);simp at f16 f64 f17;simp [h9,h10,h11,h12,h6,h8,ln,g9,g10,VW,bL,e0,MN,SN2,e15,e17,O7,VX,CE,f16,f17,-Im];rw [←ln (wU S .busy none) g false pre];refine HW (key:=64) (H:=pre++CT r s l ((n:Int)+1) false (wU S .busy none) (pre0++C g)) x L1 f64 (by omega) _ fun g2 F2 L2 k2 f2=> ?_;have nk: ∀q,q≠ak 61 7→ ∀top,gc≠ .bd ((pre++CT r s l ((n:Int)+1) false (wU S .busy none) (pre0++C g)).length,q) 9 top 0 top:=fun q hq top e=>hq (k1 q top e);have f16':=(f2 16 (by decide) (nk 16 d16)).trans f16;have f17':=(f2 17 (by decide) (nk 17 (by decide))).trans f17;obtain⟨F3,r3,e3⟩:=AD (f:=116) rfl rfl rfl [] (F:=F2) (H:=pre++CT r s l ((n:Int)+1) false (wU S .busy none) (pre0++C g)) (.rd (g:= .pure (.agg (aP r (dn s w x)))) rfl pA (.Y6 L2.rd rfl L2.top (.rd (g:= .pure (.int .i64 n)) rfl pA (.ptr (nm:=n8) (o:=0) (.ptr (nm:=n11) (o:=0) (.ptr (nm:=n16) (o:=0) (.ptr (nm:=n15) (o:=0) (.ptr (nm:=n9) (o:=0) (.ptr (nm:=n17) (o:=0) .nil)))))))));have I0:=ih 67 (dn s w x) (l++[x]) g ((F3::pre)++[CG r s l ((n:Int)+1) false (wU S .busy none)]++pre0) hS2 hF2 (by simp;omega);have hsh: ∀g,((F3::pre)++[CG r s l ((n:Int)+1) false (wU S .busy none)]++pre0)++C g=F3::(pre++CT r s l ((n:Int)+1) false (wU S .busy none) (pre0++C g)):=fun g=>(by simp [CT]);rw [hsh,hsh]at I0;have I:=(e3 67).trans I0;have fl:=fun(lb:fS) (g:GV) (b b':Bool) (pre:ai)=>Ln (r:=r) (s:=s) (l:=l) (n:=(n:Int)+1) (b:=b) (lb:=lb) (hG g) pre b';have g12:=fun(lb:fS) (g:GV) (b:Bool) (pre:ai)=>(sN (r:=r) (s:=s) (l:=l) (n:=(n:Int)+1) (b:=b) (lb:=lb) (hG g) pre 12).trans (show _=some (.box [.pure (.bool b)])from rfl)
   have hwn:=c8 (x:=(n:Int)) (by omega) (by omega);rw [aP]at I;simp only [List.nil_append]at I;generalize hT:ij r w all fin n (dn s w x) (l++[x]) g=T at I⊢;obtain⟨Tg,Tb⟩:=T
   cases Tb with
   |true=>
    simp only at I;simp [h9,h10,h11,h12,h6,h8,ln,g9,g10,VW,bL,e0,e15,e17,O7,VX,f16',f17',hwn,I,fl,g12,oT,gl2,sl];rfl
   |false=>
    simp only at I;simp [h9,h10,h11,h12,h6,h8,ln,g9,g10,VW,bL,e0,e15,e17,O7,VX,f16',f17',hwn,I,fl,g12,oT,gl2,sl];rfl
end
end
section
variable {c:Nat} {H:ai}
section
variable {r:aC} {w:Nat} {aj:List au} {nU:Nat} {n3 n8 n9 n11 n15 n16 n17:Nm} {n0:Nat} {C:GV→ai} (M:Y3 r w aj nU n3 n8 n9 n11 n15 n16 n17 n0 C) (P:xB r w aj nU)
include M P
theorem Zc {fin:ay→List au→Bool} {all:List au} {s:ay} (hS:fB r s) (hF:Full s) (l:List au) (hl:l.length≤100000) {n:Nat} (hn:n≤1000)
  (ih: ∀(c:Nat) (s:ay) (l:List au) (g:GV) (pre:ai),fB r s→Full s→l.length+n≤100001→
   bJ KC (aF KC) 116 [.pure (.agg (aP r s)), .pure (.slice (l.map au.row)), .pure (.int .i64 n), .aA n8 0, .aA n11 0, .aA n16 0, .aA n15 0, .aA n9 0, .aA n17 0] c (pre++C g)=
    some (.pure (.bool (ij r w all fin n s l g).2),pre++C (ij r w all fin n s l g).1))
  (hln:l.length+1+n≤100001) (S:aZ) {L:Nat} (pre0:ai) (hL:pre0.length+n0=L) (h9:look S 9= .aA (L,9) 0) (h10:look S 10= .aA (L,10) 0) (h11:look S 11= .aA (L,11) 0) (h12:look S 12= .aA (L,12) 0) (h6:look S 6= .aA n15 0) (h8:look S 8= .aA n17 0):
  Av (L,10000010) (L+1) (GV×Bool) (VY r s l n S (pre0++ ·) C) (bV r s w) (fun x (a:GV×Bool)=>if gT r w (dn s w x)=true then true else !(ij r w all fin n (dn s w x) (l++[x]) a.1).2)
   (fun x (a:GV×Bool)=>if gT r w (dn s w x)=true then a else ij r w all fin n (dn s w x) (l++[x]) a.1) (fun a=>a.2=false) (AB r w) where
 pos:=by omega
 lp:=by simp
 len:=fun a=>by simp [VY,CT,M.len,hL]
 gr:=fun x a pre hx hp ha=>by
  obtain⟨g,b⟩:=a;simp only at ha;subst ha;exact SO M P hS hF l hl hn ih hln hx hp S pre0 hL h9 h10 h11 h12 h6 h8 g pre
 Y2:=fun x a hx ha hc=>by
  split at hc
  ·rename_i hs;rw [if_pos hs];exact ha
  ·rename_i hs;rw [if_neg hs];simpa using hc
theorem Fq {fin:ay→List au→Bool} {s:ay} (hS:fB r s) (hF:Full s) (l:List au) (hl:l.length≤100000) {n nc:Nat} (hn:n≤1000) (hnc:IntKind.i64.wrap (r.wide*r.deep)=nc) (hnc2:(nc:Int)=r.wide*r.deep) (hnc0:nc≤1000000)
  (ih: ∀(c:Nat) (s:ay) (l:List au) (g:GV) (pre:ai),fB r s→Full s→l.length+n≤100001→
   bJ KC (aF KC) 116 [.pure (.agg (aP r s)), .pure (.slice (l.map au.row)), .pure (.int .i64 n), .aA n8 0, .aA n11 0, .aA n16 0, .aA n15 0, .aA n9 0, .aA n17 0] c (pre++C g)=
    some (.pure (.bool (ij r w (bK nc r.aa.length r.ae.length w) fin n s l g).2),pre++C (ij r w (bK nc r.aa.length r.ae.length w) fin n s l g).1))
  (hln:l.length+1+n≤100001) {L:Nat} (pre0:ai) (hL:pre0.length+n0=L) (g:GV) (hs:gT r w s=false) (st:bM) (Q:GX→bM→Prop)
  (hh:st.h=[(9,bL r s),(10, .box [.pure (.slice (l.map au.row))]),(11, .box [.pure (.int .i64 ((n:Int)+1))]),(12, .box [.pure (.bool false)])]::(pre0++C g))
  (hnt:st.nt=69) (h9:look st.s 9= .aA (L,9) 0) (h10:look st.s 10= .aA (L,10) 0) (h11:look st.s 11= .aA (L,11) 0) (h12:look st.s 12= .aA (L,12) 0) (h6:look st.s 6= .aA n15 0) (h8:look st.s 8= .aA n17 0)
  (h43:look st.s 43= .func 132 [] [.bX (aP r s), .bX [.int .i64 w]])
  (hq: ∀lb,Q (if (ij r w (bK nc r.aa.length r.ae.length w) fin (n+1) s l g).2=true then .ret else .normal)
   {st with h:=CT r s l ((n:Int)+1) (ij r w (bK nc r.aa.length r.ae.length w) fin (n+1) s l g).2 lb (pre0++C (ij r w (bK nc r.aa.length r.ae.length w) fin (n+1) s l g).1)}):
  WP KC aw 116 (.rangeFunc (.tmp 43) #[44] (rgA Tryz.f116) (rgB Tryz.f116)) st Q:=by
 have hC:=Zc M P hS hF l hl hn ih hln st.s pre0 hL h9 h10 h11 h12 h6 h8;have hR:=fun c=>yR (c:=c) hC hS P.hr.w (fun x hx=>hx) hnc hnc0 (fun x hx=>(mP (n:=nc) hnc2.symm P.wl hx).1) (a:=(g,false)) rfl;have hfr:aY (rgB Tryz.f116)=10:=by kernel_rfl
 have et:ij r w (bK nc r.aa.length r.ae.length w) fin (n+1) s l g=(fq (bV r s w) (fun x (a:GV×Bool)=>if gT r w (dn s w x)=true then true else !(ij r w (bK nc r.aa.length r.ae.length w) fin n (dn s w x) (l++[x]) a.1).2)
   (fun x (a:GV×Bool)=>if gT r w (dn s w x)=true then a else ij r w (bK nc r.aa.length r.ae.length w) fin n (dn s w x) (l++[x]) a.1) (bK nc r.aa.length r.ae.length w) (g,false)).1:=by
  conv=>lhs;unfold ij
  rw [if_neg (by simp [hs])]
 rw [et]at hq
 generalize (fq (bV r s w) (fun x (a:GV×Bool)=>if gT r w (dn s w x)=true then true else !(ij r w (bK nc r.aa.length r.ae.length w) fin n (dn s w x) (l++[x]) a.1).2)
   (fun x (a:GV×Bool)=>if gT r w (dn s w x)=true then a else ij r w (bK nc r.aa.length r.ae.length w) fin n (dn s w x) (l++[x]) a.1) (bK nc r.aa.length r.ae.length w) (g,false)).1=T at hR hq
 have hG: ∀g,(pre0++C g).length=L:=fun g=>(by rw [List.length_append,M.len,hL]);refine Io KC aw (nm:=(L,10000010)) (H1:=VY r s l n st.s (pre0++ ·) C (g,false)) (H2:=VY r s l n st.s (pre0++ ·) C T) (v:= .pure (.tuple [])) ?_ ?_ ?_
 ·rw [hh,hfr,hnt];simp [iD,kn,VY,CT,CG,wU,hL,M.len]
 ·simp only [ev,h43];exact hR 0
 ·have gl:=sN (r:=r) (s:=s) (l:=l) (n:=(n:Int)+1) (b:=T.2) (lb:=wU st.s (if T.2=true then .done else .ready) (if T.2=true then some .ret else none)) (hG T.1) [] 10000010;have hlp:=gl.trans (show _=some (dB.loop (wU st.s (if T.2=true then .done else .ready) (if T.2=true then some .ret else none)))from rfl)
  have sl:=Eg (r:=r) (s:=s) (l:=l) (n:=(n:Int)+1) (b:=T.2) (lb:=wU st.s (if T.2=true then .done else .ready) (if T.2=true then some .ret else none)) (hG T.1) [];unfold vJ;show Pa (ai.get (CT r s l ((n:Int)+1) T.2 (wU st.s _ _) (pre0++C T.1)) (L,10000010)) _
  rw [show ai.get (CT r s l ((n:Int)+1) T.2 (wU st.s (if T.2=true then .done else .ready) (if T.2=true then some .ret else none)) (pre0++C T.1)) (L,10000010)=_ from hlp,Ip]
  refine⟨?_, ?_⟩
  ·show (if T.2=true then LoopState.done else .ready)≠ .busy
   split<;>simp
  ·have q:=hq {wU st.s (if T.2=true then .done else .ready) (if T.2=true then some .ret else none)with state:= .exhausted};have s2:=sl {wU st.s (if T.2=true then .done else .ready) (if T.2=true then some .ret else none)with state:= .exhausted};simp only [List.nil_append]at s2;show Q _ {st with h:=ai.set (CT r s l ((n:Int)+1) T.2 (wU st.s (if T.2=true then .done else .ready) (if T.2=true then some .ret else none)) (pre0++C T.1)) (L,10000010) _}
   rw [s2]
   cases hb:T.2 with
   |true=>rw [hb]at q;exact q
   |false=>rw [hb]at q;exact q
end
end
section
variable {c:Nat} {H:ai}
section
variable {r:aC} {w:Nat} {aj:List au} {nU:Nat} {n3 n8 n9 n11 n15 n16 n17:Nm} {n0:Nat} {C:GV→ai} (M:Y3 r w aj nU n3 n8 n9 n11 n15 n16 n17 n0 C) (P:xB r w aj nU)
include M P
theorem Iq {nc:Nat}(hnc:IntKind.i64.wrap (r.wide*r.deep)=nc)(hnc2:(nc:Int)=r.wide*r.deep)(hnc0:nc≤1000000): ∀(n:Nat),n≤1000→ ∀(c:Nat) (s:ay) (l:List au) (g:GV) (pre:ai),fB r s→Full s→l.length+n≤100001→
      bJ KC (aF KC) 116 [.pure (.agg (aP r s)), .pure (.slice (l.map au.row)), .pure (.int .i64 n), .aA n8 0, .aA n11 0, .aA n16 0, .aA n15 0, .aA n9 0, .aA n17 0] c (pre++C g)=
        some (.pure (.bool (ij r w (bK nc r.aa.length r.ae.length w) (lK r (aj.drop nU)) n s l g).2),pre++C (ij r w (bK nc r.aa.length r.ae.length w) (lK r (aj.drop nU)) n s l g).1)
  |0,_,c,s,l,g,pre,hS,hF,hl=>Y5 M P hS hF l g pre
  |n+1,hn,c,s,l,g,pre,hS,hF,hl=>by
    refine aM (aK KC aw Tryz.func116 rfl rfl Ea (by simp) (by simp [M.len];have:=M.pos;omega) ?_);have hlen:=M.len;have G:=fun(g:GV) (nm:Nm) (h:nm.1<n0)=>nu (G:=C g) (nm:=nm) (by rw [hlen];exact h) pre;have G3:=fun g=>(G g n3 M.l3).trans (M.g3 g);have G9:=fun g=>(G g n9 M.l9).trans (M.g9 g);have G15:=fun g=>(G g n15 M.Y4).trans (M.O7 g);have ne3: ¬n3.1=pre.length+n0:=(by have:=M.l3;omega);have ne9: ¬n9.1=pre.length+n0:=(by have:=M.l9;omega);have ne15: ¬n15.1=pre.length+n0:=(by have:=M.Y4;omega);have h0:(((n:Int)+1)==0)=false:=(by simp;omega);have SN:=fun(c:Nat) (F:Fr)=>D8 (c:=c) (H:=F::(pre++C g)) P.hr.sh (s:=s) (w:=w) (by rw [hS.pl];exact P.wl) (n3:=n3) (n9:=n9) (by rw [ai.fb,if_neg (by simp [hlen,ne3])];exact G3 g) (by rw [ai.fb,if_neg (by simp [hlen,ne9])];exact G9 g) (by simp)
    cases hs:gT r w s with
    |true=>
      have et:ij r w (bK nc r.aa.length r.ae.length w) (lK r (aj.drop nU)) (n+1) s l g=(g,false):=by
        unfold ij;rw [if_pos hs]
      rw [et];rw [hs,aP]at SN;rw [aP];simp [hlen,h0,ne3,ne9,ne15,G15,G9,SN,ah]
    |false=>
      have R:=fun st Q=>Fq M P hS hF l (by omega) (n:=n) (fin:=lK r (aj.drop nU)) (by omega) hnc hnc2 hnc0 (fun c s l g pre hS hF hl=>Iq hnc hnc2 hnc0 n (by omega) c s l g pre hS hF hl) (by omega) pre rfl g hs st Q;have PG:=fun(c:Nat) (H:ai) (hH:0<H.length)=>H4 (c:=c) (H:=H) (r:=r) (s:=s) (w:=w) hH;rw [hs]at SN;simp only [aP]at SN PG R⊢;simp [hlen,h0,ne3,ne9,ne15,G15,G9,SN,PG];generalize ij r w (bK nc r.aa.length r.ae.length w) (lK r (aj.drop nU)) (n+1) s l g=T at R⊢;obtain⟨Tg,Tb⟩:=T;refine R _ _ (by simp [bL]) rfl (by simp [look]) (by simp [look]) (by simp [look]) (by simp [look]) (by simp [look]) (by simp [look]) (by simp [look]) fun lb=> ?_
      cases Tb with
      |true=>
        simp [CT,CG,hlen,ah]
      |false=>
        simp [CT,CG,hlen,ah]
end
end
section
variable {c:Nat} {H:ai}
def B4 (r:aC)(w:Nat)(aj:List au)(nU:Nat)(s:ay)(L:Nat)(g:GV):Fr:=
 [(3,aX r),(8, .box [.pure (.slice (aj.map au.row))]),(9, .box [.pure (.int .i64 w)]),(11, .box [.pure (.int .i64 nU)]),(12,bL r s),(15, .box [.func 114 [] [.aA (L,3) 0, .aA (L,9) 0]]),(16, .box [g]),(17, .box [.func 116 [] [.aA (L,8) 0, .aA (L,11) 0, .aA (L,16) 0, .aA (L,15) 0, .aA (L,9) 0, .aA (L,17) 0]])]
theorem Zd (r:aC)(w:Nat)(aj:List au)(nU:Nat)(s:ay)(H:ai):Y3 r w aj nU (H.length,3) (H.length,8) (H.length,9) (H.length,11) (H.length,15) (H.length,16) (H.length,17) (H.length+1) (fun g=>B4 r w aj nU s H.length g::H) where
 pos:=by omega
 len:=fun g=>by simp
 l3:=by simp
 l8:=by simp
 l9:=by simp
 l11:=by simp
 Y4:=by simp
 l16:=by simp
 l17:=by simp
 g3:=fun g=>by simp [B4]
 g8:=fun g=>by simp [B4]
 g9:=fun g=>by simp [B4]
 VW:=fun g=>by simp [B4]
 O7:=fun g=>by simp [B4]
 g16:=fun g=>by simp [B4]
 s16:=fun g g'=>by simp [B4]
 VX:=fun g=>by simp [B4]
section
variable {r:aC} {w:Nat} {aj:List au} {nU:Nat} (P:xB r w aj nU)
include P
theorem AO {nc:Nat}(hnc:IntKind.i64.wrap (r.wide*r.deep)=nc)(hnc2:(nc:Int)=r.wide*r.deep)(hnc0:nc≤1000000){s:ay}(hS:fB r s)(hF:Full s)(Q:GX→bM→Prop): ∀(k n:Nat) (g:GV),n+k=4→
  (((List.range' n k).findSome? fun n=>uu r w (bK nc r.aa.length r.ae.length w) (lK r (aj.drop nU)) n s [])=none→ ∀g',Q (.exit 0) ⟨[(6,aO),(7,aO)],B4 r w aj nU s H.length g'::H,60⟩)→
  (∀x,((List.range' n k).findSome? fun n=>uu r w (bK nc r.aa.length r.ae.length w) (lK r (aj.drop nU)) n s [])=some x→ ∀g',Q .ret ⟨[(6, .pure (.slice (x.map au.row))),(7, .pure (.bool true))],B4 r w aj nU s H.length g'::H,60⟩)→
  gZ KC aw 79 (lp Tryz.f79 0) [12,16,17,51] [6,7] Q [(12, .aA (H.length,12) 0),(16, .aA (H.length,16) 0),(17, .aA (H.length,17) 0),(51, .pure (.int .i64 n))] (B4 r w aj nU s H.length g::H) 60:=by
 have M:=Zd r w aj nU s H;have ne1: ¬H.length=H.length+1:=(by omega);intro k
 induction k with
 |zero=>
  intro n g hk h1 _;have hn:n=4:=(by omega);subst hn;have h1':=h1 rfl g;apply az;conv=>arg 4;whnf
  simp;simpa using h1'
 |succ k ih=>
  intro n g hk h1 h2;have hn:(n:Int)<4:=(by omega);have hw:=c8 (x:=(n:Int)+1) (by omega) (by omega);have T:=Iq M P hnc hnc2 hnc0 n (by omega) 57 s [] g [[]] hS hF (by simp;omega);obtain⟨t1,t2⟩:=D7 (r:=r) (w:=w) (all:=bK nc r.aa.length r.ae.length w) (fin:=lK r (aj.drop nU)) (fun x hx=>(mP (n:=nc) hnc2.symm P.wl hx).1) n s [] g hS;obtain⟨F',r3,e3⟩:=AD (f:=116) rfl rfl rfl [] (F:=[]) (H:=B4 r w aj nU s H.length g::H) (.rd (g:= .pure (.agg (aP r s))) rfl pA (.Y6 (g:= .aS) (q:= .slice []) rfl rfl (fun _ _ _ _ _ e=>by cases e) (.rd (g:= .pure (.int .i64 n)) rfl pA (.ptr (nm:=(H.length,8)) (o:=0) (.ptr (nm:=(H.length,11)) (o:=0) (.ptr (nm:=(H.length,16)) (o:=0) (.ptr (nm:=(H.length,15)) (o:=0) (.ptr (nm:=(H.length,9)) (o:=0) (.ptr (nm:=(H.length,17)) (o:=0) .nil)))))))));have hF':=r3.empty;subst hF';have I:=(e3 57).trans T;simp only [aP,List.nil_append,List.cons_append]at I;rw [List.range'_succ,List.findSome?_cons]at h1 h2;generalize ij r w (bK nc r.aa.length r.ae.length w) (lK r (aj.drop nU)) n s [] g=X at I t1 t2;obtain⟨Xg,Xb⟩:=X;obtain⟨o,ho⟩: ∃o,uu r w (bK nc r.aa.length r.ae.length w) (lK r (aj.drop nU)) n s []=o:=⟨_,rfl⟩;rw [ho]at t1 t2 h1 h2
  cases o with
  |some x=>
   have h2':=h2 x rfl Xg;have e1:Xb=true:=t1;have e2:Xg= .pure (.slice (x.map au.row)):=t2 x rfl;subst e1 e2;simp only [B4,bL]at I h2'⊢;apply az;conv=>arg 4;whnf
   simp [hn,ne1,I];simpa using h2'
  |none=>
   have e1:Xb=false:=t1;subst e1;have ih':=ih (n+1) Xg (by omega) h1 h2;simp only [B4,bL]at I ih'⊢;apply az;conv=>arg 4;whnf
   simp [hn,ne1,I,hw];simpa using ih'
end
end
section
variable {c:Nat} {H:ai}
def Lo (o:Option (List au)):PV:= .tuple (match o with|some l=> [.slice (l.map au.row), .bool true]|none=> [.slice [], .bool false])
theorem CH {r:aC}{k:Nat}{kind:Int}(h:sF r k kind)(h20:r.aj.length≤20)(hH:0<H.length):
  bJ KC (aF KC) 79 [.pure (.agg r.row), .pure (.int .i64 k), .pure (.int .i64 kind)] c H=some (.pure (Lo (j8 r k kind)),H):=by
 refine aM (aK KC aw Tryz.func79 rfl rfl SP (by simp) hH ?_);have sh:=h.run.sh;have tm: ∀a∈r.aj,0≤a.bR∧a.bR≤1000000:=fun a ha=>(by have:=h.tm a ha;omega);have hlt:=h.lt;have hg:=h.get;have hw0:(r.aj[k]'hlt).aR=(mO r k:Int):=by
  have:=(h.run.ab _ (List.getElem_mem hlt)).aR;unfold mO;rw [hg];exact this
 obtain⟨A,hA⟩: ∃A,nr r k kind=A:=⟨_,rfl⟩;have hAl:A.length≤40:=(by rw [←hA];have:=HX h;have:=h.n40;omega);have hAb: ∀a∈A,AB r a.aR.toNat a:=fun a ha=>(ru h (hA▸ha)).1;have LP:=fun(c:Nat) (H:ai) (hH:0<H.length)=>E7 (c:=c) (H:=H) h.run hlt h.pw tm h20 h.hand hH;have AF:=fun(c:Nat) (H:ai) (hH:0<H.length)=>HK (c:=c) (H:=H) hlt h.run.al (tm _ (List.getElem_mem hlt)) kind A (by omega) (g:= .pure (.slice (A.map au.row))) rfl hH;rw [hA]at LP;obtain⟨m,hm⟩: ∃m,ou r k kind=m:=⟨_,rfl⟩;rw [hm]at AF;have FP:=fun(c:Nat) (H:ai) (hH:0<H.length)=>sC (c:=c) (H:=H) r h.run.w.pl h.run.w.tl hH;have hF:Full (aL r):=⟨by simpa [aL]using h.run.p0,by simpa [aL]using h.run.p0,by simp [aL];exact h.run.w.pl,by simp [aL];exact h.run.w.pl,by simp [aL];exact h.run.w.tl⟩;have hUb: ∀a∈gY m A,AB r a.aR.toNat a:=fun a ha=>hAb a (iZ ha).2;have hUl:(gY m A).length≤A.length:=(List.takeWhile_sublist _).length_le;have RB:=fun(c:Nat) (H:ai) (hH:0<H.length)=>D9 (c:=c) (H:=H) h.run.w (gY m A) (by omega) hUb h.run.snd hF hH;have hsn:=(iL (gY m A).length (aL r) (gY m A) 0 h.run.snd hUb).1;have eU:gY m A=A.take (gY m A).length:=by
  have e:=tH m A;obtain⟨U,hU⟩: ∃U,gY m A=U:=⟨_,rfl⟩;rw [hU]at e⊢;rw [←e];exact List.take_left.symm
 have eB:A.drop (gY m A).length=behind m A:=by
  have e:=tH m A;obtain⟨V,hV⟩: ∃V,behind m A=V:=⟨_,rfl⟩;obtain⟨U,hU⟩: ∃U,gY m A=U:=⟨_,rfl⟩;rw [hU,hV]at e;rw [hU,hV,←e];exact List.drop_left
 have hlen': ∀x:au,x.row.length=9:=fun _=>rfl;have hO:j8 r k kind=if (dg r (gY m A).length (aL r) (gY m A) 0).2.2.2≠0 then none else (List.range' 0 4).findSome? fun n=>uu r (mO r k) (bK (r.wide*r.deep).toNat r.aa.length r.ae.length (mO r k)) (lK r (A.drop (gY m A).length)) n (dg r (gY m A).length (aL r) (gY m A) 0).2.1 []:=by
  unfold j8 HY ry;rw [hm,hA,List.range_eq_range',eB];rfl
 rw [hO];have P:xB r (mO r k) A (gY m A).length:=⟨h.run.toO4,h.wl,hAb,by omega,hUl⟩;obtain⟨a1,a2,a3⟩:=h.uq;have rowU:List.take (gY m A).length (A.map au.row)=(gY m A).map au.row:=(by rw [←List.map_take,←eU]);obtain⟨q,hq⟩: ∃q,dg r (gY m A).length (aL r) (gY m A) 0=q:=⟨_,rfl⟩;rw [hq]at RB hsn⊢;have hF2:=uH h.run.snd hsn hF;have ML:=fun Q h1 h2=>AO (H:=H) P (nc:=(r.wide*r.deep).toNat) (by rw [a1];exact c8 (by omega) (by omega)) a1 (by omega) hsn hF2 Q 4 0 .aS rfl h1 h2;obtain⟨u,hu⟩: ∃u,(gY m A).length=u:=⟨_,rfl⟩;rw [hu]at AF rowU hUl ML P⊢;simp only [aP]at FP RB;simp only [gK]at LP AF FP⊢;have unl: ¬(u:Int)<0:=(by omega);by_cases he:q.2.2.2=0
 ·rw [if_neg (by simpa using he)];rw [he]at RB;simp [LP,AF,FP,RB,hlt,au.row,hw0,rowU,hUl,unl,hlen',-List.map_take];simp only [B4,bL,aX]at ML;refine ML _ (fun ho g'=> ?_) (fun x ho g'=> ?_)
  ·rw [ho];simp [ah,Lo]
  ·rw [ho];simp [ah,Lo]
 ·have he':(q.2.2.2==0)=false:=(by simpa using he);rw [if_pos he];simp [LP,AF,FP,RB,hlt,au.row,hw0,rowU,hUl,unl,hlen',he,he',ah,Lo,-List.map_take]
end
section
variable {c:Nat} {H:ai}
theorem vK {r:aC}{k:Nat}{kind:Int}(h:sF r k kind)(h20:r.aj.length≤20)(hH:0<H.length):
  aN KC (aF KC) 79 [.pure (.agg r.row), .pure (.int .i64 k), .pure (.int .i64 kind)] c H=some (.pure (Lo (j8 r k kind)),H):=
 (lh (f:=79) (c:=c) (H:=H) rfl rfl rfl [.agg r.row, .int .i64 k, .int .i64 kind]).trans (CH (c:=c) h h20 hH)
theorem vL {r:aC}(sh:gA r)(act kind:Int)(hH:0<H.length):
  aN KC (aF KC) 69 [.pure (.agg r.row), .pure (.int .i64 act), .pure (.int .i64 kind)] c H=some (.pure (.int .i64 (E9 r act kind)),H):=eC rfl rfl rfl rfl rfl hH fun H hH=>vg sh act kind hH
theorem AQ {r:aC}(sh:gA r)(h20:cn r=0→r.aj.length≤20)(act kind:Int)(hH:0<H.length):
  bJ KC (aF KC) 34 [.pure (.agg r.row), .pure (.int .i64 act), .pure (.int .i64 kind)] c H=some (.pure (Au r act kind),H):=by
 refine aM (aK KC aw Tryz.func34 rfl rfl SQ (by simp) hH ?_);have K:=fun(c:Nat) (H:ai) (hH:0<H.length)=>vL (c:=c) (H:=H) sh act kind hH;unfold Au;by_cases he:E9 r act kind=0
 ·obtain⟨k,rfl,hL⟩:=rr sh he;have MP:=fun(c:Nat) (H:ai) (hH:0<H.length)=>vK (c:=c) (H:=H) hL (h20 hL.run.ck) hH;rw [if_neg (by simpa using he)];rw [he]at K;show mE _ _
  rw [show j8 r (k:Int).toNat kind=j8 r k kind from rfl]
  cases ho:j8 r k kind with
  |some l=>
   rw [ho]at MP;simp only [Lo]at MP;rw [gK]at K MP⊢;simp [K,MP,ah]
  |none=>
   rw [ho]at MP;simp only [Lo]at MP;rw [gK]at K MP⊢;simp [K,MP,ah]
 ·have he':(E9 r act kind==0)=false:=(by simpa using he);rw [if_pos he];rw [gK]at K⊢;simp [K,he,he',ah]
end
section
variable {c:Nat} {H:ai}
theorem Lp {r:aC}(sh:gA r)(h:mg r=0){i:Nat}(hi:i<r.aj.length){x:Int}(hx:1≤x∧x≤3)(hk: ¬(x=2∧(r.aj.getD i cI).kind=1)):sF r i x:=by
 obtain⟨k,e,hL⟩:=rr sh (D6 h hi hx hk);have:i=k:=(by omega);rw [this];exact hL
theorem CI (r:aC)(i:Nat)(x:Int)(l:List Int):rA r i (x::l)=if rz r i x=true then rA r i l else some ((i:Int),x):=by
 unfold rA;rw [List.findSome?_cons];split
 ·rename_i y hy;split at hy
  ·cases hy
  ·rename_i hb;rw [if_neg hb];exact hy.symm
 ·rename_i hy;split at hy
  ·rename_i hb;rw [if_pos hb]
  ·cases hy
section
variable {r:aC} (sh:gA r) (hrun:mg r=0) (hls: ∀x∈r.a7,1≤x∧x≤3) (h20:r.aj.length≤20)
include sh hrun hls h20
theorem Ir {F:Fr}(f1:F.get 1=some (aX r)){i n:Nat}(hi:i<r.aj.length)(Q:GX→bM→Prop): ∀k j:Nat,j+k=r.a7.length→
  (rA r i (r.a7.drop j)=none→Q (.exit 2) ⟨[(1, .aA (H.length,1) 0),(2,aO),(3,aO),(4,aO),(24, .pure (.int .i64 n)),(25, .pure (.int .i64 i))],[]::F::H,59⟩)→
  (∀a b,rA r i (r.a7.drop j)=some (a,b)→Q .ret ⟨[(1, .aA (H.length,1) 0),(2, .pure (.int .i64 a)),(3, .pure (.int .i64 b)),(4, .pure (.int .i64 0)),(24, .pure (.int .i64 n)),(25, .pure (.int .i64 i))],[]::F::H,59⟩)→
  gZ KC aw 36 (lp Tryz.f36 1) [1,8,24,25,29,30,31] [1,2,3,4,24,25] Q [(1, .aA (H.length,1) 0),(8, .pure (.int .i64 i)),(24, .pure (.int .i64 n)),(25, .pure (.int .i64 i)),(29, .pure (.slice (r.a7.map aD))),(30, .pure (.int .i64 r.a7.length)),(31, .pure (.int .i64 j))] ([]::F::H) 59:=by
 have hal:=sh.l;have ne1: ¬H.length=H.length+1:=(by omega);have ne2: ¬H.length=H.length+2:=(by omega);simp only [aX]at f1;intro k
 induction k with
 |zero=>
  intro j hj h1 _;have e:r.a7.drop j=[]:=List.drop_of_length_le (by omega);rw [e]at h1;have hnl: ¬j<r.a7.length:=(by omega);apply az;conv=>arg 4;whnf
  simp [hnl];simpa using h1 rfl
 |succ k ih=>
  intro j hj h1 h2;have hja:j<r.a7.length:=(by omega);have hw:=c8 (x:=(j:Int)+1) (by omega) (by omega);have ed:r.a7.drop j=r.a7[j]::r.a7.drop (j+1):=List.drop_eq_getElem_cons hja;have hx:=hls _ (List.getElem_mem hja);obtain⟨x,hxe⟩: ∃x,r.a7[j]=x:=⟨_,rfl⟩;rw [hxe]at ed hx;have hg:r.aj.getD i cI=r.aj[i]:=aW hi;rw [ed,CI]at h1 h2;have ih':=ih (j+1) (by omega);by_cases hs:x=2∧r.aj[i].kind=1
  ·have hgood:rz r i x=true:=by
    unfold rz;rw [hg];simp [hs]
   rw [if_pos hgood]at h1 h2;have ih2:=ih' h1 h2;obtain⟨rfl,hk⟩:=hs;apply az;conv=>arg 4;whnf
   simp [f1,ne1,ne2,hja,hxe,aD,hi,au.row,hk,hw];simpa using ih2
  ·have hL:=Lp sh hrun hi hx (by rw [hg];exact hs);have M:=fun(c:Nat) (H:ai) (hH:0<H.length)=>vK (c:=c) (H:=H) hL h20 hH;rw [gK]at M;have hgood:rz r i x=(j8 r i x).isSome:=by
    unfold rz;rw [hg];simp [hs]
   rw [hgood]at h1 h2
   cases ho:j8 r i x with
   |some l=>
    rw [ho]at M h1 h2;simp only [Lo]at M;simp only [Option.isSome_some,if_true]at h1 h2;have ih2:=ih' h1 h2;by_cases h2x:x=2
    ·subst h2x;have hk: ¬r.aj[i].kind=1:=fun e=>hs ⟨rfl,e⟩;have hk':(r.aj[i].kind==1)=false:=(by simpa using hk);apply az;conv=>arg 4;whnf
     simp [f1,ne1,ne2,hja,hxe,aD,hi,au.row,hk,hk',hw,M];simpa using ih2
    ·have h2x':(x==2)=false:=(by simpa using h2x);apply az;conv=>arg 4;whnf
     simp [f1,ne1,ne2,hja,hxe,aD,hi,au.row,h2x,h2x',hw,M];simpa using ih2
   |none=>
    rw [ho]at M h1 h2;simp only [Lo]at M;simp only [Option.isSome_none,Bool.false_eq_true,if_false]at h1 h2;have h2':=h2 i x rfl;by_cases h2x:x=2
    ·subst h2x;have hk: ¬r.aj[i].kind=1:=fun e=>hs ⟨rfl,e⟩;have hk':(r.aj[i].kind==1)=false:=(by simpa using hk);apply az;conv=>arg 4;whnf
     simp [f1,ne1,ne2,hja,hxe,aD,hi,au.row,hk,hk',hw,M];simpa using h2'
    ·have h2x':(x==2)=false:=(by simpa using h2x);apply az;conv=>arg 4;whnf
     simp [f1,ne1,ne2,hja,hxe,aD,hi,au.row,h2x,h2x',hw,M];simpa using h2'
theorem Fs {F:Fr}(f1:F.get 1=some (aX r))(Q:GX→bM→Prop): ∀k i:Nat,i+k=r.aj.length→
  (oM r k i=none→Q (.exit 0) ⟨[(2,aO),(3,aO),(4,aO)],F::H,59⟩)→
  (∀a b,oM r k i=some (a,b)→Q .ret ⟨[(2, .pure (.int .i64 a)),(3, .pure (.int .i64 b)),(4, .pure (.int .i64 0))],F::H,59⟩)→
  gZ KC aw 36 (lp Tryz.f36 0) [1,24,25] [2,3,4] Q [(1, .aA (H.length,1) 0),(24, .pure (.int .i64 r.aj.length)),(25, .pure (.int .i64 i))] (F::H) 59:=by
 have ne1: ¬H.length=H.length+1:=(by omega);have hal:=sh.a;have f1':=f1;simp only [aX]at f1';intro k
 induction k with
 |zero=>
  intro i hi h1 _;have hnl: ¬i<r.aj.length:=(by omega);apply az;conv=>arg 4;whnf
  simp [hnl];simpa using h1 rfl
 |succ k ih=>
  intro i hi h1 h2;have hia:i<r.aj.length:=(by omega);have hw:=c8 (x:=(i:Int)+1) (by omega) (by omega);have e2:oM r (k+1) i=match rA r i r.a7 with|some y=>some y|none=>oM r k (i+1):=by
   unfold oM;rw [List.range'_succ,List.findSome?_cons];cases rA r i r.a7<;>rfl
  have L:=fun Q h1 h2=>Ir (H:=H) sh hrun hls h20 f1 (n:=r.aj.length) hia Q r.a7.length 0 (by omega) h1 h2;simp only [List.drop_zero]at L;rw [e2]at h1 h2;apply az;conv=>arg 4;whnf
  simp [f1',ne1,hia];refine L _ (fun ho=> ?_) (fun a b ho=> ?_)
  ·rw [ho]at h1 h2;have ih':=ih (i+1) (by omega) h1 h2;simp [hw];simpa using ih'
  ·rw [ho]at h2;have h2':=h2 a b rfl;simp;exact h2'
end
theorem vM (r:aC):iY (vn r)=true:=by
 unfold vn;split
 ·rfl
 ·cases oM r r.aj.length 0<;>rfl
theorem AR {r:aC}(sh:gA r)(h20:cn r=0→r.aj.length≤20)(hH:0<H.length):
  bJ KC (aF KC) 36 [.pure (.agg r.row)] c H=some (.pure (vn r),H):=by
 refine aM (aK KC aw Tryz.func36 rfl rfl SR (by simp) hH ?_);have R:=fun(c:Nat) (H:ai) (hH:0<H.length)=>(lh (f:=15) (c:=c) (H:=H) rfl rfl rfl [.agg r.row]).trans (As (c:=c) sh hH);obtain⟨s,n,hs⟩:=HV (r:=r);rw [hs]at R;unfold ay.row at R;simp only [List.map_cons,List.map_nil]at R;unfold vn;by_cases he:mg r=0
 ·have hc:cn r=0:=by
   rw [mN]at he;rcases Decidable.em (cn r=0)with e|e
   ·exact e
   ·rw [if_neg e]at he;exact he
  have hls:=(jh hc).1.ls;rw [he]at R⊢;rw [gK]at R⊢;have L:=fun F f1 Q h1 h2=>Fs (H:=H) sh he hls (h20 hc) (F:=F) f1 Q r.aj.length 0 (by omega) h1 h2;simp [R];refine L _ (by simp [aX]) _ (fun ho=> ?_) (fun a b ho=> ?_)
  ·rw [ho];simp [ah]
  ·rw [ho];simp [ah]
 ·have he':(mg r==0)=false:=(by simpa using he);rw [if_pos he];rw [gK]at R⊢;simp [R,he,he',ah]
end
section
variable {c:Nat} {H:ai}
end
section
variable {c:Nat} {H:ai}
end
section
variable {c:Nat} {H:ai}
end
section
variable {c:Nat} {H:ai}
end
section
variable {c:Nat} {H:ai}
end
section
variable {c:Nat} {H:ai}
def Lq (L k1 k2 k3:Nat)(m:aC)(sn:List Int):dB:= .box [.pure (.int .i64 m.wide), .pure (.int .i64 m.deep),dh (L,k1) 2 (m.ae.map aV.row),dh (L,k2) 5 (m.aa.map a8.row),dh (L,24) 1 (sn.map aD), .pure (.slice (m.a7.map aD)),dh (L,k3) 9 (m.aj.map au.row)]
theorem CJ {nm:Nm}(hlt:nm.1<H.length){m:aC}{n k1 k2 k3:Nat}(hn:IntKind.i64.wrap (m.wide*m.deep)=n)(hn0:n≤1000){A:Fr}(a24:A.get 24=none)(Q:GX→bM→Prop): ∀(k i:Nat) (sn:List Int) (wd:Int),i+k=n→sn.length≤i→sn.Pairwise (· < ·)→(∀x∈sn,0≤x∧x<i)→
  (∀(sn':List Int) (wd':Int),sn'.length≤n→sn'.Pairwise (· < ·)→(∀x∈sn',0≤x∧x<n)→
   Q (.exit 0) ⟨[(3, .aA (H.length,3) 0),(4, .aA (H.length,4) 0)],fD 24 1 (sn'.map aD) (A.ins 3 (Lq H.length k1 k2 k3 m sn'))::H.set nm (bw wd'),27⟩)→
  gZ KC aw 33 (lp Tryz.f33 0) [0,3,4,5] [3,4] Q
   [(0, .aA nm 0),(3, .aA (H.length,3) 0),(4, .aA (H.length,4) 0),(5, .pure (.int .i64 i))] (fD 24 1 (sn.map aD) (A.ins 3 (Lq H.length k1 k2 k3 m sn))::H.set nm (bw wd)) 27:=by
 have hne: ¬nm.1=H.length:=(by omega);have hne2: ¬nm.1=H.length+1:=(by omega);have hle:nm.1≤H.length:=(by omega);have hB:=fun w f0 f1=>CA hlt w f0 f1;have hW:=fun w f0 f1=>vG hlt w f0 f1;intro k
 induction k with
 |zero=>
  intro i sn wd hi hl hp hb hq;have hq':=hq sn wd (by omega) hp (fun x hx=>by have:=hb x hx;omega);have hnl: ¬(i:Int)<n:=(by omega);apply az;conv=>arg 4;whnf
  simp [Lq,ai.length_set,hn,hnl,bO,Fr.bc];exact hq'
 |succ k ih=>
  intro i sn wd hi hl hp hb hq;have hw:=c8 (x:=(i:Int)+1) (by omega) (by omega);have hil:(i:Int)<n:=(by omega);have hbb:(sn.length+1)*8≤1099511627776:=(by omega);obtain⟨on,w1,e1⟩: ∃(on:Bool) (w1:Int),yY wd 4=(on,w1):=⟨_,_,rfl⟩;apply az;conv=>arg 4;whnf
  cases on with
  |false=>
   have ih2:=ih (i+1) sn w1 (by omega) (by omega) hp (fun x hx=>by have:=hb x hx;omega) hq;simp only [Lq]at ih2;simp [Lq,hn,hil,hw,ai.length_set,ny,hB,hW,hlt,hne,hne2,ai.dJ,hle,e1,bO,Fr.bc];exact ih2
  |true=>
   have ih2:=ih (i+1) (sn++[(i:Int)]) w1 (by omega) (by simp;omega) (List.pairwise_append.2 ⟨hp,by simp,fun a ha b hb'=>by simp at hb';subst hb';exact(hb a ha).2⟩)
    (fun x hx=>by
     rcases List.mem_append.1 hx with hx|hx
     ·have:=hb x hx;omega
     ·simp at hx;subst hx;omega) hq
   have AP:=fun(f0:Fr)=>Eh (H:=H.set nm (bw w1)) (l:=H.length) (key:=24) (es:=1) (bytes:=8) (rows:=sn.map aD) (r:=aD i) (fr:=A.ins 3 (Lq H.length k1 k2 k3 m sn)) (f0:=f0) (by simp [ai.length_set]) (by rw [Fr.ax _ (by decide)];exact a24) (by simpa using hbb);simp only [Lq,aD]at ih2 AP;simp [Lq,hn,hil,hw,ai.length_set,ny,hB,hW,hlt,hne,hne2,ai.dJ,hle,e1,bO,Fr.bc,Fr.cP,aD,AP];simpa [aD]using ih2
theorem AS {F:Fr}(r:aC)(sh:gA r)(f6:F.get (ak c 6)=none)(f10:F.get (ak c 10)=none)(f22:F.get (ak c 22)=none):
  ∃F',(∀k,k≠ak c 6→k≠ak c 10→k≠ak c 22→F'.get k=F.get k)∧
   (r.ae.map aV.row≠[]→F'.get (ak c 6)=some (.arr 2 (r.ae.map aV.row) 0 false))∧(r.aa.map a8.row≠[]→F'.get (ak c 10)=some (.arr 5 (r.aa.map a8.row) 0 false))∧(r.aj.map au.row≠[]→F'.get (ak c 22)=some (.arr 9 (r.aj.map au.row) 0 false))∧
   aN KC (aF KC) 13 [.pure (.agg r.row)] c (F::H)=some (AU (H.length,ak c 6) (H.length,ak c 10) (H.length,ak c 22) r,F'::H):=by
 have mz:ak c 6≠ak c 10:=(by unfold ak;omega);have mc:ak c 6≠ak c 22:=(by unfold ak;omega);have kK:ak c 10≠ak c 22:=(by unfold ak;omega);have O:=CK (c:=c) (H:=F::H) r sh (by simp) (by simpa using f6) (by simpa using f10) (by simpa using f22);simp only [List.length_cons,Nat.add_sub_cancel]at O;have hH:Is (F::H) (H.length,ak c 6) (H.length,ak c 10) (H.length,ak c 22) r=fD (ak c 22) 9 (r.aj.map au.row) (fD (ak c 10) 5 (r.aa.map a8.row) (fD (ak c 6) 2 (r.ae.map aV.row) F))::H:=by
  unfold Is;rw [uI rfl,uI rfl,uI rfl]
 rw [hH]at O;refine⟨_,fun k a b d=> ?_,fun h=> ?_,fun h=> ?_,fun h=> ?_,O⟩
 ·rw [bO d,bO b,bO a]
 ·rw [bO mc,bO mz,dH h]
 ·rw [bO kK,dH h]
 ·rw [dH h]
theorem CM {nm:Nm}(hB0:fI H nm){m:aC}(sh:gA m){n:Nat}(hn:IntKind.i64.wrap (m.wide*m.deep)=n)(hn0:n≤1000):
  ∃sn wd,sn.length≤n∧sn.Pairwise (· < ·)∧(∀x∈sn,0≤x∧x<(n:Int))∧
   aN KC (aF KC) 33 [.aA nm 0, .pure (.agg m.row)] c H=some (.pure (.agg ({m with seen:=sn}:aC).row),H.set nm (bw wd)):=by
 have hlt:=gE hB0;have hset:=jJ hB0;have hne: ¬nm.1=H.length:=by omega
 suffices hs:mE (aN KC (aF KC) 33 [.aA nm 0, .pure (.agg m.row)] c H) (fun x=> ∃sn wd,sn.length≤n∧sn.Pairwise (· < ·)∧(∀x∈sn,0≤x∧x<(n:Int))∧x=(.pure (.agg ({m with seen:=sn}:aC).row),H.set nm (bw wd)))by
  obtain⟨x,hx,sn,wd,h1,h2,h3,h4⟩:=hs;exact⟨sn,wd,h1,h2,h3,by rw [hx,h4]⟩
 refine ba KC aw Tryz.func33 rfl rfl SU rfl rfl rfl (by simp) (by omega) ?_;obtain⟨F1,o1,p2,p3,p7,O⟩:=AS (c:=7) (H:=H) (F:=[(3,aX m),(4,jk)]) m sh (by simp [ak]) (by simp [ak]) (by simp [ak]);have f3:F1.get 3=some (aX m):=(by rw [o1 3 (by decide) (by decide) (by decide)];rfl);have f4:F1.get 4=some jk:=(by rw [o1 4 (by decide) (by decide) (by decide)];rfl);have f24:F1.get 24=none:=(by rw [o1 24 (by decide) (by decide) (by decide)];rfl);obtain⟨w0,hw0⟩: ∃w0,bE H nm=w0:=⟨_,rfl⟩;rw [hw0]at hset;have L:=fun Q h1=>CJ (H:=H) hlt (m:=m) (k1:=ak 7 6) (k2:=ak 7 10) (k3:=ak 7 22) hn hn0 f24 Q n 0 [] w0 (by omega) (by simp) .nil (by simp) h1;rw [hset]at L;simp only [List.map_nil,gP,Lq,gQ]at L;simp only [aX]at f3 O;simp only [jk]at O f4;rw [gK]at O⊢;simp only [AU]at O;simp [O,f3,Fr.bc,Fr.cP,jk];refine L _ fun sn wd h1 h2 h3=> ?_;have hls:(H.set nm (bw wd)).length=H.length:=ai.length_set ..;simp [hls,bO,Fr.bc,Fr.ax,f4,aH];generalize hx:dB.box [.pure (.int .i64 m.wide), .pure (.int .i64 m.deep),dh (H.length,ak 7 6) 2 (m.ae.map aV.row),dh (H.length,ak 7 10) 5 (m.aa.map a8.row),dh (H.length,24) 1 (sn.map aD), .pure (.slice (m.a7.map aD)),dh (H.length,ak 7 22) 9 (m.aj.map au.row)]=x;obtain⟨F,hF⟩: ∃F,fD 24 1 (sn.map aD) (Fr.ins 4 x (Fr.ins 3 x F1))=F:=⟨_,rfl⟩;have gg: ∀k,k≠24→k≠4→k≠3→F.get k=F1.get k:=fun k a b d=>(by rw [←hF,bO a,Fr.ax _ b,Fr.ax _ d]);have g1:m.ae.map aV.row≠[]→F.get (ak 7 6)=some (.arr 2 (m.ae.map aV.row) 0 false):=fun h=>(gg _ (by decide) (by decide) (by decide)).trans (p2 h);have g2:m.aa.map a8.row≠[]→F.get (ak 7 10)=some (.arr 5 (m.aa.map a8.row) 0 false):=fun h=>(gg _ (by decide) (by decide) (by decide)).trans (p3 h);have g3:sn.map aD≠[]→F.get 24=some (.arr 1 (sn.map aD) 0 false):=fun h=>(by rw [←hF,dH h]);have g4:m.aj.map au.row≠[]→F.get (ak 7 22)=some (.arr 9 (m.aj.map au.row) 0 false):=fun h=>(gg _ (by decide) (by decide) (by decide)).trans (p7 h);rw [hF,ah (by simp),fP];have lt:(H.set nm (bw wd)).length-1<H.length:=(by omega);rw [mG];refine⟨sn,h1,h2,h3,wd, ?_⟩;have e:canon (cR ([.pure (.int .i64 m.wide), .pure (.int .i64 m.deep),dh (H.length,ak 7 6) 2 (m.ae.map aV.row),dh (H.length,ak 7 10) 5 (m.aa.map a8.row),dh (H.length,24) 1 (sn.map aD), .pure (.slice (m.a7.map aD)),dh (H.length,ak 7 22) 9 (m.aj.map au.row)].map (cz (F::H.set nm (bw wd)) ((H.set nm (bw wd)).length-1))))= .pure (.agg ({m with seen:=sn}:aC).row):=by
  refine mU ?_;simp only [List.map_cons,List.map_nil,lP,fE hls lt g1,fE hls lt g2,fE hls lt g3,fE hls lt g4,sE];rfl
 rw [e]
end
section
def tA (n:Int)(a:au):au:={a with cell:=if a.kind=1 then n-a.cell else a.cell}
def uJ (n:Int)(s:br):br:=if 0≤s.cell then {s with cell:=n-s.cell}else s
def tS (n:Int)(s:ay):ay:={ae:=s.ae.map (n- ·),ao:=s.ao,aa:=s.aa.map (uJ n)}
def tR (n:Int)(r:aC):aC:={r with ae:=r.ae.map fun p=>{p with cell:=n-p.cell},aa:=r.aa.map fun t=>{t with cell:=n-t.cell,home:=n-t.home},seen:=(r.seen.map (n- ·)).reverse,aj:=r.aj.map (tA n)}
theorem SV {n:Int}{s:br}:(uJ n s).state=s.state:=by unfold uJ;split<;>rfl
theorem pD {α:Type}{l:List α}{i:Nat}{d:α}(h:l.length≤i):l.getD i d=d:=by rw [List.getD_eq_getElem?_getD,List.getElem?_eq_none h];rfl
theorem gm {α β:Type}{f:α→β}{l:List α}{i:Nat}{d:α}{d':β}(h:i<l.length):(l.map f).getD i d'=f (l.getD i d):=by
 rw [aW (by simpa using h),aW h,List.getElem_map]
theorem acd {n:Int}:tA n cI=cI:=rfl
theorem SW {n:Int}{l:List au}{i:Nat}:(l.map (tA n)).getD i cI=tA n (l.getD i cI):=by
 by_cases h:i<l.length
 ·exact gm h
 ·rw [pD (by simpa using h),pD (by simpa using h),acd]
theorem vN {w d a b:Int}(hw:1≤w∧w≤6)(hd:1≤d∧d≤6)(ha:0≤a∧a≤w*d-1)(hb:0≤b∧b≤w*d-1):jz w (w*d-1-a) (w*d-1-b)=jz w a b:=by
 have key: ∀x:Int,0≤x∧x≤w*d-1→(w*d-1-x).tmod w=w-1-x.tmod w∧(w*d-1-x).tdiv w=d-1-x.tdiv w∧(0≤x.tmod w∧x.tmod w<w)∧0≤x.tdiv w∧x.tdiv w<d:=by
  intro x hx;rw [Int.tmod_eq_emod_of_nonneg (by omega),Int.tmod_eq_emod_of_nonneg hx.1,Int.tdiv_eq_ediv_of_nonneg (by omega),Int.tdiv_eq_ediv_of_nonneg hx.1];have e:=Int.emod_add_mul_ediv x w;have m0:=Int.emod_nonneg x (show w≠0 by omega)
  have m1:=Int.emod_lt_of_pos x (show 0<w by omega)
  have q0:0≤x/w:=Int.ediv_nonneg hx.1 (by omega);have q1:x/w<d:=Int.ediv_lt_of_lt_mul (by omega) (by rw [Int.mul_comm];omega);have e2:w*d-1-x=(w-1-x%w)+w*(d-1-x/w):=by
   rw [Int.mul_sub,Int.mul_sub];omega
  rw [e2,Int.add_mul_emod_self_left,Int.emod_eq_of_lt (by omega) (by omega),Int.add_mul_ediv_left _ _ (by omega),Int.ediv_eq_zero_of_lt (by omega) (by omega)];exact⟨rfl,by omega,⟨m0,m1⟩,q0,q1⟩
 obtain⟨a1,a2,a3,a4⟩:=key a ha;obtain⟨b1,b2,b3,b4⟩:=key b hb;rw [pB,pB,a1,a2,b1,b2];generalize a.tmod w=am at*;generalize a.tdiv w=aq at*;generalize b.tmod w=bm at*;generalize b.tdiv w=bq at*;rw [c8 (x:=aq) (by omega) (by omega),c8 (x:=bq) (by omega) (by omega),c8 (x:=d-1-aq) (by omega) (by omega),c8 (x:=d-1-bq) (by omega) (by omega),c8 (x:=am-bm) (by omega) (by omega),c8 (x:=aq-bq) (by omega) (by omega),c8 (x:=w-1-am-(w-1-bm)) (by omega) (by omega),c8 (x:=d-1-aq-(d-1-bq)) (by omega) (by omega)];rw [Bool.eq_iff_iff];simp only [Bool.or_eq_true,Bool.and_eq_true,beq_iff_eq];omega
structure TR (r:aC)(n:Int):Prop where
 w:1≤r.wide∧r.wide≤6
 d:1≤r.deep∧r.deep≤6
 nn:n=r.wide*r.deep-1
 hm: ∀t∈r.aa,0≤t.home∧t.home≤n
structure TI (r:aC)(n:Int)(s:ay):Prop where
 pr: ∀x∈s.ae,0≤x∧x≤n
 pl:s.ae.length=r.ae.length
 tl:s.aa.length=r.aa.length
theorem fB.TI {r:aC}{n:Int}{s:ay}(h:fB r s)(T:TR r n):TI r n s:=⟨fun x hx=>by have:=h.pr x hx;have:=T.nn;omega,h.pl,h.tl⟩
section
variable {r:aC} {n:Int} {s:ay} {w:Nat} {a:au}
theorem TI.at (h:TI r n s){i:Nat}(hi:i<r.ae.length):0≤s.ae.getD i 0∧s.ae.getD i 0≤n:=by
 rw [aW (by rw [h.pl];exact hi)];exact h.pr _ (List.getElem_mem _)
theorem TI.gp (h:TI r n s){i:Nat}(hi:i<r.ae.length):(tS n s).ae.getD i 0=n-s.ae.getD i 0:=gm (by rw [h.pl];exact hi)
theorem vO {t:Nat}:((s.aa.map (uJ n)).getD t aQ).state=(s.aa.getD t aQ).state:=by
 by_cases h:t<s.aa.length
 ·rw [gm (d:=aQ) h,SV]
 ·rw [pD (by simpa using h),pD (by simpa using h)]
theorem xJ {ts:List br}{t st:Int}:eF (ts.map (uJ n)) t st=eF ts t st:=by
 rw [gD,gD,vO (s:=⟨[],[],ts⟩)]
theorem Ft {ts:List br}{t:Nat}{bit:Int}{on:Bool}:dc (ts.map (uJ n)) t bit on=(dc ts t bit on).map (uJ n):=by
 rw [ik,ik,xJ];split
 ·rfl
 ·rw [List.map_set,vO (s:=⟨[],[],ts⟩)];by_cases h:t<ts.length
  ·congr 1;rw [gm (d:=aQ) h];unfold uJ;simp only;split<;>rfl
  ·rw [List.set_eq_of_length_le (by simpa using h),List.set_eq_of_length_le (by simpa using h)]
theorem It {l:List Int}{x:Int}:n-x∈l.map (n- ·)↔x∈l:=by
 rw [List.mem_map];constructor
 ·rintro⟨y,hy,e⟩;have:y=x:=(by omega);rw [←this];exact hy
 ·exact fun h=>⟨x,h,rfl⟩
theorem mj {l:List Int}{x:Int}:(l.map (n- ·)).contains (n-x)=l.contains x:=by
 rw [Bool.eq_iff_iff,List.contains_iff_mem,List.contains_iff_mem,It]
theorem ace (T:TR r n){t:Nat}:((tR n r).aa.getD t cA).mI=(r.aa.getD t cA).mI:=by
 by_cases h:t<r.aa.length
 ·show ((r.aa.map _).getD t cA).mI=_
  rw [gm (d:=cA) h]
 ·rw [pD (by simpa [tR]using h),pD (by simpa using h)]
theorem sO (T:TR r n)(h:TI r n s)(ha:AB r w a):bV (tR n r) (tS n s) w (tA n a)=bV r s w a:=by
 have hw:=ha.wl;rw [cT,cT];have e0:(tA n a).kind=a.kind:=rfl;have e1:(tA n a).hand=a.hand:=rfl;have e2:(tA n a).bf=a.bf:=rfl;have e3:(tA n a).other=a.other:=rfl;have e4:(tR n r).wide=r.wide:=rfl;have e5: ∀x,bC (tS n s) w x=bC s w x:=fun x=>rfl;have e6:(tS n s).ao=s.ao:=rfl;have e7:(tS n s).aa=s.aa.map (uJ n):=rfl;rw [e0,e1,e2,e3,e4,e6,h.gp hw];simp only [e5,ace T];rw [e7];simp only [xJ];by_cases k1:a.kind=1
 ·have e8:(tA n a).cell=n-a.cell:=by show (if a.kind=1 then _ else _)=_;rw [if_pos k1]
  have hc:=ha.step k1;rw [if_pos k1,if_pos k1,e8];have e9:(tS n s).ae=s.ae.map (n- ·):=rfl;rw [e9,mj];have:=h.at hw;rw [T.nn,vN T.w T.d (by have:=T.nn;omega) (by omega)]
 rw [if_neg k1,if_neg k1];by_cases k2:a.kind=2
 ·obtain⟨t,ht,htl⟩:=ha.take k2;rw [if_pos k2,if_pos k2,ht,Int.toNat_natCast,gm (d:=aQ) (by rw [h.tl];exact htl)];congr 1;have:=h.at hw;unfold uJ;rw [Bool.eq_iff_iff];split
  ·simp only [beq_iff_eq];omega
  ·simp only [beq_iff_eq];omega
 rw [if_neg k2,if_neg k2];by_cases k3:a.kind=3
 ·rw [if_pos k3,if_pos k3]
 rw [if_neg k3,if_neg k3];by_cases k4:a.kind=4
 ·obtain⟨o,ho,hol,_⟩:=ha.pR k4;rw [if_pos k4,if_pos k4,ho,Int.toNat_natCast,h.gp hol];have:=h.at hw;have:=h.at hol;rw [T.nn,vN T.w T.d (by have:=T.nn;omega) (by have:=T.nn;omega)]
 rw [if_neg k4,if_neg k4]
theorem AV (h:TI r n s)(ha:AB r w a):dn (tS n s) w (tA n a)=tS n (dn s w a):=by
 have hw:=ha.wl;rw [iv,iv];have e0:(tA n a).kind=a.kind:=rfl;have e1:(tA n a).hand=a.hand:=rfl;have e2:(tA n a).bf=a.bf:=rfl;have e3:(tA n a).other=a.other:=rfl;have e5: ∀x,bC (tS n s) w x=bC s w x:=fun x=>rfl;have e6:(tS n s).ao=s.ao:=rfl;have e7:(tS n s).aa=s.aa.map (uJ n):=rfl;rw [e0,e1,e2,e3,e6,h.gp hw];simp only [e5];rw [e7];simp only [Ft,vO];by_cases k1:a.kind=1
 ·have e8:(tA n a).cell=n-a.cell:=by show (if a.kind=1 then _ else _)=_;rw [if_pos k1]
  rw [if_pos k1,if_pos k1,e8];unfold tS;simp only [List.map_set]
 rw [if_neg k1,if_neg k1];by_cases k2:a.kind=2
 ·rw [if_pos k2,if_pos k2];unfold tS;simp only [List.map_set];rfl
 rw [if_neg k2,if_neg k2];by_cases k3:a.kind=3
 ·rw [if_pos k3,if_pos k3];unfold tS;simp only [List.map_set];have:=h.at hw;congr 2;unfold uJ;simp only;rw [if_pos this.1]
 rw [if_neg k3,if_neg k3];by_cases k4:a.kind=4
 ·rw [if_pos k4,if_pos k4];rfl
 rw [if_neg k4,if_neg k4];by_cases k5:a.kind=5
 ·rw [if_pos k5,if_pos k5];rfl
 rw [if_neg k5,if_neg k5];by_cases k6:a.kind=6
 ·rw [if_pos k6,if_pos k6];rfl
 rw [if_neg k6,if_neg k6];by_cases k7:a.kind=7
 ·rw [if_pos k7,if_pos k7];rfl
 rw [if_neg k7,if_neg k7];rfl
theorem TI.dn (T:TR r n)(h:TI r n s)(ha:AB r w a):TI r n (dn s w a):=by
 have hl: ∀ts t b o,(dc ts t b o).length=ts.length:=dw;rw [iv];split
 ·rename_i k1;refine⟨fun x hx=> ?_,by simpa using h.pl,h.tl⟩;rcases List.mem_or_eq_of_mem_set hx with hx|rfl
  ·exact h.pr x hx
  ·have:=ha.step k1;have:=T.nn;omega
 repeat' split
 all_goals exact⟨h.pr,h.pl,by simpa [hl]using h.tl⟩
def tt (n:Int)(x:Int×Int):Int×Int:=if x.1=2 then (2,n-x.2)else x
theorem Iu {x:Int×Int}:tt n (tt n x)=x:=by
 unfold tt;by_cases h:x.1=2
 ·rw [if_pos h];simp only [if_true];exact Prod.ext h.symm (by simp only;omega)
 ·rw [if_neg h,if_neg h]
theorem AW (h:TI r n s)(ha:AB r w a):eI (tS n s) w (tA n a)=(eI s w a).map (tt n):=by
 have hw:=ha.wl;unfold eI;have e0:(tA n a).kind=a.kind:=rfl;have e6:(tS n s).ao=s.ao:=rfl;rw [e0,e6,h.gp hw];by_cases k1:a.kind=1
 ·have e8:(tA n a).cell=n-a.cell:=by show (if a.kind=1 then _ else _)=_;rw [if_pos k1]
  rw [if_pos k1,if_pos k1,e8];rfl
 rw [if_neg k1,if_neg k1];by_cases k2:a.kind=2
 ·rw [if_pos k2,if_pos k2];rfl
 rw [if_neg k2,if_neg k2];by_cases k4:a.kind=4
 ·rw [if_pos k4,if_pos k4];rfl
 rw [if_neg k4,if_neg k4];by_cases k5:a.kind=5∨a.kind=6
 ·rw [if_pos k5,if_pos k5];rfl
 rw [if_neg k5,if_neg k5];rfl
end
theorem Iv {n:Int}{l:List (Int×Int)}{x:Int×Int}:x∈l.map (tt n)↔tt n x∈l:=by
 rw [List.mem_map];constructor
 ·rintro⟨y,hy,rfl⟩;rw [Iu];exact hy
 ·exact fun h=>⟨_,h,Iu⟩
theorem xK {r:aC}{n:Int}(T:TR r n){s:ay}(hs:TI r n s): ∀(g:List au) (tk tk':List (Int×Int)) (nx:ay) (i:Nat),TI r n nx→(∀a∈g,AB r a.aR.toNat a)→(∀x,x∈tk'↔tt n x∈tk)→
  cQ (tR n r) (tS n s) (g.map (tA n)) tk' (tS n nx) i=(tS n (cQ r s g tk nx i).1,(cQ r s g tk nx i).2)∧TI r n (cQ r s g tk nx i).1
 | [],tk,tk',nx,i,hn,_,_=>⟨rfl,hn⟩
 |a::g,tk,tk',nx,i,hn,hA,hk=>by
  have ha:=hA a (by simp);have ew:(tA n a).aR=a.aR:=rfl;rw [List.map_cons];unfold cQ;rw [ew,sO T hs ha,AW hs ha,AV hn ha];by_cases hp:bV r s a.aR.toNat a=false
  ·rw [if_pos hp,if_pos hp];exact⟨rfl,hs⟩
  rw [if_neg hp,if_neg hp];have hq:(∀x∈(eI s a.aR.toNat a).map (tt n),x∉tk')↔ ∀x∈eI s a.aR.toNat a,x∉tk:=by
   constructor
   ·intro h x hx hx2;exact h (tt n x) (List.mem_map_of_mem hx) ((hk _).2 (by rw [Iu];exact hx2))
   ·intro h x hx hx2;exact h _ (Iv.1 hx) ((hk x).1 hx2)
  by_cases hq2: ∀x∈eI s a.aR.toNat a,x∉tk
  ·rw [if_pos hq2,if_pos (hq.2 hq2)];refine xK T hs g _ _ _ _ (hn.dn T ha) (fun b hb=>hA b (by simp [hb])) fun x=> ?_;rw [pE,pE,hk x,Iv]
  ·rw [if_neg hq2,if_neg (fun h=>hq2 (hq.1 h))];exact⟨rfl,hs⟩
theorem mV {r:aC}{n:Int}(T:TR r n): ∀(k:Nat) (s:ay) (aj:List au) (i:Nat),TI r n s→(∀a∈aj,AB r a.aR.toNat a)→
  dg (tR n r) k (tS n s) (aj.map (tA n)) i=((dg r k s aj i).1.map (tS n),tS n (dg r k s aj i).2.1,(dg r k s aj i).2.2)
 |0,s,aj,i,hs,_=>by cases aj<;>rfl
 |_+1,s,[],i,hs,_=>rfl
 |k+1,s,a::rest,i,hs,hA=>by
  have et:((a::rest).map (tA n)).takeWhile (b7 (tA n a))=((a::rest).takeWhile (b7 a)).map (tA n):=by
   rw [List.takeWhile_map];rfl
  have hA2: ∀b∈(a::rest).takeWhile (b7 a),AB r b.aR.toNat b:=fun b hb=>hA b (iZ hb).2;obtain⟨M,hM⟩:=xK T hs ((a::rest).takeWhile (b7 a)) [] [] s 0 hs hA2 (by simp);rw [List.map_cons,pF,pF,←List.map_cons,et,M,List.length_map,←List.map_drop];by_cases h0:(cQ r s ((a::rest).takeWhile (b7 a)) [] s 0).2.2≠0
  ·rw [if_pos h0,if_pos h0];rfl
  ·rw [if_neg h0,if_neg h0];rw [mV T k _ _ _ hM fun b hb=>hA b (List.mem_of_mem_drop hb)];rfl
end
section
section
variable {r:aC} {n:Int} {s:ay} {w:Nat} {a:au}
theorem xL (T:TR r n)(h:TI r n s):ql (tR n r) (tS n s)=ql r s:=by
 rw [mL,mL];have e1:(tS n s).ao=s.ao:=rfl;rw [e1];congr 1;have e2:(tR n r).aa.length=r.aa.length:=(by simp [tR]);rw [e2,decide_eq_decide];refine forall_congr' fun i=>forall_congr' fun hi=> ?_;have e3:(tS n s).aa.getD i aQ=uJ n (s.aa.getD i aQ):=gm (by rw [h.tl];exact hi);have e4:(tR n r).aa.getD i cA={r.aa.getD i cA with cell:=n-(r.aa.getD i cA).cell,home:=n-(r.aa.getD i cA).home}:=gm hi;have hm:=T.hm _ (List.getElem_mem hi);rw [e3,e4];rw [←aW (d:=cA) hi]at hm;generalize s.aa.getD i aQ=p;generalize r.aa.getD i cA=t at hm
 cases p with
 |mk c st=>
 unfold uJ;simp only [br.mk.injEq];split
 ·simp only [br.mk.injEq];omega
 ·simp only [br.mk.injEq];omega
theorem yZ {l m:List Int}:eQ (l.map (n- ·)).reverse (m.map (n- ·))=eQ l m:=by
 rw [ke,ke,Bool.eq_iff_iff,List.any_eq_true,List.any_eq_true];constructor
 ·rintro⟨x,hx,h⟩;obtain⟨y,hy,rfl⟩:=List.mem_map.1 (List.mem_reverse.1 hx);exact⟨y,hy,by rwa [mj]at h⟩
 ·rintro⟨y,hy,h⟩;exact⟨n-y,List.mem_reverse.2 (List.mem_map_of_mem hy),by rwa [mj]⟩
theorem Fu (T:TR r n)(h:TI r n s)(ha:AB r w a):sI (tR n r) (tS n s) w (tA n a)=sI r s w a:=by
 rw [rC,rC,sO T h ha,h.gp ha.wl];have e:[n-s.ae.getD w 0,if (tA n a).kind=1 then (tA n a).cell else n-s.ae.getD w 0]=([s.ae.getD w 0,if a.kind=1 then a.cell else s.ae.getD w 0]).map (n- ·):=by
  have e0:(tA n a).kind=a.kind:=rfl;have e1:(tA n a).cell=if a.kind=1 then n-a.cell else a.cell:=rfl;rw [e0,e1];by_cases k:a.kind=1<;>simp [k]
 rw [e];show (_ && !eQ (r.seen.map (n- ·)).reverse _)=_
 rw [yZ]
theorem Ze:tA n (tA n a)=a:=by
 unfold tA;cases a;simp only;split
 ·simp only [au.mk.injEq,true_and,and_true];omega
 ·rfl
theorem Iw {nt np:Nat}{aR:Int}{a:au}(h:a∈eJ nt np aR 7 2):a.kind≠1:=by
 unfold eJ at h;obtain⟨k,hk,h⟩:=List.mem_flatMap.1 h;have hk2:=List.mem_range'_1.1 hk;have key: ∀x,a∈gC nt np aR k x→a.kind≠1:=fun x h=>by
  unfold gC at h;split at h
  ·obtain⟨y,_,rfl⟩:=List.mem_map.1 h;exact by show (2:Int)≠1;decide
  ·split at h
   ·obtain⟨y,_,rfl⟩:=List.mem_map.1 h;exact by show (4:Int)≠1;decide
   ·rw [List.mem_singleton.1 h];show (k:Int)≠1
    omega
 rcases List.mem_append.1 h with h|h
 ·exact key _ h
 ·exact key _ h
theorem CN (T:TR r n)(h:a∈ob r w):tA n a∈ob r w:=by
 unfold ob bK at h⊢;rcases List.mem_append.1 h with h|h
 ·refine List.mem_append.2 (.inl ?_);obtain⟨x,hx,rfl⟩:=List.mem_map.1 h;have hx2:=List.mem_range'_1.1 hx;refine List.mem_map.2 ⟨((r.wide*r.deep).toNat-1-x),List.mem_range'_1.2 ⟨by omega,by omega⟩, ?_⟩;have:=T.nn;unfold tA bW;simp only [if_true,au.mk.injEq,true_and,and_true];omega
 ·refine List.mem_append.2 (.inr ?_);have k:=Iw h;have:tA n a=a:=(by unfold tA;rw [if_neg k]);rw [this];exact h
theorem Ix:ob (tR n r) w=ob r w:=by
 unfold ob;simp [tR]
end
section
variable {r:aC} {n:Int}
theorem AX (T:TR r n){w:Nat}{all:List au}(hall: ∀a∈all,AB r w a)(hf: ∀a∈all,tA n a∈all){fin fin':ay→List au→Bool}(hfin: ∀s l l',fB r s→fin' (tS n s) l'=fin s l):
  ∀k s l l',fB r s→(uu (tR n r) w all fin' k (tS n s) l').isSome=(uu r w all fin k s l).isSome
 |0,s,l,l',hs=>by
  unfold uu;rw [hfin s l l' hs];split<;>rfl
 |k+1,s,l,l',hs=>by
  unfold uu;rw [Bool.eq_iff_iff,List.findSome?_isSome_iff,List.findSome?_isSome_iff];have key: ∀b∈all,(if sI (tR n r) (tS n s) w (tA n b)=true then uu (tR n r) w all fin' k (dn (tS n s) w (tA n b)) (l'++[tA n b])else none).isSome=(if sI r s w b=true then uu r w all fin k (dn s w b) (l++[b])else none).isSome:=fun b hb=>by
   have hab:=hall b hb;rw [Fu T (hs.TI T) hab,AV (hs.TI T) hab];by_cases hu:sI r s w b=true
   ·rw [if_pos hu,if_pos hu];have hp:bV r s w b=true:=by
     rw [rC]at hu;simp at hu;exact hu.1
    exact AX T hall hf hfin k _ _ _ (hs.Si hab hp)
   ·rw [if_neg hu,if_neg hu]
  constructor
  ·rintro⟨a,ha,h⟩;refine⟨tA n a,hf a ha, ?_⟩;rw [←key _ (hf a ha),Ze];exact h
  ·rintro⟨b,hb,h⟩;exact⟨tA n b,hf b hb,by rw [key b hb];exact h⟩
theorem Fv (T:TR r n){B:List au}(hB: ∀a∈B,AB r a.aR.toNat a){s:ay}{l l':List au}(hs:fB r s):lK (tR n r) (B.map (tA n)) (tS n s) l'=lK r B s l:=by
 unfold lK;rw [List.length_map,mV T _ _ _ _ (hs.TI T) hB,xL T ((iL _ s B 0 hs hB).1.TI T)]
theorem oU (C:pY r):aL (tR n r)=tS n (aL r):=by
 unfold aL tS tR;simp only [List.map_map,ay.mk.injEq];refine⟨rfl,rfl,List.map_congr_left fun t ht=> ?_⟩;have:=(C.tc t ht).1;show (⟨n-t.cell,t.state⟩:br)=uJ n ⟨t.cell,t.state⟩
 unfold uJ;simp only;rw [if_pos this.1]
theorem Fy (T:TR r n)(C:pY r)(hA: ∀a∈r.aj,AB r a.aR.toNat a)(a:au):u7 (tR n r) (tA n a)=tS n (u7 r a):=by
 unfold u7;have e:oJ (tR n r).aj (tA n a)=(oJ r.aj a).map (tA n):=by
  show ((r.aj.map (tA n)).takeWhile _)=_
  rw [List.takeWhile_map];rfl
 rw [e,oU C,List.length_map,mV T _ _ (oJ r.aj a) _ ((lg C).TI T) fun b hb=>hA b (iZ hb).2]
theorem Iy {f:au→au}(hf: ∀a,(f a).bR=a.bR)(l:List au)(x:au):oI (l.map f) (f x)=(oI l x).map f:=by
 unfold oI;rw [←List.map_reverse,List.dropWhile_map,List.takeWhile_map,←List.map_reverse,←List.map_reverse,List.map_append,List.map_cons];have e:((fun y:au=>decide ((f x).bR<y.bR)) ∘ f)=fun y=>decide (x.bR<y.bR):=by
  funext y
  simp only [Function.comp,hf]
 rw [e]
theorem xM {f:au→au}(hf: ∀a,(f a).bR=a.bR): ∀(l a:List au),(l.map f).foldl oI (a.map f)=(l.foldl oI a).map f
 | [],a=>rfl
 |x::l,a=>by rw [List.map_cons,List.foldl_cons,List.foldl_cons,Iy hf,xM hf l]
theorem Fz {f:au→au}(hf: ∀a,(f a).bR=a.bR)(l:List au):dV (l.map f)=(dV l).map f:=xM hf l []
theorem sP {α β:Type}{f:α→β}: ∀{l:List α} {i:Nat},(l.map f).eraseIdx i=(l.eraseIdx i).map f
 | [],_=>rfl
 |a::l,0=>rfl
 |a::l,i+1=>by simp only [List.map_cons,List.eraseIdx_cons_succ,sP (l:=l)]
theorem xN (T:TR r n){k:Nat}{kind:Int}(h:sF r k kind):nr (tR n r) k kind=(nr r k kind).map (tA n):=by
 have e0:(tR n r).aj=r.aj.map (tA n):=rfl;unfold nr;rw [e0,SW,h.get];by_cases k2:kind=2
 ·rw [if_pos k2,if_pos k2];have hab:=(h.run.ab _ (List.getElem_mem h.lt)).flip (h.hand k2);have e1:({tA n (r.aj[k]'h.lt)with hand:=1-(tA n (r.aj[k]'h.lt)).hand}:au)=tA n {(r.aj[k]'h.lt)with hand:=1-(r.aj[k]'h.lt).hand}:=rfl;have hS:fB r (u7 r (r.aj[k]'h.lt)):=(iL _ _ _ 0 h.run.snd fun b hb=>h.run.ab b (iZ hb).2).1;have e2:(tA n (r.aj[k]'h.lt)).aR=(r.aj[k]'h.lt).aR:=rfl;rw [e1,e2,Fy T h.room h.run.ab,sO T (hS.TI T) hab];split
  ·rw [List.map_set]
  ·rw [sP]
 rw [if_neg k2,if_neg k2];by_cases k3:kind=3
 ·rw [if_pos k3,if_pos k3,←Fz (f:=tA n) (fun a=>rfl),List.map_append,List.map_take,List.map_map,←List.map_drop,List.map_map];congr 2;refine List.map_congr_left fun a _=> ?_;show late (r.aj[k]'h.lt).aR (tA n a)=tA n (late (r.aj[k]'h.lt).aR a)
  unfold late;have e2:(tA n a).aR=a.aR:=rfl;rw [e2];split<;>rfl
 rw [if_neg k3,if_neg k3,sP]
theorem xO {k:Nat}{kind:Int}:ou (tR n r) k kind=ou r k kind:=by
 have e0:(tR n r).aj=r.aj.map (tA n):=rfl;unfold ou;rw [e0,SW];rfl
theorem FA {k:Nat}:mO (tR n r) k=mO r k:=by
 have e0:(tR n r).aj=r.aj.map (tA n):=rfl;unfold mO;rw [e0,SW];rfl
theorem Iz {m:Int}{l:List au}:gY m (l.map (tA n))=(gY m l).map (tA n):=by
 unfold gY;rw [List.takeWhile_map];rfl
theorem CO {m:Int}{l:List au}:behind m (l.map (tA n))=(behind m l).map (tA n):=by
 unfold behind;rw [List.dropWhile_map];rfl
theorem FC (T:TR r n){k:Nat}{kind:Int}(h:sF r k kind):ry (tR n r) k kind=((ry r k kind).1.map (tS n),tS n (ry r k kind).2.1,(ry r k kind).2.2):=by
 unfold ry;rw [xO,xN T h,Iz,oU h.room,List.length_map,mV T _ _ (gY (ou r k kind) (nr r k kind)) _ (h.run.snd.TI T) fun b hb=>(ru h (iZ hb).2).1]
theorem rI {α β γ δ:Type}{f:α→Option β}{g:α→Option γ}{u:β→δ}{v:γ→δ}: ∀{l:List α},(∀a∈l,(f a).map u=(g a).map v)→(l.findSome? f).map u=(l.findSome? g).map v
 | [],_=>rfl
 |a::l,h=>by
  rw [List.findSome?_cons,List.findSome?_cons];have e:=h a (by simp)
  cases hf:f a with
  |none=>cases hg:g a with
   |none=>exact rI fun b hb=>h b (by simp [hb])
   |some y=>rw [hf,hg]at e;cases e
  |some x=>cases hg:g a with
   |none=>rw [hf,hg]at e;cases e
   |some y=>rw [hf,hg]at e;exact e
theorem vP (T:TR r n){k:Nat}{kind:Int}(h:sF r k kind):(j8 (tR n r) k kind).map List.length=(j8 r k kind).map List.length:=by
 unfold j8 HY;rw [FC T h,xO,xN T h,FA,CO,Ix];by_cases he:(ry r k kind).2.2.2≠0
 ·rw [if_pos he,if_pos he]
 rw [if_neg he,if_neg he];have hS:fB r (ry r k kind).2.1:=(iL _ (aL r) _ 0 h.run.snd fun a ha=>(ru h (iZ ha).2).1).1;refine rI fun m _=> ?_
 have q:=AX T (w:=mO r k) (all:=ob r (mO r k)) (fun a ha=>(HZ (by have:=h.uq;omega) h.wl ha).1) (fun a ha=>CN T ha)
  (fin:=lK r (behind (ou r k kind) (nr r k kind))) (fin':=lK (tR n r) ((behind (ou r k kind) (nr r k kind)).map (tA n)))
  (fun s l l' hs=>Fv T (fun a ha=>(ru h ((List.dropWhile_sublist _).subset ha)).1) hs) m (ry r k kind).2.1 [] [] hS
 cases h1:uu (tR n r) (mO r k) (ob r (mO r k)) (lK (tR n r) ((behind (ou r k kind) (nr r k kind)).map (tA n))) m (tS n (ry r k kind).2.1) []with
 |none=>cases h2:uu r (mO r k) (ob r (mO r k)) (lK r (behind (ou r k kind) (nr r k kind))) m (ry r k kind).2.1 []with
  |none=>rfl
  |some y=>rw [h1,h2]at q;cases q
 |some x=>cases h2:uu r (mO r k) (ob r (mO r k)) (lK r (behind (ou r k kind) (nr r k kind))) m (ry r k kind).2.1 []with
  |none=>rw [h1,h2]at q;cases q
  |some y=>
   have a1:=(y6 _ _ _ _ h1).1;have a2:=(y6 _ _ _ _ h2).1;show some x.length=some y.length
   rw [a1,a2]
end
end
section
theorem rJ {n x:Int}:cV (n-x) 0 n=cV x 0 n:=by
 unfold cV;rw [Bool.eq_iff_iff];simp only [Bool.and_eq_true,decide_eq_true_eq];omega
theorem AY {r:aC}(h:cn r=0):TR r (r.wide*r.deep-1):=by
 obtain⟨R,A⟩:=jh h;refine⟨R.w,R.d,rfl,fun t ht=> ?_⟩;rw [jH]at h;obtain⟨h,_⟩:=ite_self h;rw [jE]at h;obtain⟨h1,h⟩:=bB (by decide) h;obtain⟨h2,h⟩:=bB (by decide) h;obtain⟨h3,h⟩:=bB (by decide) h;obtain⟨h4,h⟩:=ite_self h;obtain⟨h5,h⟩:=bB (by decide) h;obtain⟨h6,h⟩:=ite_self h;obtain⟨j,hj,rfl⟩:=List.getElem_of_mem ht;have ar:=R.uq;have e:=gb h6 j (Nat.zero_le _) (by omega);rw [lR ar.1 (by omega),jG,aW hj]at e;obtain⟨e1,e⟩:=bB (by decide) e;exact gR (fun x=>e1 (.inr x))
theorem y7 {l:List Int}{n:Int}{j:Nat}(hj:j<l.length):((l.map (n- ·)).reverse).getD j 0=n-l.getD (l.length-1-j) 0:=by
 rw [aW (by simpa using hj),List.getElem_reverse,List.getElem_map,aW (by omega)];simp only [List.length_map]
theorem y8 {p:Int→Bool}{e:Int}(he:e≠0){l:List Int}:bI (mf p e l) l.length 0=0↔(∀j,j<l.length→p (l.getD j 0)=true)∧ ∀j,j+1<l.length→l.getD j 0<l.getD (j+1) 0:=by
 constructor
 ·intro h;have key: ∀j,j<l.length→p (l.getD j 0)=true∧ ¬(0<j∧l.getD j 0≤l.getD (j-1) 0):=fun j hj=>by
   have a:=gb h j (Nat.zero_le _) (by omega);rw [oL]at a;obtain⟨a1,a⟩:=bB he a;obtain⟨a2,_⟩:=bB (by decide) a;exact⟨by simpa using a1,a2⟩
  refine⟨fun j hj=>(key j hj).1,fun j hj=> ?_⟩;have:=(key (j+1) hj).2;rw [Nat.add_sub_cancel]at this;have h2: ¬l.getD (j+1) 0≤l.getD j 0:=fun x=>this ⟨by omega,x⟩;omega
 ·rintro⟨h1,h2⟩;refine jD fun j _ hj=> ?_;rw [oL,if_neg (by rw [h1 j (by omega)];simp),if_neg];rintro⟨j0,hle⟩;obtain⟨i,rfl⟩: ∃i,j=i+1:=⟨j-1,by omega⟩;have:=h2 i (by omega);rw [Nat.add_sub_cancel]at hle;omega
theorem xb {ps:List aV}{n x:Int}{j:Nat}:du (ps.map fun p=>{p with cell:=n-p.cell}) j (n-x)=du ps j x:=by
 unfold du;rw [←List.map_take,List.any_map];congr 1
 funext p
 show (n-p.cell==n-x)=(p.cell==x)
 rw [Bool.eq_iff_iff,beq_iff_eq,beq_iff_eq];omega
theorem CP {r:aC}{n:Int}(h:lS r=0)(hn:n=r.wide*r.deep-1):lS (tR n r)=0:=by
 have R:=D5 h;have ar:=R.uq;have top:cW r.wide r.deep=n:=(by rw [lR ar.1 (by omega),hn]);rw [jE,top]at h;obtain⟨h1,h⟩:=bB (by decide) h;obtain⟨h2,h⟩:=bB (by decide) h;obtain⟨h3,h⟩:=bB (by decide) h;obtain⟨h4,h⟩:=ite_self h;obtain⟨h5,h⟩:=bB (by decide) h;obtain⟨h6,h⟩:=ite_self h;obtain⟨h7,h8⟩:=ite_self h;have pl:(tR n r).ae.length=r.ae.length:=(by simp [tR]);have tl:(tR n r).aa.length=r.aa.length:=(by simp [tR]);have sl:(tR n r).seen.length=r.seen.length:=(by simp [tR]);have e4:bI (iu n (tR n r).ae) r.ae.length 0=0:=by
  rw [jm r.ae.length 0 fun j _ hj=> ?_]
  ·exact h4
  ·have hj':j<r.ae.length:=(by omega);have g:(tR n r).ae.getD j ⟨0,0⟩={r.ae.getD j ⟨0,0⟩with cell:=n-(r.ae.getD j ⟨0,0⟩).cell}:=gm hj';rw [j6,j6,g];simp only [rJ];rw [show (tR n r).ae=r.ae.map fun p=>{p with cell:=n-p.cell}from rfl,xb]
 have e6:bI (jF n (tR n r).aa) r.aa.length 0=0:=by
  rw [jm r.aa.length 0 fun j _ hj=> ?_]
  ·exact h6
  ·have hj':j<r.aa.length:=(by omega);have g:(tR n r).aa.getD j ⟨0,0,0,0,false⟩={r.aa.getD j ⟨0,0,0,0,false⟩with cell:=n-(r.aa.getD j ⟨0,0,0,0,false⟩).cell,home:=n-(r.aa.getD j ⟨0,0,0,0,false⟩).home}:=gm hj';rw [jG,jG,g];simp only [rJ]
 have e7:bI (mf (fun x=>cV x 0 n) 7 (tR n r).seen) r.seen.length 0=0:=by
  obtain⟨a,b⟩:=(y8 (by decide)).1 h7;have e:(tR n r).seen=(r.seen.map (n- ·)).reverse:=rfl;rw [←sl];refine(y8 (by decide)).2 ⟨fun j hj=> ?_,fun j hj=> ?_⟩
  ·rw [sl]at hj;rw [e,y7 hj,rJ];exact a _ (by omega)
  ·rw [sl]at hj;rw [e,y7 (by omega),y7 hj];have:=b (r.seen.length-1-(j+1)) (by omega);rw [show r.seen.length-1-(j+1)+1=r.seen.length-1-j by omega]at this
   omega
 rw [jE,pl,tl,sl];have q1:(tR n r).wide=r.wide:=rfl;have q2:(tR n r).deep=r.deep:=rfl;have q3:(tR n r).a7=r.a7:=rfl;rw [q1,q2,q3,top,if_neg h1,if_neg h2,if_neg h3,if_neg (by rw [e4];simp),if_neg h5,if_neg (by rw [e6];simp),if_neg (by rw [e7];simp)];exact h8
theorem y9 {n nt np:Int}{a:au}:fo n nt np (tA n a)=fo n nt np a:=by
 have ef:kY (tA n a)=kY a:=by
  unfold kY;by_cases k:a.kind=1
  ·rw [if_pos k,if_pos (show (tA n a).kind=1 from k)];rfl
  ·have:tA n a=a:=(by unfold tA;rw [if_neg k]);rw [this]
 rw [j5,j5,ef];have e1:(tA n a).kind=a.kind:=rfl;have e2:(tA n a).hand=a.hand:=rfl;have e3:(tA n a).bf=a.bf:=rfl;have e4:(tA n a).other=a.other:=rfl;have e5:(tA n a).aR=a.aR:=rfl;rw [e1,e2,e3,e4,e5];have e6:(a.kind=1∧cV (tA n a).cell 0 n=false)↔(a.kind=1∧cV a.cell 0 n=false):=by
  refine and_congr_right fun k=> ?_;have:(tA n a).cell=n-a.cell:=by show (if a.kind=1 then _ else _)=_;rw [if_pos k]
  rw [this,rJ]
 simp only [e6]
theorem FD {r:aC}{n:Int}(top:cW r.wide r.deep=n){j:Nat}:vr (tR n r) j=vr r j:=by
 have e0:(tR n r).aj=r.aj.map (tA n):=rfl;have pl:(tR n r).ae.length=r.ae.length:=(by simp [tR]);have tl:(tR n r).aa.length=r.aa.length:=(by simp [tR]);have q1:(tR n r).wide=r.wide:=rfl;have q2:(tR n r).deep=r.deep:=rfl;rw [ld,ld,e0,SW,SW,pl,tl,q1,q2,top,y9,←List.map_take,List.any_map];rfl
theorem tI {r:aC}{n:Int}(h:cn r=0)(hn:n=r.wide*r.deep-1):cn (tR n r)=0:=by
 have C:=(jh h).1;have ar:=C.uq;rw [jH]at h⊢;obtain⟨h1,h⟩:=ite_self h;obtain⟨h2,h3⟩:=bB (by decide) h;have e:(tR n r).aj.length=r.aj.length:=(by simp [tR]);rw [CP h1 hn,if_neg (by simp),e,if_neg h2,jm r.aj.length 0 fun j _ _=>FD (by rw [lR ar.1 (by omega),hn])];exact h3
theorem IA {r:aC}{n:Int}(h:gA r):gA (tR n r):=⟨by simpa [tR]using h.p,by simpa [tR]using h.t,by simpa [tR]using h.s,h.l,by simpa [tR]using h.a⟩
section
variable {r:aC} {n:Int}
theorem xP (T:TR r n)(C:pY r)(A:O6 r):di (tR n r)=((di r).1.map (tS n),tS n (di r).2.1,(di r).2.2):=by
 have hS:=lg C;have e:(tR n r).aj=r.aj.map (tA n):=rfl;have q:=mV T r.aj.length (aL r) r.aj 0 (hS.TI T) A.ab;have hL:=(iL r.aj.length (aL r) r.aj 0 hS A.ab).1;unfold di;simp only [e,List.length_map,oU C];rw [q];simp only [xL T (hL.TI T),List.map_cons]
theorem xQ (hc:cn r=0)(hn:n=r.wide*r.deep-1):mg (tR n r)=mg r:=by
 obtain⟨C,A⟩:=jh hc;have T:=AY hc;rw [←hn]at T;rw [mN,mN,if_pos hc,if_pos (tI hc hn),xP T C A]
theorem IB (hc:cn r=0)(hn:n=r.wide*r.deep-1){act kind:Int}:E9 (tR n r) act kind=E9 r act kind:=by
 have e0:(tR n r).aj=r.aj.map (tA n):=rfl;rw [rq,rq,xQ hc hn,e0,List.length_map,SW];rfl
theorem CQ (hc:cn r=0)(hn:n=r.wide*r.deep-1)(sh:gA r)(ho:mg r=0):oM (tR n r) (tR n r).aj.length 0=oM r r.aj.length 0:=by
 obtain⟨C,A⟩:=jh hc;have T:=AY hc;rw [←hn]at T;have e0:(tR n r).aj=r.aj.map (tA n):=rfl;unfold oM;rw [e0,List.length_map];refine lu fun i hi=> ?_;have hi2:=List.mem_range'_1.1 hi;have q3:(tR n r).a7=r.a7:=rfl;unfold rA;rw [q3];refine lu fun x hx=> ?_;have hx2:=C.ls x hx;have eg:rz (tR n r) i x=rz r i x:=by
  unfold rz;rw [e0,SW];by_cases hk:x=2∧(r.aj.getD i cI).kind=1
  ·have hk':x=2∧(tA n (r.aj.getD i cI)).kind=1:=hk;rw [decide_eq_true hk,decide_eq_true hk'];rfl
  ·have hk': ¬(x=2∧(tA n (r.aj.getD i cI)).kind=1):=hk;rw [decide_eq_false hk,decide_eq_false hk',Bool.false_or,Bool.false_or];obtain⟨k,e,L⟩:=rr sh (D6 ho (by omega) hx2 hk);have:k=i:=(by omega);subst this;have:=congrArg Option.isSome (vP T L)
   rwa [Option.isSome_map,Option.isSome_map]at this
 rw [eg]
end
section
variable {r:aC} {sn:List Int}
theorem FE {s:ay}{w:Nat}{a:au}:bV {r with seen:=sn} s w a=bV r s w a:=by rw [cT,cT]
theorem xR {s:ay}: ∀(g:List au) (tk:List (Int×Int)) (nx:ay) (i:Nat),cQ {r with seen:=sn} s g tk nx i=cQ r s g tk nx i
 | [],_,_,_=>rfl
 |a::g,tk,nx,i=>by
  unfold cQ;rw [FE,xR g]
theorem xS: ∀(k:Nat) (s:ay) (aj:List au) (i:Nat),dg {r with seen:=sn} k s aj i=dg r k s aj i
 |0,s,aj,i=>by
  cases aj<;>rfl
 |_+1,s,[],i=>rfl
 |k+1,s,a::rest,i=>by
  rw [pF,pF,xR,xS k]
theorem FF:di {r with seen:=sn}=di r:=by
 have e: ∀s,ql {r with seen:=sn} s=ql r s:=fun s=>(by rw [mL,mL]);unfold di;simp only [xS,e];rfl
theorem AZ (h:cn r=0)(h1:sn.Pairwise (· < ·))(h2: ∀x∈sn,0≤x∧x<r.wide*r.deep):cn {r with seen:=sn}=0:=by
 have C:=(jh h).1;have ar:=C.uq;have top:=lR ar.1 (by omega);rw [jH]at h⊢;obtain⟨hr,h⟩:=ite_self h;obtain⟨ha,hb⟩:=bB (by decide) h;have e7:bI (mf (fun x=>cV x 0 (cW r.wide r.deep)) 7 sn) sn.length 0=0:=by
  refine(y8 (by decide)).2 ⟨fun j hj=> ?_,fun j hj=> ?_⟩
  ·rw [aW hj,top];have:=h2 _ (List.getElem_mem hj);exact dI this.1 (by omega)
  ·rw [aW (by omega),aW hj];exact List.pairwise_iff_getElem.1 h1 j (j+1) (by omega) hj (by omega)
 have er:lS {r with seen:=sn}=0:=by
  rw [jE]at hr⊢;obtain⟨g1,hr⟩:=bB (by decide) hr;obtain⟨g2,hr⟩:=bB (by decide) hr;obtain⟨g3,hr⟩:=bB (by decide) hr;obtain⟨g4,hr⟩:=ite_self hr;obtain⟨g5,hr⟩:=bB (by decide) hr;obtain⟨g6,hr⟩:=ite_self hr;obtain⟨g7,g8⟩:=ite_self hr;simp only;rw [if_neg g1,if_neg g2,if_neg g3,if_neg (by rw [g4];simp),if_neg g5,if_neg (by rw [g6];simp),if_neg (by rw [e7];simp)];exact g8
 rw [er,if_neg (by simp),if_neg ha];rw [jm r.aj.length 0 fun j _ _=>(by rw [ld,ld]:vr {r with seen:=sn} j=vr r j)];exact hb
end
end
section
variable {c:Nat} {H:ai}
def fJ {α:Type}(f:α→α)(i:Nat)(l:List α):List α:=(l.take i).map f++l.drop i
theorem rK {α:Type}{f:α→α}{l:List α}:fJ f 0 l=l:=by simp [fJ]
theorem mW {α:Type}{f:α→α}{l:List α}{i:Nat}(h:l.length≤i):fJ f i l=l.map f:=by simp [fJ,List.take_of_length_le h,List.drop_of_length_le h]
theorem kL {α:Type}{f:α→α}{l:List α}{i:Nat}:(fJ f i l).length=l.length:=by simp [fJ];omega
theorem kM {α:Type}{f:α→α}{l:List α}{i:Nat}(h:i<l.length):(fJ f i l)[i]'(by rw [kL];exact h)=l[i]:=by
 unfold fJ;rw [List.getElem_append_right (by simp;omega)];simp only [List.length_map,List.length_take,Nat.min_eq_left (Nat.le_of_lt h),Nat.sub_self,List.getElem_drop,Nat.add_zero]
theorem kN {α:Type}{f:α→α}{l:List α}{i:Nat}(h:i<l.length):(fJ f i l).set i (f l[i])=fJ f (i+1) l:=by
 unfold fJ;rw [List.set_append_right _ _ (by simp;omega)];simp only [List.length_map,List.length_take,Nat.min_eq_left (Nat.le_of_lt h),Nat.sub_self];rw [List.drop_eq_getElem_cons h,List.set_cons_zero,List.take_succ_eq_append_getElem h,List.map_append];simp
theorem vQ {α:Type}{f:α→α}{l:List α}{i:Nat}(h:i<l.length)(e:f l[i]=l[i]):fJ f (i+1) l=fJ f i l:=by
 rw [←kN h,e];have:=kM (f:=f) h;rw [←this,List.set_getElem_self]
def tP (n:Int)(p:aV):aV:={p with cell:=n-p.cell}
def SY (n:Int)(t:a8):a8:={t with cell:=n-t.cell,home:=n-t.home}
def gj (nm:Nm)(es N:Nat):GV:=if N=0 then .aS else .bd nm es N 0 N
theorem A0 {nm:Nm}{es:Nat}{rows:List (List PV)}:dh nm es rows=gj nm es rows.length:=by
 unfold dh gj;cases rows<;>rfl
theorem eK {nm:Nm}{es N:Nat}(h:N≠0):gj nm es N= .bd nm es N 0 N:=if_neg h
theorem sQ {nm:Nm}{es:Nat}:gj nm es 0= .aS:=rfl
theorem CR {N kp:Nat}{n:Int}(hk:kp≠1){orig:List aV}(hN:orig.length=N)(hl:N≤1000000)(hb: ∀p∈orig,IntKind.i64.wrap (n-p.cell)=n-p.cell){c0 c1 c3 c4 c5 c6:GV}(Q:GX→bM→Prop):
  ∀(k i:Nat) (F:Fr) (v:Nat),i+k=N→v≤N→F.get 1=some (.box [c0,c1,gj (H.length,kp) 2 N,c3,c4,c5,c6])→(N≠0→F.get kp=some (.arr 2 ((fJ (tP n) i orig).map aV.row) v false))→
  (∀F' v',(∀k,k≠kp→F'.get k=F.get k)→v'≤N→(N≠0→F'.get kp=some (.arr 2 ((orig.map (tP n)).map aV.row) v' false))→
   Q (.exit 0) ⟨[(1, .aA (H.length,1) 0),(2, .aA (H.length,2) 0),(3, .pure (.int .i64 n))],F'::H,118⟩)→
  gZ KC aw 38 (lp Tryz.f38 0) [1,2,3,4] [1,2,3] Q [(1, .aA (H.length,1) 0),(2, .aA (H.length,2) 0),(3, .pure (.int .i64 n)),(4, .pure (.int .i64 i))] (F::H) 118:=by
 intro k
 induction k with
 |zero=>
  intro i F v hi hv h1 h2 hQ;have hia:i=N:=(by omega);subst hia;rw [mW (by omega)]at h2;have hQ':=hQ F v (fun _ _=>rfl) hv h2;apply az;conv=>arg 4;whnf
  by_cases h0:i=0
  ·subst h0;rw [sQ]at h1;simp [h1];exact hQ'
  ·rw [eK h0]at h1;simp [h1];exact hQ'
 |succ k ih=>
  intro i F v hi hv h1 h2 hQ;have h0:N≠0:=(by omega);have hil:i<orig.length:=(by omega);have hia:i<N:=(by omega);have hw:=c8 (x:=(i:Int)+1) (by omega) (by omega);have p1:=fun b (f:Fr)=>Fr.ax (p:=1) (q:=kp) b (fun e=>hk e.symm) f
  have ih':=ih (i+1) (Fr.ins kp (.arr 2 ((fJ (tP n) (i+1) orig).map aV.row) N false) F) N (by omega) (Nat.le_refl _) ((p1 _ _).trans h1) (fun _=>Fr.bc ..)
   (fun F' v' g1=>hQ F' v' fun k k1=>(g1 k k1).trans (Fr.ax _ k1 F))
  rw [eK h0]at h1;have h2':=h2 h0;have hml:(fJ (tP n) i orig).length=N:=(by rw [kL,hN]);have hg:=kM (f:=tP n) hil;have hbi:=hb _ (List.getElem_mem hil);rw [←kN hil]at ih';apply az;conv=>arg 4;whnf
  simp [hia,h1,h2',hml,hg,hbi,hw,hv,Fr.bc,Fr.cP,p1,aV.row];simpa [aV.row,tP,List.map_set]using ih'
theorem CS {N kp:Nat}{n:Int}(hk:kp≠1){orig:List a8}(hN:orig.length=N)(hl:N≤1000000)(hb: ∀p∈orig,IntKind.i64.wrap (n-p.cell)=n-p.cell∧IntKind.i64.wrap (n-p.home)=n-p.home){c0 c1 c2 c4 c5 c6:GV}(Q:GX→bM→Prop):
  ∀(k i:Nat) (F:Fr) (v:Nat),i+k=N→v≤N→F.get 1=some (.box [c0,c1,c2,gj (H.length,kp) 5 N,c4,c5,c6])→(N≠0→F.get kp=some (.arr 5 ((fJ (SY n) i orig).map a8.row) v false))→
  (∀F' v',(∀k,k≠kp→F'.get k=F.get k)→v'≤N→(N≠0→F'.get kp=some (.arr 5 ((orig.map (SY n)).map a8.row) v' false))→
   Q (.exit 2) ⟨[(1, .aA (H.length,1) 0),(2, .aA (H.length,2) 0),(3, .pure (.int .i64 n))],F'::H,118⟩)→
  gZ KC aw 38 (lp Tryz.f38 1) [1,2,3,5] [1,2,3] Q [(1, .aA (H.length,1) 0),(2, .aA (H.length,2) 0),(3, .pure (.int .i64 n)),(5, .pure (.int .i64 i))] (F::H) 118:=by
 intro k
 induction k with
 |zero=>
  intro i F v hi hv h1 h2 hQ;have hia:i=N:=(by omega);subst hia;rw [mW (by omega)]at h2;have hQ':=hQ F v (fun _ _=>rfl) hv h2;apply az;conv=>arg 4;whnf
  by_cases h0:i=0
  ·subst h0;rw [sQ]at h1;simp [h1];exact hQ'
  ·rw [eK h0]at h1;simp [h1];exact hQ'
 |succ k ih=>
  intro i F v hi hv h1 h2 hQ;have h0:N≠0:=(by omega);have hil:i<orig.length:=(by omega);have hia:i<N:=(by omega);have hw:=c8 (x:=(i:Int)+1) (by omega) (by omega);have p1:=fun b (f:Fr)=>Fr.ax (p:=1) (q:=kp) b (fun e=>hk e.symm) f
  have ih':=ih (i+1) (Fr.ins kp (.arr 5 ((fJ (SY n) (i+1) orig).map a8.row) N false) F) N (by omega) (Nat.le_refl _) ((p1 _ _).trans h1) (fun _=>Fr.bc ..)
   (fun F' v' g1=>hQ F' v' fun k k1=>(g1 k k1).trans (Fr.ax _ k1 F))
  rw [eK h0]at h1;have h2':=h2 h0;have hml:(fJ (SY n) i orig).length=N:=(by rw [kL,hN]);have hg:=kM (f:=SY n) hil;obtain⟨hbi,hbj⟩:=hb _ (List.getElem_mem hil);rw [←kN hil]at ih';apply az;conv=>arg 4;whnf
  simp [hia,h1,h2',hml,hg,hbi,hbj,hw,hv,Fr.bc,Fr.cP,p1,a8.row];simpa [a8.row,SY,List.map_set]using ih'
theorem CU {seen:List Int}{n:Int}(hl:seen.length≤1000000)(hb: ∀x∈seen,IntKind.i64.wrap (n-x)=n-x){c0 c1 c2 c3 c5 c6:GV}{F:Fr}(f87:F.get 87=none)(h1:F.get 1=some (.box [c0,c1,c2,c3, .pure (.slice (seen.map aD)),c5,c6]))(Q:GX→bM→Prop):
  ∀(i:Nat) (l:List Int),i≤seen.length→l=(seen.drop i).reverse.map (n- ·)→
  (Q (.exit 4) ⟨[(1, .aA (H.length,1) 0),(2, .aA (H.length,2) 0),(3, .pure (.int .i64 n)),(6,dh (H.length,87) 1 (((seen.map (n- ·)).reverse).map aD))],fD 87 1 (((seen.map (n- ·)).reverse).map aD) F::H,118⟩)→
  gZ KC aw 38 (lp Tryz.f38 2) [1,2,3,6,7] [1,2,3,6] Q [(1, .aA (H.length,1) 0),(2, .aA (H.length,2) 0),(3, .pure (.int .i64 n)),(6,dh (H.length,87) 1 (l.map aD)),(7, .pure (.int .i64 ((i:Int)-1)))] (fD 87 1 (l.map aD) F::H) 118:=by
 intro i
 induction i with
 |zero=>
  intro l hi he hQ;have e:l=(seen.map (n- ·)).reverse:=(by rw [he,List.drop_zero,List.map_reverse]);rw [e];apply az;conv=>arg 4;whnf
  simp;simpa using hQ
 |succ i ih=>
  intro l hi he hQ;have hil:i<seen.length:=(by omega);have hd:(seen.drop i)=seen[i]::seen.drop (i+1):=List.drop_eq_getElem_cons hil;have ih':=ih (l++[n-seen[i]]) (by omega) (by rw [hd,List.reverse_cons,List.map_append,←he];rfl) hQ;have hbi:=hb _ (List.getElem_mem hil);have hll:l.length≤seen.length:=(by rw [he];simp);have hbb:(l.length+1)*8≤1099511627776:=(by omega);have AP:=fun(f0:Fr)=>Eh (H:=H) (l:=H.length) (key:=87) (es:=1) (bytes:=8) (rows:=l.map aD) (r:=aD (n-seen[i])) (fr:=F) (f0:=f0) rfl f87 (by simpa using hbb);have e1:((i+1:Nat):Int)-1=i:=(by omega);have hw:=c8 (x:=(i:Int)-1) (by omega) (by omega);rw [e1];simp only [aD]at AP;apply az;conv=>arg 4;whnf
  simp [h1,hil,hbi,hw,bO,aD,AP];simpa [aD]using ih'
theorem CV {N kp:Nat}{n:Int}(hk:kp≠1){orig:List au}(hN:orig.length=N)(hl:N≤1000000)(hb: ∀p∈orig,p.kind=1→IntKind.i64.wrap (n-p.cell)=n-p.cell){c0 c1 c2 c3 c4 c5:GV}(Q:GX→bM→Prop):
  ∀(k i:Nat) (F:Fr) (v:Nat),i+k=N→v≤N→F.get 1=some (.box [c0,c1,c2,c3,c4,c5,gj (H.length,kp) 9 N])→(N≠0→F.get kp=some (.arr 9 ((fJ (tA n) i orig).map au.row) v false))→
  (∀F' v',(∀k,k≠kp→F'.get k=F.get k)→v'≤N→(N≠0→F'.get kp=some (.arr 9 ((orig.map (tA n)).map au.row) v' false))→
   Q (.exit 6) ⟨[(1, .aA (H.length,1) 0),(2, .aA (H.length,2) 0)],F'::H,118⟩)→
  gZ KC aw 38 (lp Tryz.f38 3) [1,2,3,8] [1,2] Q [(1, .aA (H.length,1) 0),(2, .aA (H.length,2) 0),(3, .pure (.int .i64 n)),(8, .pure (.int .i64 i))] (F::H) 118:=by
 intro k
 induction k with
 |zero=>
  intro i F v hi hv h1 h2 hQ;have hia:i=N:=(by omega);subst hia;rw [mW (by omega)]at h2;have hQ':=hQ F v (fun _ _=>rfl) hv h2;apply az;conv=>arg 4;whnf
  by_cases h0:i=0
  ·subst h0;rw [sQ]at h1;simp [h1];exact hQ'
  ·rw [eK h0]at h1;simp [h1];exact hQ'
 |succ k ih=>
  intro i F v hi hv h1 h2 hQ;have h0:N≠0:=(by omega);have hil:i<orig.length:=(by omega);have hia:i<N:=(by omega);have hw:=c8 (x:=(i:Int)+1) (by omega) (by omega);have p1:=fun b (f:Fr)=>Fr.ax (p:=1) (q:=kp) b (fun e=>hk e.symm) f;have hml:(fJ (tA n) i orig).length=N:=(by rw [kL,hN]);have hg:=kM (f:=tA n) hil;have h2':=h2 h0;by_cases hkd:orig[i].kind=1
  ·have ih':=ih (i+1) (Fr.ins kp (.arr 9 ((fJ (tA n) (i+1) orig).map au.row) N false) F) N (by omega) (Nat.le_refl _) ((p1 _ _).trans h1) (fun _=>Fr.bc ..)
    (fun F' v' g1=>hQ F' v' fun k k1=>(g1 k k1).trans (Fr.ax _ k1 F))
   rw [eK h0]at h1;have hbi:=hb _ (List.getElem_mem hil) hkd;rw [←kN hil]at ih';apply az;conv=>arg 4;whnf
   simp [hia,h1,h2',hml,hg,hbi,hw,hv,hkd,Fr.bc,Fr.cP,p1,au.row];simpa [au.row,tA,hkd,List.map_set]using ih'
  ·have ih':=ih (i+1) F v (by omega) hv h1 (fun _=>by rw [vQ hil (by unfold tA;rw [if_neg hkd])];exact h2') hQ;rw [eK h0]at h1;apply az;conv=>arg 4;whnf
   simp [hia,h1,h2',hml,hg,hw,hv,hkd,Fr.bc,Fr.cP,p1,au.row];simpa using ih'
end
section
variable {c:Nat} {H:ai}
@[simp] theorem IC {nm:Nm}{es N l0:Nat}(h:nm.1≤l0):dP H l0 (gj nm es N)=(gj nm es N,H):=by
 unfold gj;split
 ·rfl
 ·have: ¬l0<nm.1:=(by omega);simp [dP,h,this]
@[simp] theorem Lr {nm:Nm}{es N:Nat}{r:List GV}:bp (gj nm es N::r)=none:=by
 unfold gj;split<;>rfl
theorem ja {l l0 key es N:Nat}{rows:List (List PV)}{F:Fr}(hl:H.length=l)(h:l0<l)(hr:rows.length=N)(hF:N≠0→ ∃v,v≤N∧F.get key=some (.arr es rows v false)):cz (F::H) l0 (gj (l,key) es N)=if rows=[]then .aS else .pure (.slice rows):=by
 subst hl;subst hr;by_cases hr:rows=[]
 ·subst hr;simp [sQ]
 ·have h0:rows.length≠0:=(by simpa using hr);obtain⟨v,hv,e⟩:=hF h0;have: ¬H.length≤l0:=(by omega);rw [eK h0];simp [hr,this,e,hv]
structure TB (r:aC)(n:Int):Prop where
 n0:0≤n∧n≤1000
 p: ∀p∈r.ae,0≤p.cell∧p.cell≤n
 t: ∀t∈r.aa,(0≤t.cell∧t.cell≤n)∧0≤t.home∧t.home≤n
 s: ∀x∈r.seen,0≤x∧x≤n
 a: ∀a∈r.aj,a.kind=1→0≤a.cell∧a.cell≤n
theorem xc {r:aC}(sh:gA r){n:Int}(hn:IntKind.i64.wrap (IntKind.i64.wrap (r.wide*r.deep)-1)=n)(B:TB r n)(hH:0<H.length):
  aN KC (aF KC) 38 [.pure (.agg r.row)] c H=some (.pure (.agg (tR n r).row),H):=by
 refine aM (ba KC aw Tryz.func38 rfl rfl SZ rfl rfl rfl (by simp) hH ?_);have hb:=B.n0;have hwr: ∀x:Int,0≤x∧x≤n→IntKind.i64.wrap (n-x)=n-x:=fun x hx=>c8 (by omega) (by omega);obtain⟨F1,o1,p2,p3,p7,O⟩:=AS (c:=16) (H:=H) (F:=[(1,aX r),(2,jk)]) r sh (by simp [ak]) (by simp [ak]) (by simp [ak]);have f1:F1.get 1=some (aX r):=(by rw [o1 1 (by decide) (by decide) (by decide)];rfl);have f2:F1.get 2=some jk:=(by rw [o1 2 (by decide) (by decide) (by decide)];rfl);have f87:F1.get 87=none:=(by rw [o1 87 (by decide) (by decide) (by decide)];rfl);have k12:ak 16 6≠ak 16 10:=(by decide);have k13:ak 16 6≠ak 16 22:=(by decide);have k23:ak 16 10≠ak 16 22:=(by decide);have k1:ak 16 6≠1∧ak 16 6≠2∧ak 16 6≠87:=(by decide);have k2:ak 16 10≠1∧ak 16 10≠2∧ak 16 10≠87:=(by decide);have k3:ak 16 22≠1∧ak 16 22≠2∧ak 16 22≠87:=(by decide);simp only [AU,A0,List.length_map]at O;generalize ak 16 6=ka at*;generalize ak 16 10=kb at*;generalize ak 16 22=kd at*;simp only [aX]at f1 O;simp only [jk]at O f2;rw [gK]at O⊢;simp [O,f1,hn,Fr.bc,Fr.cP,jk];refine CR k1.1 rfl sh.p (fun p hp=>hwr _ (B.p p hp)) _ r.ae.length 0 _ 0 (by omega) (by omega) (Fr.bc ..) (fun h0=>by
  rw [Fr.ax _ k1.1,rK];exact p2 (by simpa using h0)) fun F2 v2 g2 hv2 e2=> ?_
 have hbx:F2.get 1=some (.box [.pure (.int .i64 r.wide), .pure (.int .i64 r.deep),gj (H.length,ka) 2 r.ae.length,gj (H.length,kb) 5 r.aa.length, .pure (.slice (r.seen.map aD)), .pure (.slice (r.a7.map aD)),gj (H.length,kd) 9 r.aj.length]):=by
  rw [g2 1 k1.1.symm];exact Fr.bc ..
 simp;refine CS k2.1 rfl sh.t (fun t ht=>⟨hwr _ (B.t t ht).1,hwr _ (B.t t ht).2⟩) _ r.aa.length 0 F2 0 (by omega) (by omega) hbx (fun h0=>by
  rw [g2 kb k12.symm,Fr.ax _ k2.1,rK];exact p3 (by simpa using h0)) fun F3 v3 g3 hv3 e3=> ?_
 have hbx3:=(g3 1 k2.1.symm).trans hbx;simp [hbx3];have L:=fun Q hQ=>CU (H:=H) (n:=n) sh.s (fun x hx=>hwr _ (B.s x hx)) (F:=F3) (by rw [g3 87 k2.2.2.symm,g2 87 k1.2.2.symm,Fr.ax _ (by decide)];exact f87) hbx3 Q r.seen.length [] (Nat.le_refl _) (by simp) hQ;have hws:=c8 (x:=(r.seen.length:Int)-1) (by omega) (by have:=sh.s;omega);obtain⟨sl,hsl⟩: ∃sl:List Int,(r.seen.map (n- ·)).reverse=sl:=⟨_,rfl⟩;rw [hsl]at L;simp only [List.map_nil,gP,gQ]at L;simp [hws];refine L _ ?_;simp [bO,hbx3,Fr.bc,Fr.cP]
 refine CV k3.1 rfl sh.a (fun a ha hk=>hwr _ (B.a a ha hk)) _ r.aj.length 0 _ 0 (by omega) (by omega) (by
  rw [bO (by decide)];exact Fr.bc ..) (fun h0=>by
  rw [bO k3.2.2,Fr.ax _ k3.1,g3 kd k23.symm,g2 kd k13.symm,Fr.ax _ k3.1,rK];exact p7 (by simpa using h0)) fun F5 v5 g5 hv5 e5=> ?_
 have q1:=g5 1 k3.1.symm;rw [bO (by decide),Fr.bc]at q1;have q2:F5.get 2=some jk:=by
  rw [g5 2 k3.2.1.symm,bO (by decide),Fr.ax _ (by decide),g3 2 k2.2.1.symm,g2 2 k1.2.1.symm,Fr.ax _ (by decide)];exact f2
 simp only [jk]at q2;simp [q1,q2,Fr.bc,Fr.cP,aH];generalize hx:dB.box [.pure (.int .i64 r.wide), .pure (.int .i64 r.deep),gj (H.length,ka) 2 r.ae.length,gj (H.length,kb) 5 r.aa.length,dh (H.length,87) 1 (sl.map aD), .pure (.slice (r.a7.map aD)),gj (H.length,kd) 9 r.aj.length]=x;obtain⟨F,hF⟩: ∃F,Fr.ins 2 x F5=F:=⟨_,rfl⟩;have lt:H.length-1<H.length:=(by omega);have G: ∀k,k≠2→F.get k=F5.get k:=fun k hk=>by rw [←hF];exact Fr.ax _ hk _
 have w1:r.ae.length≠0→ ∃v,v≤r.ae.length∧F.get ka=some (.arr 2 ((r.ae.map (tP n)).map aV.row) v false):=fun h0=>⟨v2,hv2,by
  rw [G ka k1.2.1,g5 ka k13,bO k1.2.2,Fr.ax _ k1.1,g3 ka k12];exact e2 h0⟩
 have w2:r.aa.length≠0→ ∃v,v≤r.aa.length∧F.get kb=some (.arr 5 ((r.aa.map (SY n)).map a8.row) v false):=fun h0=>⟨v3,hv3,by
  rw [G kb k2.2.1,g5 kb k23,bO k2.2.2,Fr.ax _ k2.1];exact e3 h0⟩
 have w3:r.aj.length≠0→ ∃v,v≤r.aj.length∧F.get kd=some (.arr 9 ((r.aj.map (tA n)).map au.row) v false):=fun h0=>⟨v5,hv5,by
  rw [G kd k3.2.1];exact e5 h0⟩
 have w4:sl.map aD≠[]→F.get 87=some (.arr 1 (sl.map aD) 0 false):=fun h0=>by
  rw [G 87 (by decide),g5 87 k3.2.2.symm,dH h0]
 rw [hF,ah (by simp),fP,mG];have e:canon (cR ([.pure (.int .i64 r.wide), .pure (.int .i64 r.deep),gj (H.length,ka) 2 r.ae.length,gj (H.length,kb) 5 r.aa.length,dh (H.length,87) 1 (sl.map aD), .pure (.slice (r.a7.map aD)),gj (H.length,kd) 9 r.aj.length].map (cz (F::H) (H.length-1))))= .pure (.agg (tR n r).row):=by
  refine mU ?_;simp only [List.map_cons,List.map_nil,lP,ja rfl lt (by simp) w1,ja rfl lt (by simp) w2,ja rfl lt (by simp) w3,fE rfl lt w4,sE];rw [←hsl];rfl
 simp only [e]
end
section
variable {c:Nat} {H:ai}
theorem Ls {F:Fr}{s:ay}(h:Full s)(f6:F.get (ak c 6)=none)(f10:F.get (ak c 10)=none)(f14:F.get (ak c 14)=none):
  ∃F',(∀k,k≠ak c 6→k≠ak c 10→k≠ak c 14→F'.get k=F.get k)∧
   F'.get (ak c 6)=some (.arr 1 (s.ae.map aD) 0 false)∧F'.get (ak c 10)=some (.arr 2 (s.ao.map aI.row) 0 false)∧(s.aa.map br.row≠[]→F'.get (ak c 14)=some (.arr 2 (s.aa.map br.row) 0 false))∧
   aN KC (aF KC) 50 [.pure (.agg s.row)] c (F::H)=some (.agg [gj (H.length,ak c 6) 1 s.ae.length,gj (H.length,ak c 10) 2 s.ao.length,gj (H.length,ak c 14) 2 s.aa.length],F'::H):=by
 have mz:ak c 6≠ak c 10:=(by unfold ak;omega);have mc:ak c 6≠ak c 14:=(by unfold ak;omega);have kK:ak c 10≠ak c 14:=(by unfold ak;omega);have O:=KY (c:=c) (H:=F::H) h (by simp) (by simpa using f6) (by simpa using f10) (by simpa using f14);have e1:Se H.length (ak c 6) (ak c 10) (ak c 14) s= .agg [gj (H.length,ak c 6) 1 s.ae.length,gj (H.length,ak c 10) 2 s.ao.length,gj (H.length,ak c 14) 2 s.aa.length]:=by
  unfold Se;rw [A0,List.length_map,eK (N:=s.ae.length) (by simpa using h.p0),eK (N:=s.ao.length) (by simpa using h.h0)]
 have e2: ∀(k:Nat) (b:dB) (G:Fr),ai.set (G::H) (H.length,k) b=G.ins k b::H:=fun k b G=>(by simp);simp only [List.length_cons,Nat.add_sub_cancel,e1,e2]at O;rw [uI rfl]at O;refine⟨_,fun k a b d=> ?_, ?_, ?_,fun h=> ?_,O⟩
 ·rw [bO d,Fr.ax _ b,Fr.ax _ a]
 ·rw [bO mc,Fr.ax _ mz,Fr.bc]
 ·rw [bO kK,Fr.bc]
 ·rw [dH h]
theorem A4 {N kp:Nat}{n:Int}(hk:kp≠2){orig:List Int}(hN:orig.length=N)(hl:N≤1000000)(hb: ∀p∈orig,IntKind.i64.wrap (n-p)=n-p){c1 c2:GV}(Q:GX→bM→Prop):
  ∀(k i:Nat) (F:Fr) (v:Nat),i+k=N→v≤N→F.get 2=some (.box [gj (H.length,kp) 1 N,c1,c2])→(N≠0→F.get kp=some (.arr 1 ((fJ (fun x=>n-x) i orig).map aD) v false))→
  (∀F' v',(∀k,k≠kp→F'.get k=F.get k)→v'≤N→(N≠0→F'.get kp=some (.arr 1 ((orig.map (fun x=>n-x)).map aD) v' false))→
   Q (.exit 0) ⟨[(1, .pure (.int .i64 n)),(2, .aA (H.length,2) 0),(4, .aA (H.length,4) 0)],F'::H,55⟩)→
  gZ KC aw 40 (lp Tryz.f40 0) [1,2,4,5] [1,2,4] Q [(1, .pure (.int .i64 n)),(2, .aA (H.length,2) 0),(4, .aA (H.length,4) 0),(5, .pure (.int .i64 i))] (F::H) 55:=by
 intro k
 induction k with
 |zero=>
  intro i F v hi hv h1 h2 hQ;have hia:i=N:=(by omega);subst hia;rw [mW (by omega)]at h2;have hQ':=hQ F v (fun _ _=>rfl) hv h2;apply az;conv=>arg 4;whnf
  by_cases h0:i=0
  ·subst h0;rw [sQ]at h1;simp [h1];exact hQ'
  ·rw [eK h0]at h1;simp [h1];exact hQ'
 |succ k ih=>
  intro i F v hi hv h1 h2 hQ;have h0:N≠0:=(by omega);have hil:i<orig.length:=(by omega);have hia:i<N:=(by omega);have hw:=c8 (x:=(i:Int)+1) (by omega) (by omega);have p1:=fun b (f:Fr)=>Fr.ax (p:=2) (q:=kp) b (fun e=>hk e.symm) f
  have ih':=ih (i+1) (Fr.ins kp (.arr 1 ((fJ (fun x=>n-x) (i+1) orig).map aD) N false) F) N (by omega) (Nat.le_refl _) ((p1 _ _).trans h1) (fun _=>Fr.bc ..)
   (fun F' v' g1=>hQ F' v' fun k k1=>(g1 k k1).trans (Fr.ax _ k1 F))
  rw [eK h0]at h1;have h2':=h2 h0;have hml:(fJ (fun x=>n-x) i orig).length=N:=(by rw [kL,hN]);have hg:=kM (f:=fun x=>n-x) hil;have hbi:=hb _ (List.getElem_mem hil);rw [←kN hil]at ih';apply az;conv=>arg 4;whnf
  simp [hia,h1,h2',hml,hg,hbi,hw,hv,Fr.bc,Fr.cP,p1,aD];simpa [aD,List.map_set]using ih'
theorem A5 {N kp:Nat}{n:Int}(hk:kp≠2){orig:List br}(hN:orig.length=N)(hl:N≤1000000)(hb: ∀p∈orig,0≤p.cell→IntKind.i64.wrap (n-p.cell)=n-p.cell){c0 c1:GV}(Q:GX→bM→Prop):
  ∀(k i:Nat) (F:Fr) (v:Nat),i+k=N→v≤N→F.get 2=some (.box [c0,c1,gj (H.length,kp) 2 N])→(N≠0→F.get kp=some (.arr 2 ((fJ (uJ n) i orig).map br.row) v false))→
  (∀F' v',(∀k,k≠kp→F'.get k=F.get k)→v'≤N→(N≠0→F'.get kp=some (.arr 2 ((orig.map (uJ n)).map br.row) v' false))→
   Q (.exit 2) ⟨[(2, .aA (H.length,2) 0),(4, .aA (H.length,4) 0)],F'::H,55⟩)→
  gZ KC aw 40 (lp Tryz.f40 1) [1,2,4,6] [2,4] Q [(1, .pure (.int .i64 n)),(2, .aA (H.length,2) 0),(4, .aA (H.length,4) 0),(6, .pure (.int .i64 i))] (F::H) 55:=by
 intro k
 induction k with
 |zero=>
  intro i F v hi hv h1 h2 hQ;have hia:i=N:=(by omega);subst hia;rw [mW (by omega)]at h2;have hQ':=hQ F v (fun _ _=>rfl) hv h2;apply az;conv=>arg 4;whnf
  by_cases h0:i=0
  ·subst h0;rw [sQ]at h1;simp [h1];exact hQ'
  ·rw [eK h0]at h1;simp [h1];exact hQ'
 |succ k ih=>
  intro i F v hi hv h1 h2 hQ;have h0:N≠0:=(by omega);have hil:i<orig.length:=(by omega);have hia:i<N:=(by omega);have hw:=c8 (x:=(i:Int)+1) (by omega) (by omega);have p1:=fun b (f:Fr)=>Fr.ax (p:=2) (q:=kp) b (fun e=>hk e.symm) f;have hml:(fJ (uJ n) i orig).length=N:=(by rw [kL,hN]);have hg:=kM (f:=uJ n) hil;have h2':=h2 h0;by_cases hkd:0≤orig[i].cell
  ·have ih':=ih (i+1) (Fr.ins kp (.arr 2 ((fJ (uJ n) (i+1) orig).map br.row) N false) F) N (by omega) (Nat.le_refl _) ((p1 _ _).trans h1) (fun _=>Fr.bc ..)
    (fun F' v' g1=>hQ F' v' fun k k1=>(g1 k k1).trans (Fr.ax _ k1 F))
   rw [eK h0]at h1;have hbi:=hb _ (List.getElem_mem hil) hkd;rw [←kN hil]at ih';apply az;conv=>arg 4;whnf
   simp [hia,h1,h2',hml,hg,hbi,hw,hv,hkd,Fr.bc,Fr.cP,p1,br.row];simpa [br.row,uJ,hkd,List.map_set]using ih'
  ·have ih':=ih (i+1) F v (by omega) hv h1 (fun _=>by rw [vQ hil (by unfold uJ;rw [if_neg hkd])];exact h2') hQ;rw [eK h0]at h1;apply az;conv=>arg 4;whnf
   simp [hia,h1,h2',hml,hg,hw,hv,hkd,Fr.bc,Fr.cP,p1,br.row];simpa using ih'
theorem vR {s:ay}(h:Full s){n:Int}(hn:0≤n∧n≤1000)(hp: ∀x∈s.ae,0≤x∧x≤n)(ht: ∀t∈s.aa,t.cell≤n)(hH:0<H.length):
  aN KC (aF KC) 40 [.pure (.agg s.row), .pure (.int .i64 n)] c H=some (.pure (.agg (tS n s).row),H):=by
 refine aM (ba KC aw Tryz.func40 rfl rfl S5 rfl rfl rfl (by simp) hH ?_);have pl:=h.pl;have hl:=h.hl;have tl:=h.tl;obtain⟨F1,o1,p1,p2,p3,O⟩:=Ls (c:=8) (H:=H) (F:=[(2,c7 s),(4, .box [.aS, .aS, .aS])]) h (by simp [ak]) (by simp [ak]) (by simp [ak]);have f2:F1.get 2=some (c7 s):=(by rw [o1 2 (by decide) (by decide) (by decide)];rfl);have f4:F1.get 4=some (.box [.aS, .aS, .aS]):=(by rw [o1 4 (by decide) (by decide) (by decide)];rfl);have k12:ak 8 6≠ak 8 10:=(by decide);have k13:ak 8 6≠ak 8 14:=(by decide);have k23:ak 8 10≠ak 8 14:=(by decide);have k1:ak 8 6≠2∧ak 8 6≠4:=(by decide);have k2:ak 8 10≠2∧ak 8 10≠4:=(by decide);have k3:ak 8 14≠2∧ak 8 14≠4:=(by decide);generalize ak 8 6=ka at*;generalize ak 8 10=kb at*;generalize ak 8 14=kd at*;simp only [c7]at f2 O;unfold ay.row at O⊢;simp [O,f2,Fr.bc,Fr.cP];have hwr: ∀x:Int,0≤x∧x≤n→IntKind.i64.wrap (n-x)=n-x:=fun x hx=>c8 (by omega) (by omega);refine A4 k1.1 rfl pl (fun p hx=>hwr _ (hp p hx)) _ s.ae.length 0 _ 0 (by omega) (by omega) (Fr.bc ..) (fun h0=>by
  rw [Fr.ax _ k1.1,rK];exact p1) fun F2 v2 g2 hv2 e2=> ?_
 have hbx:F2.get 2=some (.box [gj (H.length,ka) 1 s.ae.length,gj (H.length,kb) 2 s.ao.length,gj (H.length,kd) 2 s.aa.length]):=by
  rw [g2 2 k1.1.symm];exact Fr.bc ..
 simp;refine A5 k3.1 rfl tl (fun t hx h0=>hwr _ ⟨h0,ht t hx⟩) _ s.aa.length 0 F2 0 (by omega) (by omega) hbx (fun h0=>by
  rw [g2 kd k13.symm,Fr.ax _ k3.1,rK];exact p3 (by simpa using h0)) fun F3 v3 g3 hv3 e3=> ?_
 have q1:=(g3 2 k3.1.symm).trans hbx;have q2:F3.get 4=some (.box [.aS, .aS, .aS]):=by
  rw [g3 4 k3.2.symm,g2 4 k1.2.symm,Fr.ax _ (by decide)];exact f4
 simp [q1,q2,Fr.bc,Fr.cP,aH];generalize hx:dB.box [gj (H.length,ka) 1 s.ae.length,gj (H.length,kb) 2 s.ao.length,gj (H.length,kd) 2 s.aa.length]=x;obtain⟨F,hF⟩: ∃F,Fr.ins 4 x F3=F:=⟨_,rfl⟩;have lt:H.length-1<H.length:=(by omega);have G: ∀k,k≠4→F.get k=F3.get k:=fun k hk=>by rw [←hF];exact Fr.ax _ hk _
 have w1:s.ae.length≠0→ ∃v,v≤s.ae.length∧F.get ka=some (.arr 1 ((s.ae.map (fun x=>n-x)).map aD) v false):=fun h0=>⟨v2,hv2,by
  rw [G ka k1.2,g3 ka k13];exact e2 h0⟩
 have w2:s.ao.length≠0→ ∃v,v≤s.ao.length∧F.get kb=some (.arr 2 (s.ao.map aI.row) v false):=fun h0=>⟨0,by omega,by
  rw [G kb k2.2,g3 kb k23,g2 kb k12.symm,Fr.ax _ k2.1];exact p2⟩
 have w3:s.aa.length≠0→ ∃v,v≤s.aa.length∧F.get kd=some (.arr 2 ((s.aa.map (uJ n)).map br.row) v false):=fun h0=>⟨v3,hv3,by
  rw [G kd k3.2];exact e3 h0⟩
 rw [hF,ah (by simp),fP,mG];have e:canon (cR ([gj (H.length,ka) 1 s.ae.length,gj (H.length,kb) 2 s.ao.length,gj (H.length,kd) 2 s.aa.length].map (cz (F::H) (H.length-1))))= .pure (.agg (tS n s).row):=by
  refine mU ?_;simp only [List.map_cons,List.map_nil,ja rfl lt (by simp) w1,ja rfl lt (by simp) w2,ja rfl lt (by simp) w3,sE];rfl
 have e':(PV.agg (tS n s).row)=PV.agg [.slice ((tS n s).ae.map aD), .slice ((tS n s).ao.map aI.row), .slice ((tS n s).aa.map br.row)]:=rfl;rw [e']at e;simp only [e]
end
section
variable {H:ai}
end
section
variable {c:Nat} {H:ai}
end
section
variable {c:Nat} {H:ai}
theorem ID (l:List Int)(x:Int)(hn:l.length≤1000000)(Q:GX→bM→Prop)(hH:0<H.length): ∀k i:Nat,i+k=l.length→
  ((l.drop i).contains x=false→Q (.exit 0) ⟨[(4,aO)],H,18⟩)→((l.drop i).contains x=true→Q .ret ⟨[(4, .pure (.bool true))],H,18⟩)→
  gZ KC aw 44 (lp Tryz.f44 0) [0,1,5] [4] Q [(0, .pure (.slice (l.map aD))),(1, .pure (.int .i64 x)),(5, .pure (.int .i64 i))] H 18:=by
 intro k
 induction k with
 |zero=>
  intro i hi h1 h2;have e:l.drop i=[]:=List.drop_of_length_le (by omega);rw [e]at h1;apply az;conv=>arg 4;whnf
  have: ¬i<l.length:=(by omega);simp [this,hH];exact h1 rfl
 |succ k ih=>
  intro i hi h1 h2;have hia:i<l.length:=(by omega);have hw:=c8 (x:=(i:Int)+1) (by omega) (by omega);have ed:l.drop i=l[i]::l.drop (i+1):=List.drop_eq_getElem_cons hia;rw [ed,List.contains_cons]at h1 h2;apply az;conv=>arg 4;whnf
  by_cases he:l[i]=x
  ·have e2:(x==l[i])=true:=(by simp [he]);rw [e2,Bool.true_or]at h2;simp [hia,hH,aD,he];exact h2 rfl
  ·have e1:(l[i]==x)=false:=(by simpa using he);have e2:(x==l[i])=false:=(by simpa using fun e=>he e.symm);rw [e2,Bool.false_or]at h1 h2;have ih':=ih (i+1) (by omega) h1 h2;simp [hia,hH,aD,e1,hw];simpa [aD]using ih'
theorem S6 (l:List Int)(x:Int)(hn:l.length≤1000000)(hH:0<H.length):aN KC (aF KC) 44 [.pure (.slice (l.map aD)), .pure (.int .i64 x)] c H=some (.pure (.bool (l.contains x)),H):=by
 refine eC rfl rfl rfl rfl rfl hH fun H hH=> ?_;refine aM (aK KC aw Tryz.func44 rfl rfl S7 (by simp) hH ?_);have L:=fun Q=>ID (H:=[]::H) l x hn Q (by simp) l.length 0 (by omega);simp only [List.drop_zero]at L;simp;refine L _ (fun h=> ?_) (fun h=> ?_)
 ·simp only [List.contains_eq_mem]at h;simp [ah];simpa using h
 ·simp only [List.contains_eq_mem]at h;simp [ah];simpa using h
def qu (C:List Int)(v:Nat):dB:= .arr 1 (C.map aD) v false
def jK (r:aC)(s:ay)(C:List Int)(v:Nat):Fr:=[(2,aX r),(3,c7 s),(39,qu C v)]
def CF (nt:Nat)(C:List Int)(v:Nat)(f:Nat→Nat):Prop:=C.length=nt∧v≤nt∧ ∀t,t<nt→C.getD t 0=(f t:Int)
theorem xT {r:aC} {s:ay} (hS:fB r s) (hh1:s.ao.length≤1000000) {nt:Nat} (hnt:r.aa.length=nt) (hn:nt≤1000000) (i:Nat) (hi:i<s.ao.length) (hd:Int) (hh:hd=0∨hd=1) (C:List Int) (v:Nat) (f:Nat→Nat) (hC:CF nt C v f) (hf: ∀t,f t≤1000000000) (Q:GX→bM→Prop)
  (ih: ∀C' v',CF nt C' v' (fun t=>f t+if aU s.ao i hd=t then 1 else 0)→
   gZ KC aw 39 (lp Tryz.f39 1) [2,3,5,6,7] [2,3,4,5,6] Q [(2, .aA (H.length,2) 0),(3, .aA (H.length,3) 0),(5, .bd (H.length,39) 1 nt 0 nt),(6, .pure (.int .i64 i)),(7, .pure (.int .i64 (hd+1)))] ([]::jK r s C' v'::H) 145):
  gZ KC aw 39 (lp Tryz.f39 1) [2,3,5,6,7] [2,3,4,5,6] Q [(2, .aA (H.length,2) 0),(3, .aA (H.length,3) 0),(5, .bd (H.length,39) 1 nt 0 nt),(6, .pure (.int .i64 i)),(7, .pure (.int .i64 hd))] ([]::jK r s C v::H) 145:=by
 obtain⟨c1,c2,c3⟩:=hC;have hiw:i<r.ae.length:=(by rw [←hS.hl];exact hi);have R:=gn hS.toFf (w:=i) (hand:=hd) hiw;have et:=hS.tl;obtain⟨x,hx⟩: ∃x,aU s.ao i hd=x:=⟨_,rfl⟩;rw [hx]at R ih;have hx':(if hd=0 then s.ao[i].l else s.ao[i].r)=x:=(by rw [←hx];unfold aU;rw [aW hi]);have hw1:=c8 (x:=hd+1) (by omega) (by omega);have n1: ¬x< -1:=(by omega);have n2: ¬(nt:Int)≤x:=(by omega);have ne: ¬H.length=H.length+1:=(by omega);by_cases h0:0≤x
 ·obtain⟨t,rfl⟩:=Int.eq_ofNat_of_zero_le h0;have ht:t<nt:=(by omega);have htC:t<C.length:=(by omega);have hv:=c3 t ht;rw [aW htC]at hv;have hft:=hf t;have hw2:=c8 (x:=(f t:Int)+1) (by omega) (by omega);have I:=ih (C.set t ((f t:Int)+1)) nt ⟨by simpa using c1,Nat.le_refl _,fun u hu=>by
   rw [tJ (by omega)];by_cases e:t=u
   ·subst e;simp
   ·have: ¬(t:Int)=u:=(by omega);simp [e,this];exact c3 u hu⟩
  apply az;conv=>arg 4;whnf
  rcases hh with rfl|rfl
  ·rw [if_pos rfl]at hx';simp [jK,qu,aX,c7,aD]at I;simp [jK,qu,aX,c7,hi,aI.row,hx',n1,n2,h0,ht,htC,c1,c2,hv,hw2,ne,aD,aH];exact I
  ·rw [if_neg (by decide)]at hx';have w11:IntKind.i64.wrap (1+1)=2:=rfl;simp [jK,qu,aX,c7,aD]at I;simp [jK,qu,aX,c7,hi,aI.row,hx',n1,n2,h0,ht,htC,c1,c2,hv,hw2,w11,ne,aD,aH];exact I
 ·have I:=ih C v ⟨c1,c2,fun t ht=>by
   have: ¬x=t:=(by omega);simp [this];exact c3 t ht⟩
  apply az;conv=>arg 4;whnf
  rcases hh with rfl|rfl
  ·rw [if_pos rfl]at hx';simp [jK,qu,aX,c7,aD]at I;simp [jK,qu,aX,c7,hi,aI.row,hx',n1,n2,h0,ne,aD];exact I
  ·rw [if_neg (by decide)]at hx';have w11:IntKind.i64.wrap (1+1)=2:=rfl;simp [jK,qu,aX,c7,aD]at I;simp [jK,qu,aX,c7,hi,aI.row,hx',n1,n2,h0,w11,ne,aD];exact I
end
section
variable {c:Nat} {H:ai}
theorem FG {l:List aI}{i:Nat}(h:i<l.length)(t:Int):fR (l.take (i+1)) t=fR (l.take i) t+((if (l.getD i bD).l=t then 1 else 0)+(if (l.getD i bD).r=t then 1 else 0)):=by
 induction l generalizing i with
 |nil=>simp at h
 |cons x l ih=>
  cases i with
  |zero=>simp [fR,ur]
  |succ i=>
   have:=ih (i:=i) (by simpa using h);simp only [List.take_succ_cons,fR,List.getD_cons_succ];omega
theorem Lt (l:List aI)(t:Int):fR l t≤2*l.length:=by
 induction l with
 |nil=>simp [fR]
 |cons x l ih=>
  simp only [fR,ur,List.length_cons];split<;>split<;>omega
theorem A6 {r:aC}{s:ay}(hS:fB r s)(hw0:1≤r.wide*r.deep)(hw:r.wide*r.deep≤1000000)(hpl:r.ae.length≤1000000){nt:Nat}(hnt:r.aa.length=nt)(hn:nt≤1000000)(Q:GX→bM→Prop): ∀(k i:Nat) (C:List Int) (v:Nat),i+k=s.ae.length→CF nt C v (fun t=>fR (s.ao.take i) t)→
  (∀C' v',CF nt C' v' (fun t=>fR s.ao t)→Q (.exit 0) ⟨[(2, .aA (H.length,2) 0),(3, .aA (H.length,3) 0),(4,aO),(5, .bd (H.length,39) 1 nt 0 nt)],jK r s C' v'::H,145⟩)→
  gZ KC aw 39 (lp Tryz.f39 0) [2,3,5,6] [2,3,4,5] Q [(2, .aA (H.length,2) 0),(3, .aA (H.length,3) 0),(5, .bd (H.length,39) 1 nt 0 nt),(6, .pure (.int .i64 i))] (jK r s C v::H) 145:=by
 have ep:=hS.pl;have eh:=hS.hl;intro k
 induction k with
 |zero=>
  intro i C v hi hC h1;have e:s.ao.take i=s.ao:=List.take_of_length_le (by omega);rw [e]at hC;apply az;conv=>arg 4;whnf
  have: ¬i<s.ae.length:=(by omega);simp [this,jK,c7,aX];simpa [jK,c7,aX]using h1 C v hC
 |succ k ih=>
  intro i C v hi hC h1;have hia:i<s.ae.length:=(by omega);have hih:i<s.ao.length:=(by omega);have hw1:=c8 (x:=(i:Int)+1) (by omega) (by omega);have pr:=hS.pr _ (List.getElem_mem hia);have hwd:=c8 (x:=r.wide*r.deep) (by omega) (by omega);have n1: ¬s.ae[i]<0:=(by omega);have n2: ¬r.wide*r.deep≤s.ae[i]:=(by omega);have hnh:(s.ae.take i).contains s.ae[i]=false:=by
   rw [←Bool.not_eq_true,List.contains_iff_mem];intro hm;obtain⟨j,hj,e⟩:=List.mem_take_iff_getElem.1 hm;have hji:j<i:=(by omega);have:=List.pairwise_iff_getElem.1 hS.pn j i (by omega) hia hji;exact this e
  have HS:=fun c (H:ai) (hH:0<H.length)=>S6 (c:=c) (H:=H) (s.ae.take i) s.ae[i] (by simp;omega) hH;rw [hnh]at HS;have hile:i≤s.ae.length:=(by omega);have hmin:min i s.ae.length=i:=(by omega);have hrl: ∀x:Int,(aD x).length=1:=fun _=>rfl;have hcl:=fun t=>Lt (s.ao.take i) t;have htl:(s.ao.take i).length≤1000000:=(by simp;omega);apply az;conv=>arg 4;whnf
  simp only [List.map_take]at HS;simp [jK,c7,aX,hia,hile,hmin,HS,aD,n1,n2,hwd];have S1:=fun Q C v hC hf ih=>xT (H:=H) hS (by omega) hnt hn i hih 0 (.inl rfl) C v (fun t=>fR (s.ao.take i) t) hC hf Q ih;simp [jK,c7,aX]at S1;refine S1 _ C v hC (fun t=>by have:=hcl t;omega) (fun C1 v1 hC1=> ?_);clear S1;have S2:=fun Q C v hC hf ih=>xT (H:=H) hS (by omega) hnt hn i hih 1 (.inr rfl) C v (fun t=>fR (s.ao.take i) t+if aU s.ao i 0=t then 1 else 0) hC hf Q ih;simp [jK,c7,aX]at S2;refine S2 _ C1 v1 hC1 (fun t=>by have:=hcl t;split<;>omega) (fun C2 v2 hC2=> ?_)
  clear S2;have hC2':CF nt C2 v2 (fun t=>fR (s.ao.take (i+1)) t):=by
   obtain⟨a,b,d⟩:=hC2;refine⟨a,b,fun t ht=> ?_⟩;have dt:=d t ht;dsimp only at dt⊢;rw [dt,FG hih];unfold aU;simp;omega
  have ih':=ih (i+1) C2 v2 (by omega) hC2' h1;apply az;conv=>arg 4;whnf
  simp [jK,c7,aX]at ih';simp [hw1];exact ih'
theorem CW {r:aC}{s:ay}(hS:fB r s)(hw0:1≤r.wide*r.deep)(hw:r.wide*r.deep≤1000000){nt:Nat}(hnt:r.aa.length=nt)(hn:nt≤1000000)(C:List Int)(v:Nat)(hC:CF nt C v (fun t=>fR s.ao t))(Q:GX→bM→Prop): ∀k i:Nat,i+k=nt→
  Q (.exit 4) ⟨[(4,aO)],jK r s C v::H,145⟩→
  gZ KC aw 39 (lp Tryz.f39 2) [2,3,5,9] [4] Q [(2, .aA (H.length,2) 0),(3, .aA (H.length,3) 0),(5, .bd (H.length,39) 1 nt 0 nt),(9, .pure (.int .i64 i))] (jK r s C v::H) 145:=by
 obtain⟨c1,c2,c3⟩:=hC;have et:=hS.tl;intro k
 induction k with
 |zero=>
  intro i hi h1;apply az;conv=>arg 4;whnf
  have: ¬i<nt:=(by omega);simp [this,jK,c7,aX,qu];simpa [jK,c7,aX,qu]using h1
 |succ k ih=>
  intro i hi h1;have hia:i<nt:=(by omega);have hiC:i<C.length:=(by omega);have his:i<s.aa.length:=(by omega);have hw1:=c8 (x:=(i:Int)+1) (by omega) (by omega);have hwd:=c8 (x:=r.wide*r.deep) (by omega) (by omega);have hv:=c3 i hia;rw [aW hiC]at hv;dsimp only at hv;have th:=hS.th i his;rw [aW his]at th;have ih':=ih (i+1) (by omega) h1;simp [jK,c7,aX,qu]at ih';have ne: ¬H.length=H.length+1:=(by omega);apply az;conv=>arg 4;whnf
  rcases th with ⟨a,b⟩|⟨a,b1,b2⟩
  ·rw [a]at hv;have n3: ¬r.wide*r.deep≤ -1:=(by omega);simp [jK,c7,aX,qu,hia,hiC,his,aD,br.row,hv,b,c1,c2,hwd,hw1,n3,ne];exact ih'
  ·rw [a]at hv;have n1: ¬s.aa[i].cell= -1:=(by omega);have n1':(s.aa[i].cell== -1)=false:=(by simpa using n1);have n2: ¬s.aa[i].cell< -1:=(by omega);have n3: ¬r.wide*r.deep≤s.aa[i].cell:=(by omega);simp [jK,c7,aX,qu,hia,hiC,his,aD,br.row,hv,n1,n1',n2,n3,c1,c2,hwd,hw1,ne];exact ih'
theorem FH {r:aC}{s:ay}(hS:fB r s)(hw0:1≤r.wide*r.deep)(hw:r.wide*r.deep≤1000000)(hpl:r.ae.length≤1000000)(htl:r.aa.length≤1000000)(hH:0<H.length):
  bJ KC (aF KC) 39 [.pure (.agg r.row), .pure (.agg s.row)] c H=some (.pure (.bool true),H):=by
 refine aM (aK KC aw Tryz.func39 rfl rfl S8 (by simp) hH ?_);have ep:=hS.pl;have eh:=hS.hl;have et:=hS.tl;have e1:((s.ae.length:Int)==r.ae.length)=true:=(by simp [ep]);have L1:=fun Q=>A6 (H:=H) hS hw0 hw hpl rfl htl Q s.ae.length 0 (List.replicate r.aa.length 0) 0 (by omega) ⟨by simp,Nat.zero_le _,fun t ht=>by simp [fR,ht]⟩;simp [jK,qu,aX,c7,aD]at L1;have hb:(r.aa.length:Int)*8≤1099511627776:=(by omega);rw [gK];unfold ay.row;simp [ep,eh,et,hb];refine L1 _ (fun C' v' hC=> ?_);clear L1;simp;have L2:=fun Q=>CW (H:=H) hS hw0 hw rfl htl C' v' hC Q r.aa.length 0 (by omega);simp [jK,aX,c7]at L2;refine L2 _ ?_;simp [ah]
theorem IE {g1 g2:GV}{r:aC}{s:ay}(hS:fB r s)(hw0:1≤r.wide*r.deep)(hw:r.wide*r.deep≤1000000)(hpl:r.ae.length≤1000000)(htl:r.aa.length≤1000000)(h1:oP H g1 (.agg r.row))(h2:oP H g2 (.agg s.row))(hH:0<H.length):
  aN KC (aF KC) 39 [g1,g2] c H=some (.pure (.bool true),H):=
 fO KC rfl rfl (IG h1 h2) rfl hH (fun H hH=>FH (c:=c) hS hw0 hw hpl htl hH) rfl
end
section
variable {c:Nat} {H:ai}
theorem CX {r:aC}{n:Int}(sh:gA r)(hc:cn r=0)(hn:n=r.wide*r.deep-1)(act kind:Int):
  ∃(x y:List au) (e:Int),Au r act kind= .tuple [.slice (x.map au.row), .int .i64 e]∧Au (tR n r) act kind= .tuple [.slice (y.map au.row), .int .i64 e]∧x.length=y.length:=by
 have T:=AY hc;rw [←hn]at T;unfold Au;rw [IB hc hn];by_cases h:E9 r act kind≠0
 ·rw [if_pos h,if_pos h];exact⟨[],[],_,rfl,rfl,rfl⟩
 ·rw [if_neg h,if_neg h];obtain⟨k,rfl,L⟩:=rr sh (by simpa using h);have q:=vP T L;rw [Int.toNat_natCast]
  cases h1:j8 r k kind with
  |none=>
   rw [h1]at q
   cases h2:j8 (tR n r) k kind with
   |none=>exact⟨[],[],7,rfl,rfl,rfl⟩
   |some y=>rw [h2]at q;cases q
  |some x=>
   rw [h1]at q
   cases h2:j8 (tR n r) k kind with
   |none=>rw [h2]at q;cases q
   |some y=>
    rw [h2]at q;exact⟨x,y,0,rfl,rfl,(Option.some.inj q).symm⟩
theorem CY {r:aC}{n:Int}(sh:gA r)(hc:cn r=0)(ho:mg r=0)(hn:n=r.wide*r.deep-1):
  ∃x y:Int,vn r= .tuple [.int .i64 x, .int .i64 y, .int .i64 0]∧vn (tR n r)= .tuple [.int .i64 x, .int .i64 y, .int .i64 0]:=by
 unfold vn;rw [xQ hc hn,CQ hc hn sh ho,if_neg (by simpa using ho)]
 cases oM r r.aj.length 0 with
 |none=>exact⟨_,_,rfl,rfl⟩
 |some p=>exact⟨_,_,rfl,rfl⟩
theorem FJ {r:aC}{n:Int}(hc:cn r=0)(ho:(di r).2.2.2=0)(hn:n=r.wide*r.deep-1):
  HT r= .tuple [.slice ((di r).1.map ay.row), .int .i64 0]∧HT (tR n r)= .tuple [.slice (((di r).1.map (tS n)).map ay.row), .int .i64 0]:=by
 obtain⟨C,A⟩:=jh hc;have T:=AY hc;rw [←hn]at T;have e:=xP T C A;have ho':(di (tR n r)).2.2.2=0:=(by rw [e];exact ho);unfold HT;rw [if_pos hc,if_pos (tI hc hn),if_pos ho,if_pos ho',e];exact⟨rfl,rfl⟩
theorem IH {r:aC}(hc:cn r=0): ∀s∈(di r).1,fB r s:=fun s hs=>by
 obtain⟨C,A⟩:=jh hc;have hS:=lg C;unfold di at hs;simp only at hs;rcases List.mem_cons.1 hs with rfl|hs
 ·exact hS
 ·exact(iL _ _ _ 0 hS A.ab).2 s hs
theorem fB.cells {r:aC}{s:ay}(h:fB r s)(hw:1≤r.wide*r.deep): ∀t∈s.aa,t.cell≤r.wide*r.deep-1:=fun t ht=>by
 obtain⟨j,hj,rfl⟩:=List.getElem_of_mem ht;have:=h.th j hj;rw [aW hj]at this;omega
theorem A7 {r:aC}{n:Int}{wd:Int}(sh:gA r)(hw0:1≤r.wide*r.deep)(hw:r.wide*r.deep≤1000)(hn:n=r.wide*r.deep-1){l:List ay}(hl:l.length≤1000000)(hS: ∀x∈l,fB r x∧Full x)(Q:GX→bM→Prop): ∀k i:Nat,i+k=l.length→
  Q (.exit 0) ⟨[(2,aO),(3, .aA (1,24601) 0),(4, .aA (1,4) 0),(5, .aA (1,5) 0)],[[(4,aX r),(5,aX (tR n r)),(24601,bw wd)],[]],150⟩→
  gZ KC aw 6 (lp Tryz.f6 0) [3,4,5,6,8,10] [2,3,4,5] Q
   [(3, .aA (1,24601) 0),(4, .aA (1,4) 0),(5, .aA (1,5) 0),(6, .pure (.slice (l.map ay.row))),(8, .pure (.slice ((l.map (tS n)).map ay.row))),(10, .pure (.int .i64 i))] [[(4,aX r),(5,aX (tR n r)),(24601,bw wd)],[]] 150:=by
 intro k
 induction k with
 |zero=>
  intro i hi h1;have hnl: ¬i<l.length:=(by omega);apply az;conv=>arg 4;whnf
  simp [hnl];exact h1
 |succ k ih=>
  intro i hi h1;have hia:i<l.length:=(by omega);have hw1:=c8 (x:=(i:Int)+1) (by omega) (by omega);have hw2:=c8 (x:=r.wide*r.deep) (by omega) (by omega);have hw3:IntKind.i64.wrap (r.wide*r.deep-1)=n:=(by rw [hn];exact c8 (by omega) (by omega));have ih':=ih (i+1) (by omega) h1;obtain⟨hs,hf⟩:=hS _ (List.getElem_mem hia);have S:=fun(c:Nat) (H:ai) (hH:0<H.length)=>IE (c:=c) (H:=H) (g1:= .pure (.agg r.row)) (g2:= .pure (.agg l[i].row)) hs hw0 (by omega) sh.p sh.t rfl rfl hH;have U:=fun(c:Nat) (H:ai) (hH:0<H.length)=>vR (c:=c) (H:=H) hf (n:=n) (by omega) (fun x hx=>by have:=hs.pr x hx;omega) (fun t ht=>by have:=hs.cells hw0 t ht;omega) hH;have hsT:CZ (tS n l[i]):=⟨by simpa [tS]using hf.pl,hf.hl,by simpa [tS]using hf.tl⟩;have E:=fun(c:Nat) (H:ai) (hH:0<H.length)=>A8 (c:=c) (H:=H) (g1:= .pure (.agg (tS n l[i]).row)) (g2:= .pure (.agg (tS n l[i]).row)) _ hsT rfl rfl hH;simp only [aX]at ih'⊢;rw [gK]at S;unfold ay.row at S U E;apply az;conv=>arg 4;whnf
  simp [hia,S,U,E,hw1,hw2,hw3,ay.row];simpa [ay.row]using ih'
end
theorem acf (nums:List Int)(hnums:nums.length≤9223372036854775807):
  ∃H',aN KC (aF KC) 6 [.pure (.slice (nums.map aD))] 0 [[]]=some (.pure (.bool true),H'):=by
 suffices hs:mE (aN KC (aF KC) 6 [.pure (.slice (nums.map aD))] 0 [[]]) (fun x=>x.1= .pure (.bool true))by
  obtain⟨⟨v,H'⟩,h1,rfl⟩:=hs;exact⟨H',h1⟩
 refine ba KC aw Tryz.func6 rfl rfl Zf rfl rfl rfl (by simp) (by simp) ?_;obtain⟨w,eB⟩:=II (c:=24) (H:=[[],[]]) nums hnums (by simp) (by simp [ak]);have k24:ak 24 6=24601:=(by decide);simp only [List.length_cons,List.length_nil,Nat.zero_add,Nat.add_sub_cancel,k24]at eB;have hfin: ∀w,ai.set [[],[]] (1,24601) (bw w)=[[(24601,bw w)],[]]:=fun w=>(by simp);rw [hfin]at eB;have hBx: ∀w,fI [[(24601,bw w)],[]] (1,24601):=fun w=>⟨w,by simp,by simp⟩;obtain⟨r0,aj,s,wd,hRB,eR⟩:=FK (c:=27) (hBx w) (sd:=2) (N:=4) (by omega) (by omega) (by omega);have hset: ∀w x,ai.set [[(24601,bw w)],[]] (1,24601) (bw x)=[[(24601,bw x)],[]]:=fun w x=>(by simp);rw [hset]at eR;change aN KC (aF KC) 11 [.aA (1,24601) 0, .pure (.int .i64 2), .pure (.int .i64 4)] 27 _=_ at eR;have hck:cn (fX r0 aj s)=0:=Cn hRB (by omega);obtain⟨gs,e1,hT,hP,hs1,hacc⟩:=HR hRB;have hok:(di (fX r0 aj s)).2.2.2=0:=(by rw [hacc]);obtain⟨m,hm⟩: ∃m,fX r0 aj s=m:=⟨_,rfl⟩;have lnb:m.ae.length≤3∧m.aa.length≤4∧m.a7.length≤3∧m.aj.length≤14∧m.seen=[]∧m.ae≠[]∧1≤m.wide∧m.wide≤3∧1≤m.deep∧m.deep≤3:=by
  rw [←hm];refine⟨hRB.room.p3, ?_,hRB.room.ll,hRB.len,hRB.room.seen,hRB.room.p0,hRB.room.w1,hRB.room.w3,hRB.room.d1,hRB.room.d3⟩;show (kA _ _ _).length≤4;rw [mJ];exact hRB.room.t4
 rw [hm]at eR hck hok;obtain⟨l1,l2,l3,l4,l5,l6,l7,l8,l9,l10⟩:=lnb;have mS:gA m:=⟨by omega,by omega,by rw [l5];simp,by omega,by omega⟩;have hwd:1≤m.wide*m.deep∧m.wide*m.deep≤9:=by
  constructor
  ·have:=Int.mul_le_mul l7 l9 (by omega) (by omega);omega
  ·have:=Int.mul_le_mul l8 l10 (by omega) (by omega);omega
 obtain⟨n,hn⟩: ∃n:Nat,m.wide*m.deep=n:=⟨(m.wide*m.deep).toNat,by omega⟩;have hBx2:fI [[(24601,bw wd)],[]] (1,24601):=hBx wd;obtain⟨sn,wd2,s1,s2,s3,eW⟩:=CM (c:=28) hBx2 mS (n:=n) (by rw [hn];exact c8 (by omega) (by omega)) (by omega);rw [hset]at eW;have ck:cn ({m with seen:=sn}:aC)=0:=AZ hck s2 (fun x hx=>by rw [hn];exact s3 x hx);have ok:(di ({m with seen:=sn}:aC)).2.2.2=0:=(by rw [FF];exact hok);obtain⟨wt,hwt⟩: ∃wt:aC,({m with seen:=sn}:aC)=wt:=⟨_,rfl⟩;have wS:gA wt:=by rw [←hwt];exact⟨mS.p,mS.t,by show sn.length≤_;omega,mS.l,mS.a⟩
 have wA:wt.aj.length≤14:=(by rw [←hwt];exact l4);have wW:wt.wide*wt.deep=n:=(by rw [←hwt];exact hn);have wP:wt.ae≠[]:=(by rw [←hwt];exact l6);have wSn: ∀x∈wt.seen,0≤x∧x<(n:Int):=(by rw [←hwt];exact s3);rw [hwt]at eW ck ok;have hRE:mg wt=0:=(by rw [mN,if_pos ck];exact ok);obtain⟨t,ht⟩: ∃t:Int,t=wt.wide*wt.deep-1:=⟨_,rfl⟩;obtain⟨C,A⟩:=jh ck;have T:=AY ck;have B:TB wt t:=⟨by omega,fun p hp=>by have:=C.pc p hp;omega,fun x hx=>by have:=(C.tc x hx).1;have:=T.hm x hx;omega,fun x hx=>by have:=wSn x hx;omega,fun a ha hk=>by have:=(A.ab a ha).step hk;omega⟩;have R:=xc (c:=30) (H:=[[(4,aX wt),(24601,bw wd2)],[]]) wS (n:=t) (by rw [wW,c8 (x:=(n:Int)) (by omega) (by omega),c8 (by omega) (by omega)];omega) B (by simp);have tS':gA (tR t wt):=IA wS;obtain⟨c1,c2⟩:=FJ ck ok ht;have hF0:Full (aL wt):=⟨by simpa [aL]using wP,by simpa [aL]using wP,by simp [aL];exact wS.p,by simp [aL];exact wS.p,by simp [aL];exact wS.t⟩;have hall: ∀x∈(di wt).1,fB wt x∧Full x:=fun x hx=>by
  have hx2:=IH ck x hx;exact⟨hx2,uH (lg C) hx2 hF0⟩
 have hll:(di wt).1.length≤1000000:=by
  unfold di;simp only [List.length_cons];have:=Ar (r:=wt) wt.aj.length (aL wt) wt.aj 0;omega
 generalize (di wt).1=l at c1 c2 hall hll;have S1:=fun(c:Nat) (H:ai) (hH:0<H.length)=>(lh (f:=17) (c:=c) (H:=H) rfl rfl rfl [.agg wt.row]).trans (tB (c:=c) wS hH);have S2:=fun(c:Nat) (H:ai) (hH:0<H.length)=>(lh (f:=17) (c:=c) (H:=H) rfl rfl rfl [.agg (tR t wt).row]).trans (tB (c:=c) tS' hH);rw [c1]at S1;rw [c2]at S2;have L:=fun Q hQ=>A7 (wd:=wd2) wS (by omega) (by omega) ht hll hall Q l.length 0 (by omega) hQ;have hBx3: ∀x,fI [[(4,aX wt),(5,aX (tR t wt)),(24601,bw x)],[]] (1,24601):=fun x=>⟨x,by simp,by simp⟩;have hw3: ∀x,bE [[(4,aX wt),(5,aX (tR t wt)),(24601,bw x)],[]] (1,24601)=x:=fun x=>(by simp [bE,bw]);have hset3: ∀w x,ai.set [[(4,aX wt),(5,aX (tR t wt)),(24601,bw w)],[]] (1,24601) (bw x)=[[(4,aX wt),(5,aX (tR t wt)),(24601,bw x)],[]]:=fun w x=>(by simp);have U:=fun c x=>kx (c:=c) (n:=(wt.aj.length:Int)) (hBx3 x) (by omega);have Y:=fun c x=>sM (c:=c) (lo:=1) (hi:=3) (hBx3 x);simp only [hw3,hset3]at U Y;have M:=fun(act kind:Int)=>CX wS ck ht act kind;obtain⟨fx,fy,d1,d2⟩:=CY wS ck hRE ht;have F1:=fun(c:Nat) (H:ai) (hH:0<H.length)=>fO KC (f:=36) (c:=c) (H:=H) (rec:=aF KC) (args:=[.pure (.agg wt.row)]) rfl rfl rfl rfl hH (fun H hH=>AR (c:=c) (H:=H) wS (fun _=>by omega) hH) (vM wt);have F2:=fun(c:Nat) (H:ai) (hH:0<H.length)=>fO KC (f:=36) (c:=c) (H:=H) (rec:=aF KC) (args:=[.pure (.agg (tR t wt).row)]) rfl rfl rfl rfl hH (fun H hH=>AR (c:=c) (H:=H) tS' (fun _=>by show (wt.aj.map _).length≤20;simp;omega) hH) (vM (tR t wt))
 rw [d1]at F1;rw [d2]at F2;have M1:=fun(act kind:Int) (c:Nat) (H:ai) (hH:0<H.length)=>(lh (f:=34) (c:=c) (H:=H) rfl rfl rfl [.agg wt.row, .int .i64 act, .int .i64 kind]).trans (AQ (c:=c) (H:=H) wS (fun _=>by omega) act kind hH);have M2:=fun(act kind:Int) (c:Nat) (H:ai) (hH:0<H.length)=>(lh (f:=34) (c:=c) (H:=H) rfl rfl rfl [.agg (tR t wt).row, .int .i64 act, .int .i64 kind]).trans (AQ (c:=c) (H:=H) tS' (fun _=>by show (wt.aj.map _).length≤20;simp;omega) act kind hH)
 obtain⟨u,w3,hu⟩: ∃u w3,lj wd2 (wt.aj.length:Int)=(u,w3):=⟨_,_,rfl⟩;obtain⟨v,w4,hv⟩: ∃v w4,uv w3 1 3=(v,w4):=⟨_,_,rfl⟩;obtain⟨mx,my,me,m1,m2,m3⟩:=M u v;have M1:=M1 u v;have M2:=M2 u v;rw [m1]at M1;rw [m2]at M2;have U:=fun c=>U c wd2;have Y:=fun c=>Y c w3;simp only [hu]at U;simp only [hv]at Y;obtain⟨l',hl'⟩: ∃l',l.map (tS t)=l':=⟨_,rfl⟩;have hlen:l'.length=l.length:=(by rw [←hl',List.length_map]);rw [hl']at S2 L;simp only [aX]at R L U Y;simp only [gK]at eR eW R S1 S2 F1 F2 M1 M2;simp only [List.map_cons,List.map_nil]at S1 S2 M1 M2;simp [eB,eR,eW,R,S1,S2,hlen];refine L _ ?_;simp [U,Y,M1,M2,F1,F2,m3,IJ,ah]
end Go.Gh
