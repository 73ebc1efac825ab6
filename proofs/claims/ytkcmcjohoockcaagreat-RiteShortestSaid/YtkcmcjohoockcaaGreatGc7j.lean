/- Texts joined: the evaluator over ghost values, its soundness, the walks. Spaces struck and names made short by a program, for the size. -/
import Derived.Test.YtkcmcjohoockcaaGreatGc7i
import Derived.Test.YtkcmcjohoockcaaGreatGc7h
namespace Go.Gh
open Go.Proofs
set_option linter.unusedVariables false
set_option linter.unusedSimpArgs false
set_option linter.unnecessarySimpa false
set_option maxRecDepth 100000
set_option maxHeartbeats 8000000
noncomputable def m6:aA→aw→Nat→ak→Bool:=nL fun r s w a=>bV r s w a && !gv r.seen [s.ah.getD w 0,if a.kind=1 then a.cell else s.ah.getD w 0]
theorem rK (r:aA)(s:aw)(w:Nat)(a:ak):m6 r s w a=(bV r s w a && !gv r.seen [s.ah.getD w 0,if a.kind=1 then a.cell else s.ah.getD w 0]):=by rw [m6,cN]
noncomputable def uC (r:aA)(w:Nat)(all:List ak)(fin:aw→List ak→Bool):Nat→aw→List ak→Option (List ak)
 |0,s,l=>if fin s l=true then some l else none
 |n+1,s,l=>all.findSome? fun a=>if m6 r s w a=true then uC r w all fin n (cR s w a) (l++[a])else none
theorem uG {r:aA}{w:Nat}{all:List ak}{fin:aw→List ak→Bool}: ∀n s l m,uC r w all fin n s l=some m→m.length=l.length+n∧(∃t,m=l++t∧ ∀a∈t,a∈all)
 |0,s,l,m,h=>by
  unfold uC at h;split at h
  ·cases h;exact⟨rfl,[],by simp,by simp⟩
  ·cases h
 |n+1,s,l,m,h=>by
  unfold uC at h;obtain⟨a,ha,h⟩:=List.exists_of_findSome?_eq_some h;split at h
  ·obtain⟨e,t,e2,ht⟩:=uG n _ _ m h;refine⟨by rw [e,List.length_append,List.length_singleton];omega,a::t,by rw [e2];simp,fun b hb=> ?_⟩;rcases List.mem_cons.1 hb with rfl|hb
   ·exact ha
   ·exact ht b hb
  ·cases h
theorem zl {s:aw}{w:Nat}{a:ak}{t:Int}:gd s w (setAt a t)=gd s w a:=rfl
theorem A7 {r:aA}{f:ak→ak}(h: ∀a,∃t,f a=setAt a t){s:aw}: ∀(g:List ak) (tk:List (Int×Int)) (nx:aw) (i:Nat),cJ r s (g.map f) tk nx i=cJ r s g tk nx i
 | [],_,_,_=>rfl
 |a::g,tk,nx,i=>by
  obtain⟨t,e⟩:=h a;have ew:(setAt a t).aN=a.aN:=rfl;rw [List.map_cons,e];unfold cJ;rw [ew,jD,zl,sN,A7 h g]
theorem vF {r:aA}{f:ak→ak}(h: ∀a,∃t,f a=setAt a t)(h2: ∀a b,(f a).a7=(f b).a7↔a.a7=b.a7): ∀(k:Nat) (s:aw) (ai:List ak) (i:Nat),bw r k s (ai.map f) i=bw r k s ai i
 |0,s,ai,i=>by
  cases ai<;>rfl
 |_+1,s,[],i=>rfl
 |k+1,s,a::rest,i=>by
  have e:(aY (f a) ∘ f)=aY a:=by
   funext b
   have:=h2 b a;unfold aY;by_cases hb:b.a7=a.a7
   ·simp [hb,this.2 hb]
   ·have h3: ¬(f b).a7=(f a).a7:=fun e=>hb (this.1 e);show ((f b).a7==(f a).a7)=(b.a7==a.a7)
    rw [show ((f b).a7==(f a).a7)=false from by simpa using h3,show (b.a7==a.a7)=false from by simpa using hb]
  have et:((a::rest).map f).takeWhile (aY (f a))=((a::rest).takeWhile (aY a)).map f:=by
   rw [List.takeWhile_map,e]
  rw [List.map_cons,eA,eA,←List.map_cons,et,A7 h,List.length_map,←List.map_drop,vF h h2 k]
theorem x7 {r:aA}{x:List ak}{s:aw}: ∀(g:List ak) (tk:List (Int×Int)) (nx:aw) (i:Nat),cJ {r with ai:=x} s g tk nx i=cJ r s g tk nx i
 | [],_,_,_=>rfl
 |a::g,tk,nx,i=>by
  unfold cJ;rw [sy,x7 g]
theorem mF {r:aA}{x:List ak}: ∀(k:Nat) (s:aw) (ai:List ak) (i:Nat),bw {r with ai:=x} k s ai i=bw r k s ai i
 |0,s,ai,i=>by
  cases ai<;>rfl
 |_+1,s,[],i=>rfl
 |k+1,s,a::rest,i=>by
  rw [eA,eA,x7,mF k]
theorem vu {r:aA}{s:aw}{a:ak}(hp:bV r s a.aN.toNat a=true):cJ r s [a] [] s 0=(cR s a.aN.toNat a,0,0):=by
 unfold cJ;rw [if_neg (by simp [hp]),if_pos (by simp)];rfl
theorem AM {r:aA}{s:aw}{a:ak}{k i:Nat}(hp:bV r s a.aN.toNat a=true):bw r (k+1) s [a] i=([cR s a.aN.toNat a],cR s a.aN.toNat a,-1,0):=by
 rw [Cj (by simp) (by simp) (by rw [vu hp]),vu hp]
theorem jK {f:ak→Bool}: ∀{l:List ak} {x:ak},x∈l.takeWhile f→f x=true∧x∈l
 | [],_,h=>by simp at h
 |a::l,x,h=>by
  rw [List.takeWhile_cons]at h;split at h
  ·rename_i ha;rcases List.mem_cons.1 h with rfl|h
   ·exact⟨ha,by simp⟩
   ·exact⟨(jK h).1,by simp [(jK h).2]⟩
  ·cases h
theorem pC {m:Int}{l:List ak}{x:ak}(h:x∈cA m l):x.a7≤m:=by simpa using(jK h).1
theorem mE {m:Int}: ∀{l:List ak} (hp:l.Pairwise fun a b=>a.a7≤b.a7) {x:ak},x∈behind m l→m<x.a7
 | [],_,x,h=>by simp [behind]at h
 |a::l,hp,x,h=>by
  unfold behind at h;rw [List.dropWhile_cons]at h;split at h
  ·exact mE (List.pairwise_cons.1 hp).2 h
  ·rename_i ha;have ha': ¬a.a7≤m:=(by simpa using ha);rcases List.mem_cons.1 h with rfl|h
   ·omega
   ·have:=(List.pairwise_cons.1 hp).1 x h;omega
theorem fN: ∀{l:List ak} {m:Int} {x:ak},x∈bI m l→m<x.a7∧x.a7≤m+l.length
 | [],_,_,h=>by simp [bI]at h
 |a::l,m,x,h=>by
  unfold bI at h;rcases List.mem_cons.1 h with rfl|h
  ·simp only [List.length_cons];omega
  ·have:=fN h;simp only [List.length_cons];omega
theorem xK: ∀{l:List ak} {m:Int} {x:ak},x∈bI m l→ ∃a∈l,∃t,x=setAt a t
 | [],_,_,h=>by simp [bI]at h
 |a::l,m,x,h=>by
  unfold bI at h;rcases List.mem_cons.1 h with rfl|h
  ·exact⟨a,by simp,_,rfl⟩
  ·obtain⟨b,hb,t,e⟩:=xK h;exact⟨b,by simp [hb],t,e⟩
theorem lK (a:ak): ∀(l:List ak) (m:Int),bI m (l++[a])=bI m l++[setAt a (m+1+l.length)]
 | [],m=>by simp [bI,setAt]
 |b::l,m=>by
  have:=lK a l (m+1);simp only [List.cons_append,bI,this,List.length_cons];rw [show m+1+1+(l.length:Int)=m+1+((l.length+1:Nat):Int)by omega]
theorem gY: ∀(l:List ak) (m:Int),(bI m l).length=l.length
 | [],m=>rfl
 |b::l,m=>by simp [bI,gY l]
structure MS (r:aA)(w:Nat)(U:List ak)(m:Int)(s:aw)(l:List ak):Prop where
 snd:fR r s
 full:Full s
 ab: ∀a∈l,AB r w a
 run:(bw r (U++bI m l).length (aF r) (U++bI m l) 0).2.2.2=0
 fin:(bw r (U++bI m l).length (aF r) (U++bI m l) 0).2.1=s
theorem MS.next {r:aA}{w:Nat}{U:List ak}{m:Int}{s:aw}{l:List ak}{a:ak}(h:MS r w U m s l)(hU: ∀x∈U,x.a7≤m)(ha:AB r w a)(hp:bV r s w a=true):MS r w U m (cR s w a) (l++[a]):=by
 have hS:=h.snd.Q1 ha hp;have ew:(setAt a (m+1+l.length)).aN.toNat=w:=by show a.aN.toNat=w;rw [ha.aN];rfl
 have E:bw r (U++bI m (l++[a])).length (aF r) (U++bI m (l++[a])) 0=
   ((bw r (U++bI m l).length (aF r) (U++bI m l) 0).1++[cR s w a],cR s w a,-1,0):=by
  rw [lK,←List.append_assoc];rw [fU (U++bI m l).length _ 1 (aF r) (U++bI m l) [setAt a (m+1+l.length)] 0 (Nat.le_refl _) (Nat.le_refl _) (by simp) (fun x hx y hy=>by
   have ey:y.a7=m+1+l.length:=(by rw [List.mem_singleton.1 hy];rfl);rcases List.mem_append.1 hx with hx|hx
   ·have:=hU x hx;omega
   ·have:=fN hx;omega),if_neg (by simpa using h.run),h.fin,AM (by rw [ew,jD];exact hp),ew,sN]
 refine⟨hS,ry h.snd hS h.full,fun x hx=> ?_,by rw [E],by rw [E]⟩;rcases List.mem_append.1 hx with hx|hx
 ·exact h.ab x hx
 ·rw [List.mem_singleton.1 hx];exact ha
noncomputable def lE (r:aA)(B:List ak)(s:aw)(l:List ak):Bool:=decide ((bw r B.length s B 0).2.2.2=0) && og r (bw r B.length s B 0).2.1
noncomputable def TL (r:aA)(m:Int)(ai:List ak)(s:aw)(l:List ak):Bool:=decide ((dw {r with ai:=fg m ai l}).2.2.2=0)
theorem sL {r:aA}{x:List ak}{s:aw}:og {r with ai:=x} s=og r s:=by rw [ru,ru]
theorem TK {r:aA}{w:Nat}{ai:List ak}{m:Int}{s:aw}{l:List ak}(hp:ai.Pairwise fun a b=>a.a7≤b.a7)(h:MS r w (cA m ai) m s l):TL r m ai s l=lE r (behind m ai) s l:=by
 have sh: ∀a:ak,∃t,({a with a7:=a.a7+l.length}:ak)=setAt a t:=fun a=>⟨_,rfl⟩;have E:bw r (fg m ai l).length (aF r) (fg m ai l) 0=((bw r (cA m ai++bI m l).length (aF r) (cA m ai++bI m l) 0).1++(bw r (behind m ai).length s (behind m ai) (0+(cA m ai++bI m l).length)).1,(bw r (behind m ai).length s (behind m ai) (0+(cA m ai++bI m l).length)).2):=by
  unfold fg;rw [fU (cA m ai++bI m l).length _ (behind m ai).length (aF r) (cA m ai++bI m l) _ 0 (Nat.le_refl _) (Nat.le_refl _) (by simp) (fun x hx y hy=>by
   obtain⟨b,hb,rfl⟩:=List.mem_map.1 hy;have h1:=mE hp hb;simp only;rcases List.mem_append.1 hx with hx|hx
   ·have:=pC hx;omega
   ·have:=fN hx;omega),if_neg (by simpa using h.run),h.fin,vF sh (fun a b=>by simp only;omega)]
 obtain⟨_,i2,i3⟩:=u9 (r:=r) (behind m ai).length s (behind m ai) (0+(cA m ai++bI m l).length) 0;have e1:(bw r (fg m ai l).length (aF r) (fg m ai l) 0).2.2.2=(bw r (behind m ai).length s (behind m ai) 0).2.2.2:=(by rw [E];exact i3);have e2:(bw r (fg m ai l).length (aF r) (fg m ai l) 0).2.1=(bw r (behind m ai).length s (behind m ai) 0).2.1:=(by rw [E];exact i2);unfold lE TL dw;simp only [mF,sL];have ef:aF {r with ai:=fg m ai l}=aF r:=rfl;rw [ef,e1,e2];by_cases h0:(bw r (behind m ai).length s (behind m ai) 0).2.2.2=0
 ·cases h1:og r (bw r (behind m ai).length s (behind m ai) 0).2.1 with
  |true=>simp [h0,e1]
  |false=>simp [h0,e1]
 ·simp [h0,e1]
section
variable {c:Nat} {H:aj}
theorem uL {nm:Nm}: ∀(fs:List Fr) (G:aj),nm.1<G.length→aj.get (fs++G) nm=aj.get G nm
 | [],G,_=>rfl
 |f::fs,G,h=>by
  have ne: ¬nm.1=(fs++G).length:=(by simp;omega);rw [List.cons_append,aj.e9,if_neg ne];exact uL fs G h
theorem zm {nm:Nm}{b:dH}: ∀(fs:List Fr) (G:aj),nm.1<G.length→aj.set (fs++G) nm b=fs++aj.set G nm b
 | [],G,_=>rfl
 |f::fs,G,h=>by
  have ne: ¬nm.1=(fs++G).length:=(by simp;omega);rw [List.cons_append,aj.jJ,if_neg ne,List.cons_append];rw [zm fs G h]
theorem sT (r:aA)(G:aj)(hG:0<G.length):Rd r (.pure (.fn 59)) (fun _=>G) G.length where
 len:=fun _=>rfl
 pos:=hG
 can:=rfl
 EP:=fun _=>rfl
 cl:=fun fs l n _=>by simp
 U8:=fun fs l s' c hf _ _ _=>by
  rw [vq];refine aO (bf KC au Tryz.func59 rfl rfl Td rfl rfl rfl (by simp) (by simp;omega) ?_);unfold aQ;simp;rw [ae (by simp)];simp
def ky (r:aA)(L:Nat)(l:List aw):Fr:=fX 8 3 (l.map aw.row) [(1,aR r),(5, .box [dG (L,8) 3 (l.map aw.row)])]
theorem Io (r:aA)(H:aj):Rd r (.func 62 [] [.ay (H.length,5) 0]) (fun l=>ky r H.length l::H) (H.length+1) where
 len:=fun _=>by simp
 pos:=by omega
 can:=rfl
 EP:=fun _=>rfl
 cl:=fun fs l n hn=>by
  have:H.length≤n:=(by omega);simp [this]
 U8:=fun fs l s' c hf hl hS hF=>by
  rw [mY];refine aO (bf KC au Tryz.func62 rfl rfl Te rfl rfl rfl (by simp) (by simp;omega) ?_);obtain⟨G,hG⟩: ∃G,fs++ky r H.length l::H=G:=⟨_,rfl⟩;have hGl:H.length<G.length:=(by rw [←hG];simp;omega);have g5:aj.get G (H.length,5)=some (.box [dG (H.length,8) 3 (l.map aw.row)]):=by
   rw [←hG,uL _ _ (by simp)];simp [ky]
  have g8:l.map aw.row≠[]→aj.get G (H.length,8)=some (.arr 3 (l.map aw.row) 0 false):=fun h=>by
   rw [←hG,uL _ _ (by simp)];simp only [aj.e9,if_true,ky];exact dB h
  have g80:l.map aw.row=[]→aj.get G (H.length,8)=none:=fun h=>by
   rw [←hG,uL _ _ (by simp)];simp only [aj.e9,if_true,ky,h,gb];simp
  have hset:aj.set (aj.set G (H.length,8) (.arr 3 ((l++[s']).map aw.row) 0 false)) (H.length,5) (.box [dG (H.length,8) 3 ((l++[s']).map aw.row)])=fs++ky r H.length (l++[s'])::H:=by
   rw [←hG,zm _ _ (by simp),zm _ _ (by simp [aj.length_set])];congr 1;have hne:(l++[s']).map aw.row≠[]:=(by simp);simp only [aj.jJ,if_true,ky];congr 1;rw [rq];unfold fX;rw [if_neg hne];simp
  have k1:aq 5 28679=117469190:=(by decide);have k2:aq 5 28683=117485574:=(by decide);have k3:aq 5 28687=117501958:=(by decide);have ne: ¬H.length=G.length:=(by omega);have b1:(l.length+1)*72≤1099511627776:=(by omega);have AP:=fun(F:Fr)=>rf (H':=F::G) (l:=H.length) (key:=8) (es:=3) (bytes:=72) (rows:=l.map aw.row) (r:=s'.row) (fun h=>by simp [ne,g80 h]) (fun h=>by simp [ne,g8 h]) (by simp;omega) (by simpa using b1);have t1:List.take s'.ah.length (s'.ah.map aG)=s'.ah.map aG:=List.take_of_length_le (by simp);have t2:List.take s'.ao.length (s'.ao.map aH.row)=s'.ao.map aH.row:=List.take_of_length_le (by simp);have t3:List.take s'.aa.length (s'.aa.map bB.row)=s'.aa.map bB.row:=List.take_of_length_le (by simp);have g5': ∀b,(aj.set G (H.length,8) b).get (H.length,5)=some (.box [dG (H.length,8) 3 (l.map aw.row)]):=fun b=>(aj.aJ b (fun e=>by have:=(Prod.mk.inj e).2;omega)).trans g5;have hGl':(aj.set G (H.length,8) (.arr 3 (l.map aw.row++[s'.row]) 0 false)).length=G.length:=aj.length_set _ _ _;have rs:s'.row=[PV.slice (s'.ah.map aG),PV.slice (s'.ao.map aH.row),PV.slice (s'.aa.map bB.row)]:=rfl;rw [←hset];by_cases ht0:s'.aa=[]
  ·have C:=uY (c:=5) (H:=[(2,bM r s')]::G) r hF ht0 (by simp) (by simp [k1]) (by simp [k2]);simp only [List.length_cons,Nat.add_sub_cancel,k1,k2]at C;simp only [bM,aQ,Q7]at C⊢;simp [ne,ht0]at AP C;simp [aw.row,ht0]at AP;simp [hG,ne,g5,ht0,C,t1,t2,AP,g5',aD];rw [ae (by simp)];simp [rs,ht0]
  ·have C:=xv (c:=5) (H:=[(2,bM r s')]::G) r hF ht0 (by simp) (by simp [k1]) (by simp [k2]) (by simp [k3]);simp only [List.length_cons,Nat.add_sub_cancel,k1,k2,k3]at C;simp only [bM,aQ,tw,cv]at C⊢;simp [ne]at AP C;simp [aw.row]at AP;simp [hG,ne,g5,C,t1,t2,t3,AP,g5',aD];rw [ae (by simp)];simp [rs]
end
section
variable {c:Nat} {H:aj}
structure Qf (r:aA):Prop where
 w:WB r
 snd:fR r (aF r)
 p0:r.ah≠[]
 al:r.ai.length≤1000000
 ab: ∀a∈r.ai,AB r a.aN.toNat a
 sh:iG r
structure CU (r:aA):Prop extends Qf r where
 ck:cB r=0
theorem M9 {r:aA}(h:CU r)(hH:0<H.length):
  bK KC (aE KC) 15 [.pure (.agg r.row)] c H=
   some (.pure (.tuple (if (dw r).2.2.2=0 then [.agg (dw r).2.1.row, .int .i64 (-1), .int .i64 0]else [.agg [.slice [], .slice [], .slice []], .int .i64 (dw r).2.2.1, .int .i64 (dw r).2.2.2])),H):=by
 refine aO (aK KC au Tryz.func15 rfl rfl Ht (by simp) hH ?_);have C:=fun c (H:aj) (hH:0<H.length)=>r5 (c:=c) (H:=H) r h.sh.s h.sh.l h.sh.p h.sh.t h.sh.a hH;rw [h.ck]at C;have A:=fun(F:Fr)=>rz (c:=15) h.w h.snd h.p0 h.al h.ab (sT r (F::H) (by simp));have A2: ∀F:Fr,aL KC (aE KC) 58 [.pure (.agg r.row), .pure (.fn 59)] 15 (F::H)=some (.pure (.tuple [.agg (aQ r (dw r).2.1), .int .i64 (dw r).2.2.1, .int .i64 (dw r).2.2.2]),F::H):=fun F=>by
  rw [jG rfl rfl rfl];have:bs (F::H) [.pure (.agg r.row), .pure (.fn 59)]=([.pure (.agg r.row), .pure (.fn 59)],F::H):=rfl;rw [this];exact A F
 generalize dw r=q at A2⊢;obtain⟨l,s,a7,e⟩:=q;simp only [aQ]at A2;rw [eE]at C A2⊢;unfold aw.row;by_cases he:e=0
 ·subst he;simp [C,A2,aD];rw [ae (by simp)];simp
 ·have he':(e !=0)=true:=(by simpa using he);simp [C,A2,he,he',aD];rw [ae (by simp)];simp
theorem CV {r:aA}(h:CU r)(hH:0<H.length):
  bK KC (aE KC) 17 [.pure (.agg r.row)] c H=
   some (.pure (.tuple (if (dw r).2.2.2=0 then [.slice ((dw r).1.map aw.row), .int .i64 0]else [.slice [], .int .i64 (dw r).2.2.2])),H):=by
 refine aO (aK KC au Tryz.func17 rfl rfl Hu (by simp) hH ?_);have C:=fun c (H:aj) (hH:0<H.length)=>r5 (c:=c) (H:=H) r h.sh.s h.sh.l h.sh.p h.sh.t h.sh.a hH;rw [h.ck]at C;have A:=rz (c:=17) h.w h.snd h.p0 h.al h.ab (Io r H);have A2:aL KC (aE KC) 58 [.pure (.agg r.row), .func 62 [] [.ay (H.length,5) 0]] 17 (ky r H.length []::H)=some (.pure (.tuple [.agg (aQ r (dw r).2.1), .int .i64 (dw r).2.2.1, .int .i64 (dw r).2.2.2]),ky r H.length (dw r).1::H):=by
  rw [jG rfl rfl rfl];have:bs (ky r H.length []::H) [.pure (.agg r.row), .func 62 [] [.ay (H.length,5) 0]]=([.pure (.agg r.row), .func 62 [] [.ay (H.length,5) 0]],ky r H.length []::H):=rfl;rw [this];exact A
 have hne:(dw r).1≠[]:=(by unfold dw;simp);generalize dw r=q at A2 hne⊢;obtain⟨l,s,a7,e⟩:=q;simp only at hne;have hl:l.map aw.row≠[]:=(by simpa using hne);obtain⟨F,hF⟩: ∃F,ky r H.length l=F:=⟨_,rfl⟩;have f6:F.get 6=none:=(by rw [←hF];unfold ky;rw [cr (by decide)];simp);have f5:F.get 5=some (.box [.a8 (H.length,8) 3 l.length 0 l.length]):=(by rw [←hF];unfold ky;rw [cr (by decide),dG,if_neg hl];simp);have f8:F.get 8=some (.arr 3 (l.map aw.row) 0 false):=(by rw [←hF];unfold ky;rw [dB hl]);simp only [aQ]at A2;rw [hF]at A2;simp only [ky,List.map_nil,fZ,gb,aR]at A2;rw [eE]at C A2⊢;have F5: ∀x:dH,(F.ins 6 x).get 5=some (.box [.a8 (H.length,8) 3 l.length 0 l.length]):=fun x=>(Fr.az _ (by decide) _).trans f5;have F8: ∀x:dH,(F.ins 6 x).get 8=some (.arr 3 (l.map aw.row) 0 false):=fun x=>(Fr.az _ (by decide) _).trans f8;have hnl: ¬H.length≤H.length-1:=(by omega);have tk:List.take l.length (l.map aw.row)=l.map aw.row:=List.take_of_length_le (by simp);by_cases he:e=0
 ·subst he;simp [C,A2,f6,F5,aD,Fr.bQ,Fr.jj];rw [ae (by simp)];simp [hnl,F8,tk]
 ·have he':(e !=0)=true:=(by simpa using he);simp [C,A2,f6,F5,he,he',aD,Fr.bQ,Fr.jj];rw [ae (by simp)];simp
end
section
variable {c:Nat} {H:aj}
def A8:List PV:=[.int .i64 0, .int .i64 0, .int .i64 0, .int .i64 0, .int .i64 0, .int .i64 0, .int .i64 0, .int .i64 0, .int .i64 0]
theorem Ft {nm:Nm}{rows:List (List PV)}{v k N:Nat}(hN:rows.length=N)(hg:H.get nm=some (.arr 9 rows v false))(hv:v≤N)(hk:k<N)(hw: ∀r∈rows,r.length=9)(hn:N≤1000000)(hH:0<H.length):
  aL KC (aE KC) 109 [.a8 nm 9 N 0 N, .pure (.int .i64 k), .pure (.int .i64 (k+1))] c H=
   some (.a8 nm 9 N 0 (N-1),H.set nm (.arr 9 (rows.take k++rows.drop (k+1)++[A8]) N false)):=by
 have l1:=aj.bL hg;have d1: ¬nm.1=H.length:=(by omega);have d2:nm.1≤H.length-1:=(by omega);have k1: ¬(k:Int)<0:=(by omega);have k2:(k:Int)<(k:Int)+1:=(by omega);have k3:(k:Int)+1≤N:=(by omega);have k4: ¬(k:Int)+1=0:=(by omega);have k5:((k:Int)==(k:Int)+1)=false:=by
  have: ¬(k:Int)=(k:Int)+1:=(by omega);simpa using this
 have k6: ¬(k:Int)+1<0:=(by omega);have k7:Int.toNat ((k:Int)+1)=k+1:=(by omega);have k8:k≤N:=(by omega);have k9:k+1≤N:=(by omega);have hb:N*72≤1099511627776:=(by omega);refine aO (ba KC au Tryz.func109 rfl rfl LM rfl rfl rfl (by simp) hH ?_);have hdl:(rows.drop (k+1)).length=N-(k+1):=(by rw [List.length_drop,hN]);have hdw: ∀x∈rows.drop (k+1),x.length=9:=fun x hx=>hw x (List.mem_of_mem_drop hx);have hrl:List.replicate 1 A8=[A8]:=rfl;by_cases hl:N=k+1
 ·subst hl;have z0: ¬k+1≤k:=(by omega);have z1: ¬k+1=k:=(by omega);have z2:Int.toNat ((k:Int)+1)=k+1:=(by omega);have hd:rows.drop (k+1)=[]:=List.drop_of_length_le (by omega);have hd2:rows.drop k≠[]:=by
   intro e;have:=congrArg List.length e;rw [List.length_drop,hN]at this;simp at this
  simp [d1,d2,hg,hv,k1,k2,k3,k4,k5,k6,k7,k8,k9,hN,z0,z1,z2,hd,aD];rw [ae (by simp)];simp [d2,A8]
 ·obtain⟨M,rfl⟩: ∃M,N=k+1+M:=⟨N-(k+1),by omega⟩;have hM:rows.drop (k+1)≠[]:=fun e=>by
   have:=congrArg List.length e;rw [List.length_drop,hN]at this;simp at this;omega
  have M0: ¬M=0:=(by omega);have eM:k+1+M-(k+1)=M:=(by omega);have tkd:List.take M (rows.drop (k+1))=rows.drop (k+1):=List.take_of_length_le (by omega);have nk: ¬k=k+1+M:=(by omega);have nk2: ¬k+M=k+1+M:=(by omega);have le1:k+M≤k+1+M:=(by omega);have le2: ¬k+1+M≤k+M:=(by omega);have le3: ¬k+1+M≤k+1:=(by omega);have e1:k+1+M-(k+M)=1:=(by omega);have z0: ¬(k:Int)+(M:Int)<0:=(by omega);have z1:Int.toNat ((k:Int)+(M:Int))=k+M:=(by omega);have z2:Int.toNat ((k:Int)+1+(M:Int))=k+1+M:=(by omega);have z3: ¬(k:Int)+1+(M:Int)<0:=(by omega);have z4:k+M+1=k+1+M:=(by omega);have z5:k+1+M-1=k+M:=(by omega);have tk2:List.take (k+M) (rows.take k++(rows.drop (k+1)++rows.drop (k+M)))=rows.take k++rows.drop (k+1):=by
   rw [←List.append_assoc];exact List.take_left' (by rw [List.length_append,List.length_take,List.length_drop,hN];omega)
  have dr2:List.drop (k+1+M) (rows.take k++(rows.drop (k+1)++rows.drop (k+M)))=[]:=List.drop_of_length_le (by
   simp only [List.length_append,List.length_take,List.length_drop,hN];omega)
  have ml:min k (k+1+M)+(M+(k+1+M-(k+M)))=k+1+M:=(by omega);have nle: ¬k+1+M≤k:=(by omega);have z6:(k:Int)+1≤(k:Int)+1+(M:Int):=(by omega);have nl2: ¬k+1=k+1+M:=(by omega);have gs: ∀x,(H.set nm x).get nm=some x:=fun x=>aj.dU x l1;have z7:k+1+M=k+(M+1):=(by omega);have hdP:(∀x,x∈rows.drop (k+1)→x.length=9)=True:=eq_true hdw;simp [d1,d2,hg,hv,k1,k2,k3,k4,k5,k6,k7,k8,k9,hN,hl,hdl,eM,hdP,gs,aj.set_set,tkd,nk,nk2,le1,le2,le3,e1,z0,z1,z2,z3,z4,z5,z6,M0,hM,aD,tk2,dr2,nle,nl2,ml];rw [if_pos z7,jf,ae (by simp)];simp [d2,A8]
end
section
variable {c:Nat} {H:aj}
def CW (a b:Int):Int:=if a<b then-1 else if b<a then 1 else 0
theorem TX {x:Int}(hH:0<H.length):aL KC (aE KC) 129 [.pure (.int .i64 x)] c H=some (.pure (.bool false),H):=by
 refine aO (bf KC au Tryz.func129 rfl rfl L6 rfl rfl rfl (by simp) hH ?_);simp [ae]
theorem CX {x y:Int}(hH:0<H.length):aL KC (aE KC) 108 [.pure (.int .i64 x), .pure (.int .i64 y)] c H=some (.pure (.int .i64 (CW x y)),H):=by
 refine aO (bf KC au Tryz.func108 rfl rfl LK rfl rfl rfl (by simp) hH ?_);have N:=fun c x (H:aj) (hH:0<H.length)=>TX (c:=c) (x:=x) (H:=H) hH;unfold CW;by_cases h1:x<y
 ·simp [N,h1,ae]
 ·by_cases h2:y<x
  ·simp [N,h1,h2,ae]
  ·simp [N,h1,h2,ae]
theorem Na {x y:ak}(hH:0<H.length):aL KC (aE KC) 107 [.pure (.agg x.row), .pure (.agg y.row)] c H=some (.pure (.int .i64 (CW x.a7 y.a7)),H):=by
 refine aO (bf KC au Tryz.func107 rfl rfl LJ rfl rfl rfl (by simp) hH ?_);have N:=fun c (H:aj) (hH:0<H.length)=>CX (c:=c) (x:=x.a7) (y:=y.a7) (H:=H) hH;simp [N,ak.row,ae]
def kG (P:List (List PV))(A:List ak)(x:ak)(B:List ak)(Q:List (List PV)):List (List PV):=P++A.map ak.row++x.row::(B.map ak.row++Q)
theorem r6 {P:List (List PV)}{A:List ak}{x:ak}{B:List ak}{Q:List (List PV)}:(kG P A x B Q).length=P.length+A.length+1+B.length+Q.length:=by
 unfold kG;simp;omega
theorem Ip {P:List (List PV)}{A:List ak}{x:ak}{B:List ak}{Q:List (List PV)}:(kG P A x B Q)[P.length+A.length]? =some x.row:=by
 unfold kG;rw [List.getElem?_append_right (by simp)];simp
theorem Fu {P:List (List PV)}{A:List ak}{y x:ak}{B:List ak}{Q:List (List PV)}:(kG P (A++[y]) x B Q)[P.length+A.length]? =some y.row:=by
 unfold kG;rw [List.getElem?_append_left (by simp),List.getElem?_append_right (by simp)];simp
theorem Fv {P:List (List PV)}{A:List ak}{y x:ak}{B:List ak}{Q:List (List PV)}:((kG P (A++[y]) x B Q).set (P.length+A.length+1) y.row).set (P.length+A.length) x.row=kG P A x (y::B) Q:=by
 unfold kG;have e1:P++(A++[y]).map ak.row++x.row::(B.map ak.row++Q)=(P++A.map ak.row)++y.row::x.row::(B.map ak.row++Q):=(by simp);have l1:(P++A.map ak.row).length=P.length+A.length:=(by simp);rw [e1,←l1];rw [List.set_append_right _ _ (by omega),List.set_append_right _ _ (by omega)];simp
theorem Fy {nm:Nm}{P Q:List (List PV)}{N a':Nat}(x:ak)(i:Nat)(hn:N≤1000000)(hnm:nm.1<H.length)(b:Int)(Q':GX→bN→Prop): ∀(k:Nat) (A B:List ak) (v:Nat),A.length=k→P.length=a'→(kG P A x B Q).length=N→v≤N→(∀y∈B,x.a7<y.a7)→
  (∀v',v'≤N→Q' (.exit 2) ⟨[(0, .a8 nm 9 N 0 N),(1, .pure (.int .i64 a')),(2, .pure (.int .i64 b)),(3, .pure (.fn 107)),(8, .pure (.int .i64 i))],[]::[]::H.set nm (.arr 9 (P++(rA (A++B) x).map ak.row++Q) v' false),53⟩)→
  gS KC au 151 (lp Tryz.f151 1) [0,1,2,3,8,9] [0,1,2,3,8] Q' [(0, .a8 nm 9 N 0 N),(1, .pure (.int .i64 a')),(2, .pure (.int .i64 b)),(3, .pure (.fn 107)),(8, .pure (.int .i64 i)),(9, .pure (.int .i64 ((P.length+A.length:Nat):Int)))] ([]::[]::H.set nm (.arr 9 (kG P A x B Q) v false)) 53:=by
 intro k;have l0: ∀x,(H.set nm x).length=H.length:=fun x=>aj.length_set _ _ _;have d1: ¬nm.1=H.length:=(by omega);have d2: ¬nm.1=H.length+1:=(by omega);have d3: ¬nm.1=H.length+1+1:=(by omega);have gs: ∀x,(H.set nm x).get nm=some x:=fun x=>aj.dU x hnm;have C:=fun c (x y:ak) (H:aj) (hH:0<H.length)=>Na (c:=c) (x:=x) (y:=y) (H:=H) hH
 induction k with
 |zero=>
  intro A B v hA hP hl hv hB h1;obtain rfl:A=[]:=List.length_eq_zero_iff.1 hA;have e:rA ([]++B) x=[]++x::B:=u5 hB (fun a h=>by simp at h);have h1':=h1 v hv;rw [e]at h1';apply ax;conv=>arg 4;whnf
  have d4:nm.1≤H.length+1:=(by omega);simp [hP,d4];simpa [kG]using h1'
 |succ k ih=>
  intro A B v hA hP hl hv hB h1;obtain⟨A',y,rfl⟩: ∃A' y,A=A'++[y]:=by
   have hne:A≠[]:=fun e=>(by rw [e]at hA;simp at hA);exact⟨A.dropLast,A.getLast hne,(List.dropLast_concat_getLast hne).symm⟩
  have hA':A'.length=k:=(by simpa using hA);have d4:nm.1≤H.length+1:=(by omega);obtain⟨j,hj⟩: ∃j,P.length+A'.length=j:=⟨_,rfl⟩;have hj1:P.length+(A'++[y]).length=j+1:=(by simp;omega);have hjN:j+1<N:=(by rw [←hl,r6];simp;omega);have g1:(kG P (A'++[y]) x B Q)[j+1]? =some x.row:=(by rw [←hj1];exact Ip);have g0:(kG P (A'++[y]) x B Q)[j]? =some y.row:=(by rw [←hj];exact Fu);have gsw:((kG P (A'++[y]) x B Q).set (j+1) y.row).set j x.row=kG P A' x (y::B) Q:=(by rw [←hj];exact Fv);have hl2:(kG P A' x (y::B) Q).length=N:=(by rw [←hl,r6,r6];simp;omega);have gt1:(a':Int)<(j:Int)+1:=(by omega);have w1:=dh (x:=(j:Int)) (by omega) (by omega);have w2:IntKind.i64.wrap ((j:Int)+1-1)=j:=by rw [show (j:Int)+1-1=j by omega];exact w1
  have jn0: ¬(j:Int)+1<0:=(by omega);have jt:Int.toNat ((j:Int)+1)=j+1:=(by omega);have jl:(j:Int)+1<N:=(by omega);have jl0:(j:Int)<N:=(by omega);have jN0:j<N:=(by omega);have l9: ∀z:ak,z.row.length=9:=fun _=>rfl;have t9: ∀z:ak,List.take 9 z.row=z.row:=fun _=>rfl;have dr9: ∀z:ak,List.drop 9 z.row=[]:=fun _=>rfl;have lp9: ∀z:ak,∀H:aj,bO H (z.row.map .pure)=(z.row,H):=fun z H=>rfl;rw [hj1];by_cases hlt:x.a7<y.a7
  ·have ih':=ih A' (y::B) N hA' hP hl2 (Nat.le_refl _) (fun b hb=>by
    rcases List.mem_cons.1 hb with rfl|hb
    ·exact hlt
    ·exact hB b hb) (fun v' hv'=>by
    have:=h1 v' hv';rw [show A'++[y]++B=A'++y::B by simp]at this
    exact this)
   rw [hj]at ih';generalize kG P (A'++[y]) x B Q=R at g1 g0 gsw hl⊢;have G1: ∀h,R[j+1]'h=x.row:=fun h=>(by rw [List.getElem?_eq_getElem h]at g1;simpa using g1);have G0: ∀h,R[j]'h=y.row:=fun h=>(by rw [List.getElem?_eq_getElem h]at g0;simpa using g0);have hc:CW x.a7 y.a7<0:=(by unfold CW;rw [if_pos hlt];omega);apply ax;conv=>arg 4;whnf
   simp [hP,d1,d2,d3,d4,gs,l0,hl,hv,gt1,jn0,jt,jl,jl0,jN0,hjN,w1,w2,G1,G0,l9,t9,C,hc,aD,aj.set_set,lp9,dr9,gsw];exact ih'
  ·have h1':=h1 v hv;rw [u5 hB (fun a ha=>by
    have:a=y:=(by simpa using ha.symm);rw [this];exact hlt)]at h1'
   have hc: ¬CW x.a7 y.a7<0:=by
    unfold CW;rw [if_neg hlt];split<;>omega
   have e:P++((A'++[y])++x::B).map ak.row++Q=kG P (A'++[y]) x B Q:=(by simp [kG]);rw [e]at h1';generalize kG P (A'++[y]) x B Q=R at g1 g0 gsw hl h1'⊢;have G1: ∀h,R[j+1]'h=x.row:=fun h=>(by rw [List.getElem?_eq_getElem h]at g1;simpa using g1);have G0: ∀h,R[j]'h=y.row:=fun h=>(by rw [List.getElem?_eq_getElem h]at g0;simpa using g0);apply ax;conv=>arg 4;whnf
   simp [hP,d1,d2,d3,d4,gs,l0,hl,hv,gt1,jn0,jt,jl,jl0,jN0,hjN,w1,w2,G1,G0,l9,t9,C,hc];exact h1'
theorem CY (l:List ak)(x:ak):dY (l++[x])=rA (dY l) x:=by
 unfold dY;rw [List.foldl_append];rfl
theorem Fz {nm:Nm} {P Q:List (List PV)} {N a':Nat} (X:List ak) (hn:N≤1000000) (hnm:nm.1<H.length) (hP:P.length=a') (hl:P.length+X.length+Q.length=N) (Q':GX→bN→Prop)
  (h1: ∀v',v'≤N→Q' (.exit 0) ⟨[],[]::H.set nm (.arr 9 (P++(dY X).map ak.row++Q) v' false),53⟩): ∀(k i v:Nat),i+k=X.length→v≤N→
  gS KC au 151 (lp Tryz.f151 0) [0,1,2,3,8] [] Q' [(0, .a8 nm 9 N 0 N),(1, .pure (.int .i64 a')),(2, .pure (.int .i64 ((a'+X.length:Nat):Int))),(3, .pure (.fn 107)),(8, .pure (.int .i64 ((a'+i:Nat):Int)))] ([]::H.set nm (.arr 9 (P++(dY (X.take i)).map ak.row++((X.drop i).map ak.row++Q)) v false)) 53:=by
 intro k
 induction k with
 |zero=>
  intro i v hi hv;have hx:X.take i=X:=List.take_of_length_le (by omega);have hd:X.drop i=[]:=List.drop_of_length_le (by omega);have h1':=h1 v hv;have e:i=X.length:=(by omega);rw [hx,hd,e];apply ax;conv=>arg 4;whnf
  simp;simpa using h1'
 |succ k ih=>
  intro i v hi hv;have hia:i<X.length:=(by omega);have hlt:((a'+i:Nat):Int)<((a'+X.length:Nat):Int):=(by omega);have a8:X.drop i=X[i]::X.drop (i+1):=List.drop_eq_getElem_cons hia;have htk:X.take (i+1)=X.take i++[X[i]]:=(by rw [List.take_add_one,List.getElem?_eq_getElem hia];rfl);have e:P++(dY (X.take i)).map ak.row++((X.drop i).map ak.row++Q)=kG P (dY (X.take i)) X[i] [] ((X.drop (i+1)).map ak.row++Q):=by
   rw [a8];simp only [kG,List.map_cons,List.map_nil,List.nil_append,List.cons_append,List.append_assoc]
  have hsl:(dY (X.take i)).length=i:=(by rw [kI,List.length_take];omega);have hw:=dh (x:=((a'+i+1:Nat):Int)) (by omega) (by omega);have ih':=fun v' hv'=>ih (i+1) v' (by omega) hv';have L:=fun Q'=>Fy (H:=H) (nm:=nm) (P:=P) (Q:=(X.drop (i+1)).map ak.row++Q) (N:=N) (a':=a') X[i] (a'+i) hn hnm ((a'+X.length:Nat):Int) Q' i (dY (X.take i)) [] v hsl hP (by rw [r6,hsl];simp;omega) hv (by simp);rw [e];apply ax;conv=>arg 4;whnf
  obtain⟨R,hR⟩: ∃R,kG P (dY (X.take i)) X[i] [] ((X.drop (i+1)).map ak.row++Q)=R:=⟨_,rfl⟩;rw [hR]at L⊢;have e2: ∀v',aj.set H nm (.arr 9 (P++(rA (dY (X.take i)++[]) X[i]).map ak.row++((X.drop (i+1)).map ak.row++Q)) v' false)=H.set nm (.arr 9 (P++(dY (X.take (i+1))).map ak.row++((X.drop (i+1)).map ak.row++Q)) v' false):=fun v'=>by
   rw [htk,CY,List.append_nil]
  have d4:nm.1≤H.length:=(by omega);have hsl2:((P.length+(dY (X.take i)).length:Nat):Int)=(a':Int)+i:=(by rw [hP,hsl];simp);simp only [e2,hsl2]at L;obtain⟨T,hT⟩: ∃T:List (List PV),P++(dY (X.take (i+1))).map ak.row++((X.drop (i+1)).map ak.row++Q)=T:=⟨_,rfl⟩;rw [hT]at L ih';have hw':IntKind.i64.wrap ((a':Int)+i+1)=(a':Int)+i+1:=(by simpa using hw);simp at L;simp [hia];refine L _ fun v' hv'=> ?_;have i1:=ih' v' hv';have ec:((a'+(i+1):Nat):Int)=(a':Int)+i+1:=(by omega);rw [ec]at i1;simp [hw',d4];simpa using i1
end
section
variable {c:Nat} {H:aj}
theorem nu {nm:Nm}{P Q:List (List PV)}{N a' v:Nat}(X:List ak)(hn:N≤1000000)(hnm:nm.1<H.length)(hP:P.length=a')(hl:P.length+X.length+Q.length=N)(hv:v≤N):
  ∃v',v'≤N∧aL KC (aE KC) 151 [.a8 nm 9 N 0 N, .pure (.int .i64 a'), .pure (.int .i64 ((a'+X.length:Nat):Int)), .pure (.fn 107)] c (H.set nm (.arr 9 (P++X.map ak.row++Q) v false))=
   some (.pure (.tuple []),H.set nm (.arr 9 (P++(dY X).map ak.row++Q) v' false)):=by
 suffices hs:mh (aL KC (aE KC) 151 [.a8 nm 9 N 0 N, .pure (.int .i64 a'), .pure (.int .i64 ((a'+X.length:Nat):Int)), .pure (.fn 107)] c (H.set nm (.arr 9 (P++X.map ak.row++Q) v false))) (fun x=> ∃v',v'≤N∧x=(.pure (.tuple []),H.set nm (.arr 9 (P++(dY X).map ak.row++Q) v' false)))by
  obtain⟨x,hx,v',h1,h2⟩:=hs;exact⟨v',h1,by rw [hx,h2]⟩
 have hH:0<(H.set nm (.arr 9 (P++X.map ak.row++Q) v false)).length:=(by rw [aj.length_set];omega);refine ba KC au Tryz.func151 rfl rfl Mq rfl rfl rfl (by simp) hH ?_;by_cases hX:X=[]
 ·subst hX;have hw:=dh (x:=(a':Int)+1) (by omega) (by omega);have hlt: ¬(a':Int)+1<a':=(by omega);simp [hw];apply ax;conv=>arg 4;whnf
  simp [hlt,ae,aj.length_set];exact⟨v,hv,by simp [dY]⟩
 ·have hx1:1≤X.length:=List.length_pos_iff.2 hX;have hw:=dh (x:=(a':Int)+1) (by omega) (by omega);obtain⟨m,hm⟩: ∃m,1+m=X.length:=⟨X.length-1,by omega⟩;have e1:P++(dY (X.take 1)).map ak.row++((X.drop 1).map ak.row++Q)=P++X.map ak.row++Q:=by
   cases X with
   |nil=>exact absurd rfl hX
   |cons x X=>simp [dY,rA]
  have L:=fun Q' h1=>Fz (H:=H) (nm:=nm) (P:=P) (Q:=Q) (N:=N) (a':=a') X hn hnm hP hl Q' h1 m 1 v hm hv;rw [e1]at L;have ec:((a'+1:Nat):Int)=(a':Int)+1:=(by omega);have ec2:((a'+X.length:Nat):Int)=(a':Int)+X.length:=(by omega);rw [ec,ec2]at L;rw [ec2];simp [hw];simp at L;refine L _ fun v' hv'=> ?_;simp [ae,aj.length_set];exact⟨v',hv',rfl⟩
theorem CZ {nm:Nm}{N v:Nat}(X:List ak)(hN:X.length=N)(hn:N≤20)(hnm:nm.1<H.length)(hv:v≤N):
  ∃v',v'≤N∧aL KC (aE KC) 128 [.a8 nm 9 N 0 N, .pure (.int .i64 N), .pure (.fn 107)] c (H.set nm (.arr 9 (X.map ak.row) v false))=
   some (.pure (.tuple []),H.set nm (.arr 9 ((dY X).map ak.row) v' false)):=by
 have hl: ∀b,(H.set nm b).length=H.length:=fun b=>aj.length_set _ _ _;have hH:0<(H.set nm (.arr 9 (X.map ak.row) v false)).length:=by rw [hl];omega
 suffices hs:mh (aL KC (aE KC) 128 [.a8 nm 9 N 0 N, .pure (.int .i64 N), .pure (.fn 107)] c (H.set nm (.arr 9 (X.map ak.row) v false))) (fun x=> ∃v',v'≤N∧x=(.pure (.tuple []),H.set nm (.arr 9 ((dY X).map ak.row) v' false)))by
  obtain⟨x,hx,v',h1,h2⟩:=hs;exact⟨v',h1,by rw [hx,h2]⟩
 have d1: ¬nm.1=H.length:=(by omega);have up: ∀f b,aj.set (f::H) nm b=f::H.set nm b:=fun f b=>by
  show (if nm.1=H.length then _ else _)=_
  rw [if_neg d1]
 have hlt: ¬(20:Int)<N:=(by omega);refine ba KC au Tryz.func128 rfl rfl L5 rfl rfl rfl (by simp) hH ?_;have d2: ¬nm.1=H.length+1:=(by omega);have d4:nm.1≤H.length:=(by omega);have d5:nm.1≤H.length+1:=(by omega);by_cases h20:N=20
 ·obtain⟨v1,a1,b1⟩:=nu (c:=18) (H:=[]::[]::H) (nm:=nm) (P:=[]) (Q:=[]) (N:=N) (a':=0) (v:=v) X (by omega) (by simp;omega) rfl (by simpa using hN) hv;obtain⟨v2,a2,b2⟩:=nu (c:=27) (H:=[]::H) (nm:=nm) (P:=(dY X).map ak.row) (Q:=[]) (N:=N) (a':=N) (v:=v1) [] (by omega) (by simp;omega) (by rw [List.length_map,kI,hN]) (by rw [List.length_map,kI,hN];simp) a1;subst h20;simp [d1,d2,hN]at b1 b2;have es:dY ([]:List ak)=[]:=rfl;rw [es]at b2;simp at b2;have w40:IntKind.i64.wrap 40=40:=(by decide);simp;apply ax;conv=>arg 4;whnf
  simp [d1,d2,d4,d5,b1,w40];apply ax;conv=>arg 4;whnf
  simp [d1,d2,d4,d5,b2];apply ax;conv=>arg 4;whnf
  simp [ae,hl];exact⟨v2,a2,rfl⟩
 ·obtain⟨v2,a2,b2⟩:=nu (c:=27) (H:=[]::H) (nm:=nm) (P:=[]) (Q:=[]) (N:=N) (a':=0) (v:=v) X (by omega) (by simp;omega) rfl (by simpa using hN) hv;have hle: ¬(20:Int)≤N:=(by omega);simp [d1,hN]at b2;simp;apply ax;conv=>arg 4;whnf
  simp [hle,b2,d1,d4];apply ax;conv=>arg 4;whnf
  simp [hlt,ae,hl];exact⟨v2,a2,rfl⟩
theorem FA {nm:Nm}{N v:Nat}(X:List ak)(hN:X.length=N)(hn:N≤20)(hnm:nm.1<H.length)(hv:v≤N):
  ∃v',v'≤N∧aL KC (aE KC) 106 [.a8 nm 9 N 0 N, .pure (.fn 107)] c (H.set nm (.arr 9 (X.map ak.row) v false))=
   some (.pure (.tuple []),H.set nm (.arr 9 ((dY X).map ak.row) v' false)):=by
 have hl: ∀b,(H.set nm b).length=H.length:=fun b=>aj.length_set _ _ _;have hH:0<(H.set nm (.arr 9 (X.map ak.row) v false)).length:=(by rw [hl];omega);have d1: ¬nm.1=H.length:=(by omega);have d4:nm.1≤H.length:=(by omega);obtain⟨v2,a2,b2⟩:=CZ (c:=8) (H:=[]::H) (nm:=nm) (v:=v) X hN hn (by simp;omega) hv;refine⟨v2,a2,aO (ba KC au Tryz.func106 rfl rfl LI rfl rfl rfl (by simp) hH ?_)⟩;simp [d1]at b2;simp [b2,d1,d4,ae,hl]
end
section
variable {c:Nat} {H:aj}
theorem Iq (r:aA) {act:Nat} (h:act<r.ai.length) (hp:r.ai.Pairwise fun a b=>a.a7≤b.a7) (hn:r.ai.length≤1000000) (Q:GX→bN→Prop)
  (h1:Q (.exit 0) ⟨[(2, .ay (H.length,2) 0),(4, .ay (H.length,4) 0),(5, .pure (.int .i64 ((rC r.ai r.ai[act]).length:Nat)))],[(2,aR r),(4,om)]::H,42⟩): ∀(k n:Nat),n=(rC r.ai r.ai[act]).length+k→n≤act→
  gS KC au 104 (lp Tryz.f104 0) [1,2,4,5] [2,4,5] Q [(1, .pure (.int .i64 act)),(2, .ay (H.length,2) 0),(4, .ay (H.length,4) 0),(5, .pure (.int .i64 n))] ([(2,aR r),(4,om)]::H) 42:=by
 obtain⟨f1,f2,f3⟩:=vd h hp;intro k
 induction k with
 |zero=>
  intro n hk hna;rw [Nat.add_zero]at hk;rw [←hk]at h1 f2
  cases n with
  |zero=>
   apply ax;conv=>arg 4;whnf
   simp [aR,om];simpa [aR,om]using h1
  |succ n=>
   have hlt:n<r.ai.length:=(by omega);have:=f2 n hlt (by omega);have hne:(r.ai[n].a7==r.ai[act].a7)=false:=by
    have: ¬r.ai[n].a7=r.ai[act].a7:=(by omega);simpa using this
   have gt:(0:Int)<(n:Int)+1:=(by omega);have w2:=dh (x:=(n:Int)) (by omega) (by omega);apply ax;conv=>arg 4;whnf
   simp [aR,om,gt,w2,hlt,h,ak.row,hne];simpa [aR,om]using h1
 |succ k ih=>
  intro n hk hna;obtain⟨n',rfl⟩: ∃n',n=n'+1:=⟨n-1,by omega⟩;have hlt:n'<r.ai.length:=(by omega);have:=f3 n' hlt (by omega) (by omega);have heq:(r.ai[n'].a7==r.ai[act].a7)=true:=(by simpa using this);have gt:(0:Int)<(n':Int)+1:=(by omega);have w2:=dh (x:=(n':Int)) (by omega) (by omega);have ih':=ih n' (by omega) (by omega);apply ax;conv=>arg 4;whnf
  simp [aR,om,gt,w2,hlt,h,ak.row,heq];simpa [aR,om]using ih'
theorem FC {r:aA}(hr:CU r){act:Nat}(h:act<r.ai.length)(hp:r.ai.Pairwise fun a b=>a.a7≤b.a7)(hH:0<H.length):
  aL KC (aE KC) 104 [.pure (.agg r.row), .pure (.int .i64 act)] c H=some (.pure (.agg (aQ r (Ck r r.ai[act]))),H):=by
 refine aO (bf KC au Tryz.func104 rfl rfl LF rfl rfl rfl (by simp) hH ?_);obtain⟨f1,f2,f3⟩:=vd h hp;have C:=fun c (H:aj) (hH:0<H.length)=>sC (c:=c) (H:=H) r hr.w.pl hr.w.tl hH;have hF:Full (aF r):=⟨by simpa [aF]using hr.p0,by simpa [aF]using hr.p0,by simp [aF];exact hr.w.pl,by simp [aF];exact hr.w.pl,by simp [aF];exact hr.w.tl⟩;obtain⟨m,hm⟩: ∃m,(rC r.ai r.ai[act]).length=m:=⟨_,rfl⟩;have hbt:rC r.ai r.ai[act]=r.ai.take m:=(by rw [←hm];exact qi _ _);have hal:=hr.al;have R:=fun(F:Fr)=>yP (c:=37) hr.w (sT r (F::H) (by simp)) (r.ai.take m) (by rw [List.length_take];omega) (fun a ha=>hr.ab a (List.mem_of_mem_take ha)) hr.snd hF;have hml:(r.ai.take m).length=m:=by rw [List.length_take];omega
 have R2: ∀F:Fr,∃y z,aL KC (aE KC) 93 [.pure (.agg (aQ r (aF r))), .pure (.slice (List.take m (r.ai.map ak.row))), .pure (.fn 59)] 37 (F::H)=
   some (.pure (.tuple [.agg (aQ r (Ck r r.ai[act])), .int .i64 y, .int .i64 z]),F::H):=fun F=>by
  refine⟨(bw r (r.ai.take m).length (aF r) (r.ai.take m) 0).2.2.1,(bw r (r.ai.take m).length (aF r) (r.ai.take m) 0).2.2.2, ?_⟩;rw [jG rfl rfl rfl];have e:=R F;rw [List.map_take]at e;have eb:Ck r r.ai[act]=(bw r (r.ai.take m).length (aF r) (r.ai.take m) 0).2.1:=(by unfold Ck;rw [hbt]);rw [eb];exact e
 have L:=fun Q h1=>Iq (H:=H) r h hp hr.al Q h1 (act-m) act (by omega) (Nat.le_refl _);rw [eE]at C⊢;rw [hm]at L;simp [aR,om]at L;simp;refine L _ ?_;obtain⟨y,z,e⟩:=R2 [(2,aR r),(4,om)];simp only [aQ,aR,om]at C e;have hmn:m≤r.ai.length:=(by omega);have hmi: ¬(m:Int)<0:=(by omega);have hall: ∀x:ak,x.row.length=9:=fun _=>rfl;simp [C,e,hmn,hmi,aD,hall];rw [ae (by simp)];simp [aQ]
end
section
variable {c:Nat} {H:aj}
theorem Ir (r:aA) (ai:List ak) (m:Int) (hn:ai.length≤1000000) (Q:GX→bN→Prop)
  (h1:Q (.exit 0) ⟨[(8, .pure (.int .i64 m)),(9, .pure (.int .i64 (cA m ai).length))],[(4,aR r)]::H,37⟩): ∀(k n:Nat),n+k=(cA m ai).length→
  gS KC au 74 (lp Tryz.f74 0) [3,8,9] [8,9] Q [(3, .pure (.slice (ai.map ak.row))),(8, .pure (.int .i64 m)),(9, .pure (.int .i64 n))] ([(4,aR r)]::H) 37:=by
 have hle:(cA m ai).length≤ai.length:=(List.takeWhile_sublist _).length_le;intro k
 induction k with
 |zero=>
  intro n hk;have e:n=(cA m ai).length:=(by omega);rw [←e]at h1;by_cases hl:n<ai.length
  ·have hout:=pz (fun a:ak=>decide (a.a7≤m)) ai (by rw [show (ai.takeWhile fun a:ak=>decide (a.a7≤m)).length=n from e.symm];exact hl)
   have hout': ¬ai[n].a7≤m:=by
    have e2:(ai.takeWhile fun a:ak=>decide (a.a7≤m)).length=n:=e.symm;simp only [e2]at hout;simpa using hout
   apply ax;conv=>arg 4;whnf
   simp [hl,ak.row,hout'];exact h1
  ·apply ax;conv=>arg 4;whnf
   simp [hl];exact h1
 |succ k ih=>
  intro n hk;have hl:n<ai.length:=(by omega);have hin:=vc (fun a:ak=>decide (a.a7≤m)) ai n hl (by show n<(cA m ai).length;omega)
  have hin':ai[n].a7≤m:=(by simpa using hin);have hw:=dh (x:=(n:Int)+1) (by omega) (by omega);have ih':=ih (n+1) (by omega);apply ax;conv=>arg 4;whnf
  simp [hl,ak.row,hin',hw];simpa using ih'
theorem FE {r:aA}{act:Nat}(h:act<r.ai.length)(hn:r.ai.length≤1000000)(ht:0≤r.ai[act].a7∧r.ai[act].a7≤1000000)(kind:Int)(ai:List ak)(hal:ai.length≤1000000)(hH:0<H.length):
  bK KC (aE KC) 74 [.pure (.agg r.row), .pure (.int .i64 act), .pure (.int .i64 kind), .pure (.slice (ai.map ak.row))] c H=
   some (.pure (.tuple [.int .i64 (eG r act kind), .int .i64 (cA (eG r act kind) ai).length]),H):=by
 refine aO (aK KC au Tryz.func74 rfl rfl Tl (by simp) hH ?_);have hl:=aM (d:=bH) h;have L:=fun m Q h1=>Ir (H:=H) r ai m hal Q h1 (cA m ai).length 0 (by omega);rw [eE];unfold eG;rw [hl];by_cases hk:kind=3
 ·have hw:=dh (x:=r.ai[act].a7+1) (by omega) (by omega);have L1:=L (r.ai[act].a7+1);subst hk;simp [aR]at L1;simp [h,ak.row,hw];refine L1 _ ?_;simp;rw [ae (by simp)];simp
 ·have L1:=L r.ai[act].a7;have hk':(kind==3)=false:=(by simpa using hk);simp [aR]at L1;simp [h,ak.row,hk,hk'];refine L1 _ ?_;simp;rw [ae (by simp)];simp
theorem FF {g:GV}{q:PV}(hg:Cr H g q)(ps:List PV):(bs H (ps.map .pure++[g])).1.map canon=ps.map (fun p=>canon (.pure p))++[.pure q]:=by
 have h1: ∀ps:List PV,bs H (ps.map .pure++[g])=(ps.map .pure++[(dn H g).1],(dn H g).2):=fun ps=>by
  induction ps with
  |nil=>rfl
  |cons p ps ih=>
   rw [List.map_cons,List.cons_append];simp only [bs];have e:dn H (.pure p)=(.pure p,H):=rfl;rw [e];simp only [ih,List.cons_append]
 have h2:canon (dn H g).1= .pure q:=by
  have h3:=(qk hg).1
  cases g with
  |a8 nm es top lo len=>
   show canon (dW H (.a8 nm es top lo len)).1=_
   have e: ∃p,(dW H (.a8 nm es top lo len)).1= .pure p:=⟨_,rfl⟩;obtain⟨p,hp⟩:=e;rw [hp]at h3⊢;have:p=q:=by
    have h4:cj (.pure p)=GV.pure p:=rfl;rw [h4]at h3;cases h3;rfl
   rw [this];obtain⟨rows,v,ro,a1,a2,a3,a4,a5,a6⟩:=hg;rw [a6];rfl
  |pure p=>cases hg;rfl
  |aV=>cases hg;rfl
  |_=>exact hg.elim
 rw [h1];simp [h2,Function.comp_def]
theorem Ay {r:aA}{act:Nat}(h:act<r.ai.length)(hn:r.ai.length≤1000000)(ht:0≤r.ai[act].a7∧r.ai[act].a7≤1000000)(kind:Int)(ai:List ak)(hal:ai.length≤1000000){g:GV}(hg:Cr H g (.slice (ai.map ak.row)))(hH:0<H.length):
  aL KC (aE KC) 74 [.pure (.agg r.row), .pure (.int .i64 act), .pure (.int .i64 kind),g] c H=
   some (.pure (.tuple [.int .i64 (eG r act kind), .int .i64 (cA (eG r act kind) ai).length]),H):=
 iD KC rfl rfl (FF hg [.agg r.row, .int .i64 act, .int .i64 kind]) rfl hH (fun H hH=>FE (c:=c) h hn ht kind ai hal hH) rfl
end
section
variable {c:Nat} {H:aj}
def lR (l:List ak)(act:Nat)(aN:Int):List ak:=l.take act++(l.drop act).map (late aN)
theorem kN (l:List ak)(act:Nat)(aN:Int)(h:act≤l.length):(lR l act aN).length=l.length:=by
 unfold lR;simp;omega
def jC (l:List ak)(act:Nat)(aN:Int)(i:Nat):List ak:=(lR l act aN).take i++l.drop i
theorem FG (l:List ak)(act:Nat)(aN:Int)(h:act≤l.length)(i:Nat)(hi:i≤l.length):(jC l act aN i).length=l.length:=by
 unfold jC;rw [List.length_append,List.length_take,List.length_drop,kN l act aN h];omega
theorem Nb (l:List ak)(act:Nat)(aN:Int)(h:act≤l.length):jC l act aN act=l:=by
 unfold jC lR;rw [List.take_left' (by rw [List.length_take];omega),List.take_append_drop]
theorem Nc (l:List ak)(act:Nat)(aN:Int)(h:act≤l.length):jC l act aN l.length=lR l act aN:=by
 unfold jC;rw [List.take_of_length_le (by rw [kN l act aN h];exact Nat.le_refl _),List.drop_length,List.append_nil]
theorem FH (l:List ak)(act:Nat)(aN:Int)(h:act≤l.length){i:Nat}(h1:act≤i)(h2:i<l.length):(lR l act aN)[i]? =some (late aN l[i]):=by
 unfold lR;rw [List.getElem?_append_right (by rw [List.length_take];omega),List.length_take,List.getElem?_map,List.getElem?_drop];rw [show act+(i-min act l.length)=i by omega,List.getElem?_eq_getElem h2]
 rfl
theorem FJ (l:List ak)(act:Nat)(aN:Int)(h:act≤l.length){i:Nat}(h2:i<l.length):(jC l act aN i)[i]? =some l[i]:=by
 unfold jC;rw [List.getElem?_append_right (by rw [List.length_take,kN l act aN h];omega),List.length_take,kN l act aN h,List.getElem?_drop,show i+(i-min i l.length)=i by omega,List.getElem?_eq_getElem h2]
theorem C0 (l:List ak)(act:Nat)(aN:Int)(h:act≤l.length){i:Nat}(h1:act≤i)(h2:i<l.length):(jC l act aN i).set i (late aN l[i])=jC l act aN (i+1):=by
 have hl:=kN l act aN h;have e:l.drop i=l[i]::l.drop (i+1):=List.drop_eq_getElem_cons h2;unfold jC;rw [List.set_append_right _ _ (by rw [List.length_take,hl];omega),List.length_take,hl,show i-min i l.length=0 by omega,e,List.set_cons_zero,List.take_add_one,FH l act aN h h1 h2]
 simp
theorem Is (r:aA) {act:Nat} (aN:Int) (h:act<r.ai.length) (hn:r.ai.length≤1000000) (tm: ∀a∈r.ai,0≤a.a7∧a.a7≤1000000) (Q:GX→bN→Prop)
  (h1: ∀v,v≤r.ai.length→Q (.exit 1) ⟨[(7, .a8 (H.length,28685) 9 r.ai.length 0 r.ai.length)],[(3,aR r),(28685, .arr 9 ((lR r.ai act aN).map ak.row) v false)]::H,72⟩): ∀(k i v:Nat),i+k=r.ai.length→act≤i→v≤r.ai.length→
  gS KC au 70 (lp Tryz.f70 0) [7,8,9] [7] Q [(7, .a8 (H.length,28685) 9 r.ai.length 0 r.ai.length),(8, .pure (.int .i64 aN)),(9, .pure (.int .i64 i))] ([(3,aR r),(28685, .arr 9 ((jC r.ai act aN i).map ak.row) v false)]::H) 72:=by
 intro k
 induction k with
 |zero=>
  intro i v hi ha hv;have e:i=r.ai.length:=(by omega);subst e;rw [Nc _ _ _ (by omega)];have h1':=h1 v hv;apply ax;conv=>arg 4;whnf
  simp;exact h1'
 |succ k ih=>
  intro i v hi ha hv;have hia:i<r.ai.length:=(by omega);have hw:=dh (x:=(i:Int)+1) (by omega) (by omega);have hml:=FG r.ai act aN (by omega) i (by omega);have g:=FJ r.ai act aN (by omega) hia;have gs:=C0 r.ai act aN (by omega) ha hia;have tmi:=tm _ (List.getElem_mem hia);have hwt:=dh (x:=r.ai[i].a7+1) (by omega) (by omega);have G: ∀h,(jC r.ai act aN i)[i]'h=r.ai[i]:=fun h=>(by rw [List.getElem?_eq_getElem h]at g;simpa using g);by_cases hwho:r.ai[i].aN=aN
  ·have ih':=ih (i+1) r.ai.length (by omega) (by omega) (Nat.le_refl _);rw [←gs]at ih';have el:late aN r.ai[i]={r.ai[i]with a7:=r.ai[i].a7+1}:=(by unfold late;rw [if_pos hwho]);rw [el]at ih';generalize jC r.ai act aN i=R at G hml ih'⊢;have hwb:(r.ai[i].aN==aN)=true:=(by simpa using hwho);apply ax;conv=>arg 4;whnf
   simp [hia,hml,hv,G,hw,hwt,hwb,hwho,ak.row,aD];simpa [ak.row,hwho,List.map_set]using ih'
  ·have ih':=ih (i+1) v (by omega) (by omega) hv;rw [←gs]at ih';have el:late aN r.ai[i]=r.ai[i]:=(by unfold late;rw [if_neg hwho]);rw [el]at ih';have es:(jC r.ai act aN i).set i r.ai[i]=jC r.ai act aN i:=by
    have hil:i<(jC r.ai act aN i).length:=(by omega);conv=>lhs;rw [←G hil]
    exact List.set_getElem_self hil
   rw [es]at ih';generalize jC r.ai act aN i=R at G hml ih'⊢;have hwb:(r.ai[i].aN==aN)=false:=(by simpa using hwho);apply ax;conv=>arg 4;whnf
   simp [hia,hml,hv,G,hw,hwb,ak.row];simpa using ih'
theorem C6 {a:ak}(h:a.kind≠1)(x:Int):nK {a with hand:=x}=nK a:=by
 unfold nK;simp [h]
theorem AB.flip {r:aA}{w:Nat}{a:ak}(h:AB r w a)(hk:a.kind≠1):AB r w {a with hand:=1-a.hand} where
 aN:=h.aN
 wl:=h.wl
 hand:=by rcases h.hand with e|e<;>simp [e]
 kind:=h.kind
 take:=h.take
 pL:=h.pL
 step:=h.step
 form:=by rw [C6 hk];exact h.form
theorem It {r:aA}(hr:CU r)(a:ak):fR r (Ck r a):=
 (mA _ _ _ _ hr.snd (fun x hx=>hr.ab x ((List.takeWhile_sublist _).subset hx))).1
theorem xF {r:aA}(hr:CU r){act:Nat}(h:act<r.ai.length)(hp:r.ai.Pairwise fun a b=>a.a7≤b.a7)(tm: ∀a∈r.ai,0≤a.a7∧a.a7≤1000000)(h20:r.ai.length≤20){kind:Int}(hk2:kind=2→r.ai[act].kind≠1)(hH:0<H.length):
  aL KC (aE KC) 70 [.pure (.agg r.row), .pure (.int .i64 act), .pure (.int .i64 kind)] c H=some (.pure (.slice ((dp r act kind).map ak.row)),H):=by
 have hne:r.ai≠[]:=fun e=>(by rw [e]at h;simp at h);have k1:aq 12 7=28685:=(by decide);have C:=tv (c:=12) (H:=[(3,aR r)]::H) r.ai hne (by omega) (by simp) (by simp [k1]);simp only [List.length_cons,Nat.add_sub_cancel,k1]at C;have hset:aj.set ([(3,aR r)]::H) (H.length,28685) (.arr 9 (r.ai.map ak.row) 0 false)=[(3,aR r),(28685, .arr 9 (r.ai.map ak.row) 0 false)]::H:=(by simp);rw [hset]at C;have hg:r.ai.getD act bH=r.ai[act]:=aM h
 have D: ∀(rows:List (List PV)) (v:Nat),rows.length=r.ai.length→v≤r.ai.length→(∀x∈rows,x.length=9)→aL KC (aE KC) 109 [.a8 (H.length,28685) 9 r.ai.length 0 r.ai.length, .pure (.int .i64 act), .pure (.int .i64 (act+1))] 71 ([(3,aR r),(28685, .arr 9 rows v false)]::H)=
   some (.a8 (H.length,28685) 9 r.ai.length 0 (r.ai.length-1),[(3,aR r),(28685, .arr 9 (rows.take act++rows.drop (act+1)++[A8]) r.ai.length false)]::H):=fun rows v hl hv hw=>by
  have:=Ft (c:=71) (H:=[(3,aR r),(28685, .arr 9 rows v false)]::H) (nm:=(H.length,28685)) (rows:=rows) (v:=v) (k:=act) hl (by simp) hv h hw (by omega) (by simp);simpa using this
 have w9: ∀l:List ak,∀x∈l.map ak.row,x.length=9:=fun l x hx=>by
  obtain⟨a,_,rfl⟩:=List.mem_map.1 hx;rfl
 refine aO (bf KC au Tryz.func70 rfl rfl Tj rfl rfl rfl (by simp) hH ?_);have hw:=dh (x:=(act:Int)+1) (by omega) (by omega);have hnl: ¬H.length≤H.length-1:=(by omega);rw [eE];simp only [aR]at C D;unfold dp;rw [hg];by_cases e2:kind=2
 ·subst e2;have hab:=hr.ab _ (List.getElem_mem h);have hfl:=hab.flip (hk2 rfl);have hhand:r.ai[act].hand=0∨r.ai[act].hand=1:=hab.hand;have hwh:IntKind.i64.wrap (1-r.ai[act].hand)=1-r.ai[act].hand:=dh (by omega) (by omega);have B:=FC (c:=28) (H:=[(3,aR r),(28685, .arr 9 ((r.ai.map ak.row).set act ({r.ai[act]with hand:=1-r.ai[act].hand}:ak).row) r.ai.length false)]::H) hr h hp (by simp);have M:=fun c (H:aj) (hH:0<H.length)=>yN (c:=c) (H:=H) (It hr r.ai[act]) hr.w hfl hH;rw [if_pos rfl];simp only [aR,ak.row]at B;rw [eE]at B;obtain⟨a',ha'⟩: ∃a':ak,{r.ai[act]with hand:=1-r.ai[act].hand}=a':=⟨_,rfl⟩;have hrow:(r.ai.map ak.row).set act [.int .i64 r.ai[act].a7, .int .i64 r.ai[act].aN, .int .i64 r.ai[act].kind, .int .i64 (1-r.ai[act].hand), .int .i64 r.ai[act].bd, .int .i64 r.ai[act].cell, .int .i64 r.ai[act].other, .int .i64 r.ai[act].bZ, .int .i64 r.ai[act].gz]=(r.ai.set act a').map ak.row:=by
   rw [List.map_set,←ha'];rfl
  obtain⟨T,hT⟩: ∃T,(r.ai.set act a').map ak.row=T:=⟨_,rfl⟩;have hTl:T.length=r.ai.length:=(by rw [←hT];simp);have hTg: ∀h,T[act]'h=a'.row:=fun h=>(by simp only [←hT,List.getElem_map,List.getElem_set_self]);have hT9:=w9 (r.ai.set act a');rw [hT]at hrow hT9;rw [hrow]at B;have D2:=D T r.ai.length hTl (Nat.le_refl _) hT9;have ee:r.ai.eraseIdx act=r.ai.take act++r.ai.drop (act+1):=List.eraseIdx_eq_take_drop_succ ..;have tkd:List.take act T=(r.ai.take act).map ak.row:=by
   rw [←hT,←List.map_take,List.take_set_of_le (Nat.le_refl _)]
  have drd:List.drop (act+1) T=(r.ai.drop (act+1)).map ak.row:=by
   rw [←hT,←List.map_drop,List.drop_set_of_lt (by omega)]
  rw [ha']at M⊢;simp only [ak.row]at M hTg
  cases hpos:bV r (Ck r r.ai[act]) r.ai[act].aN.toNat a' with
  |true=>
   rw [hpos]at M;simp [C,ak.row,h,hwh,aD,hrow,B,M,hTl,hTg];rw [ae (by simp)];have tl:List.take r.ai.length T=(r.ai.set act a').map ak.row:=(by rw [hT];exact List.take_of_length_le (by omega));simp [hnl,hTl,tl];rfl
  |false=>
   rw [hpos]at M;simp [C,ak.row,h,hwh,aD,hrow,B,M,hTl,hTg,D2,hw];rw [ae (by simp)];have tl:List.take (r.ai.length-1) (List.take act T++(List.drop (act+1) T++[A8]))=(r.ai.eraseIdx act).map ak.row:=by
    rw [tkd,drd,ee,List.map_append,←List.append_assoc];exact List.take_left' (by simp only [List.length_append,List.length_map,List.length_take,List.length_drop];omega)
   have ml:min act r.ai.length+(r.ai.length-(act+1)+1)=r.ai.length:=(by omega);simp [hnl,tl,ml,hTl]
 ·have e2':(kind==2)=false:=(by simpa using e2);rw [if_neg e2];by_cases e3:kind=3
  ·subst e3;rw [if_pos rfl,show r.ai.take act++(r.ai.drop act).map (late r.ai[act].aN)=lR r.ai act r.ai[act].aN from rfl]
   have hn6:r.ai.length≤1000000:=(by omega);have hk6:act+(r.ai.length-act)=r.ai.length:=(by omega);have L:=fun Q h1=>Is (H:=H) r (r.ai[act]'h).aN h hn6 tm Q h1 (r.ai.length-act) act 0 hk6 (Nat.le_refl _) (Nat.zero_le _);rw [Nb _ _ _ (by omega)]at L;simp only [aR]at L;have hll:=kN r.ai act r.ai[act].aN (by omega);simp [C,h,ak.row];refine L _ fun v hv=> ?_;obtain⟨v',hv',S⟩:=FA (c:=65) (H:=[(3,aR r),(28685, .arr 9 ((lR r.ai act r.ai[act].aN).map ak.row) v false)]::H) (nm:=(H.length,28685)) (v:=v) (lR r.ai act r.ai[act].aN) hll h20 (by simp) hv;simp [aR]at S;simp [S];rw [ae (by simp)];have tl:List.take r.ai.length ((dY (lR r.ai act r.ai[act].aN)).map ak.row)=(dY (lR r.ai act r.ai[act].aN)).map ak.row:=List.take_of_length_le (by rw [List.length_map,kI,hll];exact Nat.le_refl _);have sl:(dY (lR r.ai act r.ai[act].aN)).length=r.ai.length:=(by rw [kI,hll]);simp [hnl,tl,sl,hv']
  ·have e3':(kind==3)=false:=(by simpa using e3);rw [if_neg e3];have D1:=D (r.ai.map ak.row) 0 (by simp) (Nat.zero_le _) (w9 _);have ee:r.ai.eraseIdx act=r.ai.take act++r.ai.drop (act+1):=List.eraseIdx_eq_take_drop_succ ..;simp [C,D1,e2',e3',hw];rw [ae (by simp)];have tl:List.take (r.ai.length-1) (List.take act (r.ai.map ak.row)++(List.drop (act+1) (r.ai.map ak.row)++[A8]))=(r.ai.eraseIdx act).map ak.row:=by
    rw [ee,List.map_append,List.map_take,List.map_drop,←List.append_assoc];exact List.take_left' (by rw [List.length_append,List.length_take,List.length_drop,List.length_map];omega)
   have ml:min act r.ai.length+(r.ai.length-(act+1)+1)=r.ai.length:=(by omega);simp [hnl,tl,ml]
end
section
variable {c:Nat} {H:aj}
end
section
variable {c:Nat} {H:aj}
theorem Ib {nm:Nm}{es:Nat}{rows:List (List PV)}(h:rows≠[]→ ∃v ro,v≤rows.length∧H.get nm=some (.arr es rows v ro)):Cr H (dG nm es rows) (.slice rows):=by
 unfold dG;by_cases hr:rows=[]
 ·subst hr;rw [if_pos rfl];simp
 ·rw [if_neg hr];obtain⟨v,ro,a,b⟩:=h hr;exact⟨rows,v,ro,b,a,rfl,rfl,rfl,rfl⟩
end
section
variable {c:Nat} {H:aj}
end
section
variable {c:Nat} {H:aj}
end
section
variable {c:Nat} {H:aj}
end
section
variable {c:Nat} {H:aj}
end
section
theorem A9 {r:aA}{s:aw}: ∀{g p:List ak} {tk:List (Int×Int)} {nx:aw} {i:Nat},wU s p tk→qX r s (p++g)→nx=kW s p→cJ r s g tk nx i=(kW s (p++g),0,0)
 | [],p,tk,nx,i,_,hG,hn=>by rw [List.append_nil];unfold cJ;rw [hn]
 |a::g,p,tk,nx,i,hT,hG,hn=>by
  have ha:=hG.ab a (by simp);have hd: ∀x∈gd s a.aN.toNat a,x∉tk:=fun x hx h=>by
   obtain⟨b,hb,hy⟩:=(hT x).1 h;have:=(List.pairwise_append.1 hG.ap).2.2 b hb a (List.mem_cons_self ..);exact u4.1 this x hy hx
  unfold cJ;rw [if_neg (by rw [ha.2];simp),if_pos hd,A9 (p:=p++[a]) hT.snoc (by rw [List.append_assoc];exact hG) (by rw [hn,iR];rfl),List.append_assoc];rfl
noncomputable def zn:aw→List (List ak)→List aw
 |_,[]=> []
 |s,g::gs=>kW s g::zn (kW s g) gs
theorem Ba {r:aA}: ∀(gs:List (List ak)) (k:Nat) (s:aw) (i:Nat),JC r s gs→(gs.Pairwise fun g h=> ∀a∈g,∀b∈h,a.a7<b.a7)→gs.flatten.length≤k→bw r k s gs.flatten i=(zn s gs,kW s gs.flatten,-1,0)
 | [],k,s,i,_,_,_=>by cases k<;>rfl
 |g::gs,k,s,i,hT,hP,hk=>by
  obtain⟨⟨hG,hne,hat⟩,hT'⟩:=hT;obtain⟨a,g',rfl⟩:=List.exists_cons_of_ne_nil hne;have hP':=List.pairwise_cons.1 hP;obtain⟨k,rfl⟩: ∃k',k=k'+1:=⟨k-1,by simp at hk;omega⟩;have htw:((a::g')++gs.flatten).takeWhile (aY a)=a::g':=by
   have h1: ∀b∈a::g',aY a b=true:=fun b hb=>by
    unfold aY;simp [hat b hb a (List.mem_cons_self ..)]
   rw [List.takeWhile_append_of_pos h1];have h2:gs.flatten.takeWhile (aY a)=[]:=by
    cases hf:gs.flatten with
    |nil=>rfl
    |cons b l=>
     have hb:b∈gs.flatten:=(by rw [hf];exact List.mem_cons_self ..);obtain⟨h,hh,hb⟩:=List.mem_flatten.1 hb;have:=hP'.1 h hh a (List.mem_cons_self ..) b hb;rw [List.takeWhile_cons,if_neg];unfold aY;simp;omega
   rw [h2,List.append_nil]
  have m:=A9 (r:=r) (s:=s) (g:=a::g') (p:=[]) (tk:=[]) (nx:=s) (i:=0) (fun x=>by simp) hG rfl;rw [List.nil_append]at m;have ih:=Ba gs k (kW s (a::g')) (i+(a::g').length) hT' hP'.2 (by simp at hk⊢;omega);rw [List.flatten_cons];conv=>lhs;rw [show (a::g')++gs.flatten=a::(g'++gs.flatten)from rfl]
  unfold bw;simp only;rw [show a::(g'++gs.flatten)=(a::g')++gs.flatten from rfl,htw,m]
  simp only [ne_eq,not_true_eq_false,if_false];rw [List.drop_left,ih,iR];rfl
theorem zo {r:aA}: ∀{gs:List (List ak)} {s:aw},JC r s gs→ ∀g∈gs,∃s',qX r s' g∧ ∀a∈g,∀b∈g,a.a7=b.a7
 | [],_,_,_,h=>by simp at h
 |g0::gs,s,h,g,hg=>by
  rcases List.mem_cons.1 hg with rfl|hg
  ·exact⟨s,h.1.1,h.1.2.2⟩
  ·exact zo h.2 g hg
theorem x8 {s:aw}{w:Nat}{a:ak}:a.aN∈(cd s w a).ah:=by
 rw [dL]
 repeat' split
 all_goals simp
theorem Nd {r:aA}{gs:List (List ak)}{s:aw}(h:JC r s gs)(hP:gs.Pairwise fun g h=> ∀a∈g,∀b∈h,a.a7<b.a7):gs.flatten.Pairwise fun a b=>a.a7≤b.a7∧(a.a7=b.a7→a.aN≠b.aN):=by
 rw [List.pairwise_flatten];refine⟨fun g hg=> ?_,hP.imp fun {g h} q x hx y hy=>⟨by have:=q x hx y hy;omega,fun e=>by have:=q x hx y hy;omega⟩⟩;obtain⟨s',hG,hat⟩:=zo h g hg;refine hG.ap.imp_of_mem fun {a b} ha hb q=>⟨by have:=hat a ha b hb;omega,fun _ e=> ?_⟩;exact q.ap a.aN x8 (by rw [e];exact x8)
section
variable {r0:aA} {ai:List ak} {s:aw}
theorem C7 (i:Nat):((fH r0 ai s).aa.getD i df).pQ=(r0.aa.getD i df).pQ:=by
 show ((kB r0.aa s.aa r0.aa.length).getD i df).pQ=_
 by_cases h:i<r0.aa.length
 ·rw [aM (by rw [mq];exact h),aM h,jZ _ _ _ _ h,if_pos h];rfl
 ·simp [List.getD_eq_getElem?_getD,kB,h]
theorem Iu {x:aw}{w:Nat}{a:ak}:bV (fH r0 ai s) x w a=bV r0 x w a:=by
 rw [dP,dP,C7];rfl
theorem zp:(fH r0 ai s).aa.length=r0.aa.length:=mq _ _ _
theorem Ep {w:Nat}{a:ak}(h:AB r0 w a):AB (fH r0 ai s) w a:=
 ⟨h.aN,h.wl,h.hand,h.kind,fun k=>by rw [zp];exact h.take k,h.pL,h.step,h.form⟩
theorem C8:aF (fH r0 ai s)=aF r0:=by
 unfold aF;have:(fH r0 ai s).aa.map eW=r0.aa.map eW:=by
  show (kB r0.aa s.aa r0.aa.length).map eW=_
  refine List.ext_getElem (by simp [kB]) fun j h1 h2=> ?_;have hj:j<r0.aa.length:=(by simpa using h2);rw [List.getElem_map,List.getElem_map,jZ _ _ _ _ hj,if_pos hj];rfl
 rw [this];rfl
theorem Iv {x:aw}{g:List ak}(h:qX r0 x g):qX (fH r0 ai s) x g:=⟨fun a ha=>⟨Ep (h.ab a ha).1,by rw [Iu];exact(h.ab a ha).2⟩,h.ap⟩
theorem Bb: ∀{gs:List (List ak)} {x:aw},JC r0 x gs→JC (fH r0 ai s) x gs
 | [],_,_=>trivial
 |g::gs,x,h=>⟨⟨Iv h.1.1,h.1.2⟩,Bb h.2⟩
end
end
section
theorem jN {g:Nat→Int}: ∀{k i:Nat},(∀j,i≤j→j<i+k→g j=0)→bR g k i=0
 |0,_,_=>rfl
 |k+1,i,h=>by
  unfold bR;rw [h i (Nat.le_refl _) (by omega)];simp;exact jN fun j a b=>h j (by omega) (by omega)
theorem cV {x lo hi:Int}(h1:lo≤x)(h2:x≤hi):dc x lo hi=true:=by simp [dc,h1,h2]
theorem uM {w d:Int}(h1:1≤w*d)(h2:w*d≤1000000):cU w d=w*d-1:=by
 rw [Ap,dh (x:=w*d) (by omega) (by omega),dh (x:=w*d-1) (by omega) (by omega)]
theorem sJ {r:aA}{w:Nat}{a:ak}(h:AB r w a)(h1:1≤r.wide*r.deep)(h2:r.wide*r.deep≤1000000):dV (cU r.wide r.deep) r.aa.length r.ah.length a=0:=by
 have hk:=h.kind;have hh:=h.hand;rw [ov,if_neg (by rw [cV hk.1 hk.2];simp),if_neg (by rw [h.form];simp),if_neg,if_neg (by rw [cV (by omega) (by omega)];simp),if_neg,if_neg,if_neg]
 ·rintro⟨k,e⟩;obtain⟨o,ho,_,hne⟩:=h.pL k;rw [ho,h.aN]at e;exact hne (by omega)
 ·rintro⟨k,e⟩;obtain⟨o,ho,hl,_⟩:=h.pL k;rw [ho,cV (by omega) (by omega)]at e;cases e
 ·rintro⟨k,e⟩;obtain⟨t,ht,hl⟩:=h.take k;rw [ht,cV (by omega) (by omega)]at e;cases e
 ·rintro⟨k,e⟩;obtain⟨c1,c2⟩:=h.step k;rw [uM h1 h2,cV c1 (by omega)]at e;cases e
section
variable {r0:aA} {ai:List ak} {s:aw} {m:Nat}
theorem mw.AB (h:mw r0 ai s m): ∀a∈ai,AB r0 a.aN.toNat a:=fun a ha=>by
 obtain⟨t,hM,_⟩:=h.made;obtain⟨gs,e,hT,_⟩:=hM.gs;rw [e]at ha;obtain⟨g,hg,ha⟩:=List.mem_flatten.1 ha;obtain⟨s',hG,_⟩:=zo hT g hg;exact(hG.ab a ha).1
theorem mw.qm (h:mw r0 ai s m):1≤r0.wide*r0.deep∧r0.wide*r0.deep≤9:=by
 obtain⟨n,hb,hn⟩:=Og h.room;have:=hb.n0;have:=hb.n9;omega
theorem mw.empty (h:mw r0 ai s m):s.ao=s.ao.map fun _=>empty:=by
 obtain⟨t,hM,_⟩:=h.made;refine List.ext_getElem (by simp) fun j h1 h2=> ?_;have hj:j<r0.ah.length:=(by rw [←hM.snd.hl];exact h1);have a:=h.ao j 0 hj (.inl rfl);have b:=h.ao j 1 hj (.inr rfl);unfold aU at a b;rw [aM h1]at a b;simp at a b;rw [List.getElem_map];cases hh:s.ao[j];rw [hh]at a b;simp only at a b;rw [a,b];rfl
theorem x9: ∀{l:List aH} {t:Nat},l=l.map (fun _=>empty)→fM l t=0
 | [],_,_=>rfl
 |x::l,t,h=>by
  rw [List.map_cons]at h;obtain⟨h1,h2⟩:=List.cons.inj h;have hn: ¬(-1:Int)=t:=(by omega);simp only [fM];rw [x9 h2,h1];simp [uo,Go.Gh.empty,hn]
theorem mw.ends (h:mw r0 ai s m)(t:Nat)(ht:t<r0.aa.length):(0≤(s.aa.getD t aS).cell∧(s.aa.getD t aS).cell<r0.wide*r0.deep)∧0≤(s.aa.getD t aS).state∧(s.aa.getD t aS).state<16:=by
 obtain⟨_,hM,_⟩:=h.made;have ht':t<s.aa.length:=(by rw [hM.snd.tl];exact ht);rcases hM.snd.th t ht' with ⟨a,_⟩|⟨_,a⟩
 ·rw [x9 h.empty]at a;cases a
 ·exact⟨a,hM.snd.st t ht'⟩
theorem CM (h:mw r0 ai s m)(hm:m≤40):cB (fH r0 ai s)=0:=by
 have A:=h.qm;have R:=h.room;have ar1:1≤(fH r0 ai s).wide*(fH r0 ai s).deep:=A.1;obtain⟨t,hM,htm⟩:=h.made;obtain⟨gs,e,hT,hP⟩:=hM.gs;have hpw:=Nd hT hP;rw [←e]at hpw;have top:cU r0.wide r0.deep=r0.wide*r0.deep-1:=uM A.1 (by omega);have tl:(fH r0 ai s).aa.length=r0.aa.length:=zp;have hp0:0<r0.ah.length:=List.length_pos_iff.2 R.p0;have room:ld (fH r0 ai s)=0:=by
  rw [mD,tl];show (if dc r0.wide 1 6=false∨dc r0.deep 1 6=false then (2:Int)else if r0.ah.length=0 then 6 else if 4<r0.ah.length then 8 else if bR (iL (cU r0.wide r0.deep) r0.ah) r0.ah.length 0≠0 then bR (iL (cU r0.wide r0.deep) r0.ah) r0.ah.length 0 else if 8<r0.aa.length then 8 else if bR (ko (cU r0.wide r0.deep) (fH r0 ai s).aa) r0.aa.length 0≠0 then bR (ko (cU r0.wide r0.deep) (fH r0 ai s).aa) r0.aa.length 0 else if bR (nZ (fun x=>dc x 0 (cU r0.wide r0.deep)) 7 r0.seen) r0.seen.length 0≠0 then bR (nZ (fun x=>dc x 0 (cU r0.wide r0.deep)) 7 r0.seen) r0.seen.length 0 else bR (nZ (fun x=>dc x 1 3) 4 r0.br) r0.br.length 0)=0
  have e1:=R.w1;have e2:=R.w3;have e3:=R.d1;have e4:=R.d3;have e5:=R.p3;have e6:=R.t4;have f1:bR (iL (cU r0.wide r0.deep) r0.ah) r0.ah.length 0=0:=jN fun j _ hj=>by
   have hj':j<r0.ah.length:=(by omega);have pc:=R.pc _ (List.getElem_mem hj');rw [ou,aM hj',cV pc.1.1 pc.1.2,top,cV pc.2.1 (by omega)];simp only [Bool.true_eq_false,if_false];rw [if_neg];intro hs;unfold eJ at hs;rw [List.any_eq_true]at hs;obtain⟨q,hq,he⟩:=hs;obtain⟨i,hi,rfl⟩:=List.mem_take_iff_getElem.1 hq;have hij:i<j:=(by omega);have hil:i<r0.ah.length:=(by omega);have:=List.pairwise_iff_getElem.1 R.pn i j (by simpa using hil) (by simpa using hj') hij;simp at this he;exact this he
  have f2:bR (ko (cU r0.wide r0.deep) (fH r0 ai s).aa) r0.aa.length 0=0:=jN fun j _ hj=>by
   have hj':j<r0.aa.length:=(by omega);have tc:=R.tc _ (List.getElem_mem hj');obtain⟨t1,t2,t3,t4,t5,t6⟩:=tc;have E:=h.ends j hj';have g:(fH r0 ai s).aa.getD j ⟨0,0,0,0,false⟩=z9 r0.aa[j] (s.aa.getD j aS):=by
    show (kB r0.aa s.aa r0.aa.length).getD j _=_
    rw [aM (by rw [mq];exact hj'),jZ _ _ _ _ hj',if_pos hj']
   have x1:dc r0.aa[j].cell 0 (r0.wide*r0.deep-1)=true:=cV t1 (by omega);have x2:dc (s.aa.getD j aS).cell 0 (r0.wide*r0.deep-1)=true:=cV E.1.1 (by omega);have x3:dc r0.aa[j].state 0 15=true:=cV t3 (by omega);have x4:dc (s.aa.getD j aS).state 0 15=true:=cV E.2.1 (by omega);generalize s.aa.getD j aS=sp at g x2 x4;rw [qj,g,top];simp [z9,x1,x2,x3,x4]
  have f3:bR (nZ (fun x=>dc x 1 3) 4 r0.br) r0.br.length 0=0:=jN fun j _ hj=>by
   have hj':j<r0.br.length:=(by omega);have lr:=R.lr _ (List.getElem_mem hj');rw [vp,aM hj',cV lr.1 (by omega)];simp only [Bool.true_eq_false,if_false];rw [if_neg];rintro⟨h0,hle⟩;rw [aM (by omega)]at hle;have:=List.pairwise_iff_getElem.1 R.lp (j-1) j (by omega) hj' (by omega);omega
  rw [cV e1 (by omega),cV e3 (by omega),f1,f2,f3,R.seen];rw [if_neg (by simp),if_neg (by omega),if_neg (by omega),if_neg (by simp),if_neg (by omega),if_neg (by simp)];simp [bR]
 rw [jM,room];have hl: ¬40<(fH r0 ai s).ai.length:=by show¬40<ai.length;have:=h.len;omega
 rw [if_neg (by simp),if_neg hl];refine jN fun j _ hj=> ?_;have hj':j<ai.length:=(by have:(fH r0 ai s).ai.length=ai.length:=rfl;omega);have hA:=h.AB _ (List.getElem_mem hj');have hz:=hM.z _ (List.getElem_mem hj');have hlt:=hM.lt _ (List.getElem_mem hj');have hF:=sJ (Ep (ai:=ai) (s:=s) hA) ar1 (by show r0.wide*r0.deep≤_;omega)
 have hwl:=hA.wl;have hwho:=hA.aN;rw [oB];show (if dc (ai.getD j bH).a7 0 1000=false then (2:Int)else if 0<j∧(ai.getD j bH).a7<(ai.getD (j-1) bH).a7 then 11 else if dc (ai.getD j bH).aN 0 ((r0.ah.length:Int)-1)=false then 7 else if (ai.take j).any (kq (ai.getD j bH))=true then 12 else if dV (cU (fH r0 ai s).wide (fH r0 ai s).deep) (fH r0 ai s).aa.length (fH r0 ai s).ah.length (ai.getD j bH)≠0 then dV (cU (fH r0 ai s).wide (fH r0 ai s).deep) (fH r0 ai s).aa.length (fH r0 ai s).ah.length (ai.getD j bH)else if dc (ai.getD j bH).bZ 0 15=false∨dc (ai.getD j bH).gz 0 9=false then 2 else 0)=0
 rw [aM hj',cV hz.1 (by omega),cV (x:=ai[j].aN) (by omega) (by omega),hF,hz.2.1,hz.2.2];simp only [Bool.true_eq_false,if_false];rw [if_neg,if_neg]
 ·simp [dc]
 ·intro hs;rw [List.any_eq_true]at hs;obtain⟨q,hq,he⟩:=hs;obtain⟨i,hi,rfl⟩:=List.mem_take_iff_getElem.1 hq;have hil:i<ai.length:=(by omega);have:=List.pairwise_iff_getElem.1 hpw i j hil hj' (by omega);unfold kq at he;simp at he;exact this.2 he.1 he.2
 ·rintro⟨h0,hle⟩;rw [aM (by omega)]at hle;have:=(List.pairwise_iff_getElem.1 hpw (j-1) j (by omega) hj' (by omega)).1;omega
theorem Ie (h:mw r0 ai s m): ∃gs:List (List ak),ai=gs.flatten∧JC r0 (aF r0) gs∧(gs.Pairwise fun g h=> ∀a∈g,∀b∈h,a.a7<b.a7)∧s=kW (aF r0) ai∧
  dw (fH r0 ai s)=(aF r0::zn (aF r0) gs,s,-1,0):=by
 obtain⟨t,hM,_⟩:=h.made;obtain⟨gs,e,hT,hP⟩:=hM.gs;refine⟨gs,e,hT,hP,hM.sc, ?_⟩;have run:=Ba (r:=fH r0 ai s) gs ai.length (aF r0) 0 (Bb hT) hP (by rw [←e];exact Nat.le_refl _);rw [←e,←hM.sc]at run;have ho:og (fH r0 ai s) s=true:=by
  rw [ru,decide_eq_true h.empty,Bool.true_and];refine decide_eq_true fun i hi=> ?_;have hi':i<r0.aa.length:=(by rwa [zp]at hi);have g:(fH r0 ai s).aa.getD i df=z9 r0.aa[i] (s.aa.getD i aS):=by
   show (kB r0.aa s.aa r0.aa.length).getD i _=_
   rw [aM (by rw [mq];exact hi'),jZ _ _ _ _ hi',if_pos hi']
  rw [g];rfl
 unfold dw;simp only [C8];rw [show (fH r0 ai s).ai=ai from rfl,run]
 simp [ho]
end
end
theorem im {g:Nat→Int}: ∀{k i:Nat},bR g k i=0→ ∀j,i≤j→j<i+k→g j=0
 |0,_,_=>fun j a b=>by omega
 |k+1,i,h=>fun j a b=>by
  unfold bR at h;by_cases h0:g i=0
  ·by_cases e:j=i
   ·rw [e];exact h0
   ·refine im (k:=k) (i:=i+1) ?_ j (by omega) (by omega);simpa [h0]using h
  ·simp [h0]at h
theorem gj {x lo hi:Int}(h:dc x lo hi≠false):lo≤x∧x≤hi:=by
 cases e:dc x lo hi with
 |false=>exact absurd e h
 |true=>exact pB.1 e
theorem b9 {p:Prop} [Decidable p]{a b:Int}(ha:a≠0)(h:(if p then a else b)=0): ¬p∧b=0:=by
 by_cases hp:p
 ·rw [if_pos hp]at h;exact absurd h ha
 ·rw [if_neg hp]at h;exact⟨hp,h⟩
theorem ite_self {a b:Int}(h:(if a≠0 then a else b)=0):a=0∧b=0:=by
 by_cases hp:a≠0
 ·rw [if_pos hp]at h;exact absurd h hp
 ·rw [if_neg hp]at h;exact⟨by simpa using hp,h⟩
structure vW (r:aA):Prop where
 w:1≤r.wide∧r.wide≤6
 d:1≤r.deep∧r.deep≤6
 p0:r.ah≠[]
 p4:r.ah.length≤4
 t8:r.aa.length≤8
 pc: ∀p∈r.ah,0≤p.cell∧p.cell<r.wide*r.deep
 pn:(r.ah.map (·.cell)).Nodup
 tc: ∀t∈r.aa,(0≤t.cell∧t.cell<r.wide*r.deep)∧0≤t.state∧t.state<16
 ls: ∀x∈r.br,1≤x∧x≤3
theorem vW.qm {r:aA}(h:vW r):1≤r.wide*r.deep∧r.wide*r.deep≤36:=by
 have h1:=h.w;have h2:=h.d;constructor
 ·have:=Int.mul_le_mul h1.1 h2.1 (by omega) (by omega);omega
 ·have:=Int.mul_le_mul h1.2 h2.2 (by omega) (by omega);omega
theorem Eg {r:aA}(h:ld r=0):vW r:=by
 rw [mD]at h;obtain⟨h1,h⟩:=b9 (by decide) h;obtain⟨h2,h⟩:=b9 (by decide) h;obtain⟨h3,h⟩:=b9 (by decide) h;obtain⟨h4,h⟩:=ite_self h;obtain⟨h5,h⟩:=b9 (by decide) h;obtain⟨h6,h⟩:=ite_self h;obtain⟨h7,h8⟩:=ite_self h;have w:=gj (fun e=>h1 (.inl e));have d:=gj (fun e=>h1 (.inr e));have ar:1≤r.wide*r.deep∧r.wide*r.deep≤36:=by
  constructor
  ·have:=Int.mul_le_mul w.1 d.1 (by omega) (by omega);omega
  ·have:=Int.mul_le_mul w.2 d.2 (by omega) (by omega);omega
 have top:cU r.wide r.deep=r.wide*r.deep-1:=uM ar.1 (by omega);rw [top]at h4 h6;have P: ∀j (hj:j<r.ah.length),(0≤r.ah[j].cell∧r.ah[j].cell<r.wide*r.deep)∧eJ r.ah j r.ah[j].cell=false:=fun j hj=>by
  have e:=im h4 j (Nat.zero_le _) (by omega);rw [ou,aM hj]at e;obtain⟨_,e⟩:=b9 (by decide) e;obtain⟨e2,e⟩:=b9 (by decide) e;obtain⟨e3,_⟩:=b9 (by decide) e;have:=gj e2;exact⟨⟨this.1,by omega⟩,by simpa using e3⟩
 refine⟨w,d,fun e=>h2 (by rw [e];rfl),by omega,by omega,fun p hp=> ?_, ?_,fun t ht=> ?_,fun x hx=> ?_⟩
 ·obtain⟨j,hj,rfl⟩:=List.getElem_of_mem hp;exact(P j hj).1
 ·rw [List.Nodup,List.pairwise_iff_getElem];intro i j hi hj hij;simp only [List.length_map]at hi hj;simp only [List.getElem_map];intro e;have:=(P j hj).2;unfold eJ at this;rw [List.any_eq_false]at this;exact this r.ah[i] (List.mem_take_iff_getElem.2 ⟨i,by omega,rfl⟩) (by simpa using e)
 ·obtain⟨j,hj,rfl⟩:=List.getElem_of_mem ht;have e:=im h6 j (Nat.zero_le _) (by omega);rw [qj,aM hj]at e;obtain⟨e1,e⟩:=b9 (by decide) e;obtain⟨e2,_⟩:=b9 (by decide) e;have a:=gj (fun x=>e1 (.inl x));have b:=gj (fun x=>e2 (.inl x));exact⟨⟨a.1,by omega⟩,b.1,by omega⟩
 ·obtain⟨j,hj,rfl⟩:=List.getElem_of_mem hx;have e:=im h8 j (Nat.zero_le _) (by omega);rw [vp,aM hj]at e;obtain⟨e1,_⟩:=b9 (by decide) e;exact gj e1
theorem Nf {r:aA}(h:vW r){a:ak}(hw:0≤a.aN∧a.aN<r.ah.length)(hf:dV (cU r.wide r.deep) r.aa.length r.ah.length a=0):AB r a.aN.toNat a:=by
 have ar:=h.qm;rw [uM ar.1 (by omega),ov]at hf;obtain⟨h1,hf⟩:=b9 (by decide) hf;obtain⟨h2,hf⟩:=b9 (by decide) hf;obtain⟨h3,hf⟩:=b9 (by decide) hf;obtain⟨h4,hf⟩:=b9 (by decide) hf;obtain⟨h5,hf⟩:=b9 (by decide) hf;obtain⟨h6,hf⟩:=b9 (by decide) hf;obtain⟨h7,_⟩:=b9 (by decide) hf;have k:=gj h1;have hd:=gj h4;refine⟨by omega,by omega,by omega,k,fun e=> ?_,fun e=> ?_,fun e=> ?_,by simpa using h2⟩
 ·have:=gj (fun x=>h5 ⟨e,x⟩);exact⟨a.bd.toNat,by omega,by omega⟩
 ·have:=gj (fun x=>h6 ⟨e,x⟩);have h7': ¬a.other=a.aN:=fun x=>h7 ⟨e,x⟩;exact⟨a.other.toNat,by omega,by omega,by omega⟩
 ·have:=gj (fun x=>h3 ⟨e,x⟩);exact⟨this.1,by omega⟩
structure ZN (r:aA):Prop where
 n:r.ai.length≤40
 ab: ∀a∈r.ai,AB r a.aN.toNat a
 tm: ∀a∈r.ai,0≤a.a7∧a.a7≤1000
 pw:r.ai.Pairwise fun a b=>a.a7≤b.a7∧(a.a7=b.a7→a.aN≠b.aN)
theorem uE {r:aA}(h:cB r=0):vW r∧ZN r:=by
 rw [jM]at h;obtain⟨h1,h⟩:=ite_self h;obtain⟨h2,h⟩:=b9 (by decide) h;have R:=Eg h1;have A: ∀j (hj:j<r.ai.length),AB r r.ai[j].aN.toNat r.ai[j]∧(0≤r.ai[j].a7∧r.ai[j].a7≤1000)∧(0<j→(r.ai.getD (j-1) bH).a7≤r.ai[j].a7)∧(r.ai.take j).any (kq r.ai[j])=false:=fun j hj=>by
  have e:=im h j (Nat.zero_le _) (by omega);rw [oB,aM hj]at e;obtain⟨e1,e⟩:=b9 (by decide) e;obtain⟨e2,e⟩:=b9 (by decide) e;obtain⟨e3,e⟩:=b9 (by decide) e;obtain⟨e4,e⟩:=b9 (by decide) e;obtain⟨e5,e⟩:=ite_self e;have w:=gj e3;refine⟨Nf R ⟨w.1,by omega⟩ e5,gj e1,fun h0=> ?_,by simpa using e4⟩;have: ¬r.ai[j].a7<(r.ai.getD (j-1) bH).a7:=fun x=>e2 ⟨h0,x⟩;omega
 have mono: ∀i j (hi:i<r.ai.length) (hj:j<r.ai.length),i<j→r.ai[i].a7≤r.ai[j].a7:=fun i j=>by
  induction j with
  |zero=>intro _ _ h;omega
  |succ j ih=>
   intro hi hj hij;have s:=(A (j+1) hj).2.2.1 (by omega);rw [Nat.add_sub_cancel,aM (by omega)]at s;by_cases e:i=j
   ·subst e;exact s
   ·have:=ih hi (by omega) (by omega);omega
 refine⟨R,by omega,fun a ha=> ?_,fun a ha=> ?_, ?_⟩
 ·obtain⟨j,hj,rfl⟩:=List.getElem_of_mem ha;exact(A j hj).1
 ·obtain⟨j,hj,rfl⟩:=List.getElem_of_mem ha;exact(A j hj).2.1
 ·rw [List.pairwise_iff_getElem];intro i j hi hj hij;refine⟨mono i j hi hj hij,fun e1 e2=> ?_⟩;have:=(A j hj).2.2.2;rw [List.any_eq_false]at this;refine this r.ai[i] (List.mem_take_iff_getElem.2 ⟨i,by omega,rfl⟩) ?_;unfold kq;simp [e1,e2]
theorem C9 {r:aA}(h:vW r):fR r (aF r):=by
 have ce: ∀l:List aW,∀t:Nat,fM (l.map fun _=>empty) t=0:=fun l t=>by
  induction l with
  |nil=>rfl
  |cons a l ih=>
   have: ¬(-1:Int)=t:=(by omega);simp only [List.map_cons,fM,ih];simp [uo,empty,this]
 refine {pl:=by simp [aF],hl:=by simp [aF],tl:=by simp [aF],hr:=fun i hi=> ?_,pr:=fun x hx=> ?_,pn:=h.pn,th:=fun t ht=> ?_,st:=fun t ht=> ?_}
 ·simp only [aF,List.getElem_map,empty,List.length_map];omega
 ·simp only [aF,List.mem_map]at hx;obtain⟨p,hp,rfl⟩:=hx;exact h.pc p hp
 ·have ht':t<r.aa.length:=(by simpa [aF]using ht);have e:((aF r).aa.getD t aS)=eW r.aa[t]:=by
   rw [aM ht];simp [aF]
  rw [e];exact .inr ⟨ce _ _,(h.tc _ (List.getElem_mem ht')).1.1,(h.tc _ (List.getElem_mem ht')).1.2⟩
 ·have ht':t<r.aa.length:=(by simpa [aF]using ht);have e:((aF r).aa.getD t aS)=eW r.aa[t]:=by
   rw [aM ht];simp [aF]
  rw [e];exact⟨(h.tc _ (List.getElem_mem ht')).2.1,(h.tc _ (List.getElem_mem ht')).2.2⟩
theorem zq {r:aA}(h:cB r=0)(sh:iG r):CU r:=by
 obtain⟨R,A⟩:=uE h;have ar:=R.qm;have w:=R.w;have:=R.p4;have:=R.t8;have:=A.n;exact {w:=⟨w.1,by omega,by omega,by omega,by omega⟩,snd:=C9 R,p0:=R.p0,al:=by omega,ab:=A.ab,sh:=sh,ck:=h}
section
variable {c:Nat} {H:aj}
theorem sK {r:aA}: ∀(k:Nat) (s:aw) (ai:List ak) (i:Nat),(s::(bw r k s ai i).1).getD (bw r k s ai i).1.length s=(bw r k s ai i).2.1
 |0,s,_,_=>rfl
 |_+1,s,[],_=>rfl
 |k+1,s,a::rest,i=>by
  unfold bw;simp only;split
  ·rfl
  ·rename_i h;have:=sK (r:=r) k (cJ r s ((a::rest).takeWhile (aY a)) [] s 0).1 ((a::rest).drop ((a::rest).takeWhile (aY a)).length) (i+((a::rest).takeWhile (aY a)).length);rw [←this];simp [List.getD_eq_getElem?_getD]
end
section
variable {c:Nat} {H:aj}
end
section
variable {c:Nat} {H:aj}
end
section
variable {c:Nat} {H:aj}
noncomputable def Ng (r:aA):PV:= .tuple (if cB r=0 then (if (dw r).2.2.2=0 then [.agg (dw r).2.1.row, .int .i64 (-1), .int .i64 0]else [.agg [.slice [], .slice [], .slice []], .int .i64 (dw r).2.2.1, .int .i64 (dw r).2.2.2])else [.agg [.slice [], .slice [], .slice []], .int .i64 0, .int .i64 (cB r)])
noncomputable def MU (r:aA):PV:= .tuple (if cB r=0 then (if (dw r).2.2.2=0 then [.slice ((dw r).1.map aw.row), .int .i64 0]else [.slice [], .int .i64 (dw r).2.2.2])else [.slice [], .int .i64 (cB r)])
theorem AN {r:aA}(sh:iG r)(hH:0<H.length):bK KC (aE KC) 15 [.pure (.agg r.row)] c H=some (.pure (Ng r),H):=by
 unfold Ng;by_cases h0:cB r=0
 ·rw [if_pos h0];exact M9 (zq h0 sh) hH
 ·rw [if_neg h0];refine aO (aK KC au Tryz.func15 rfl rfl Ht (by simp) hH ?_);have C:=fun c (H:aj) (hH:0<H.length)=>r5 (c:=c) (H:=H) r sh.s sh.l sh.p sh.t sh.a hH;have he':(cB r !=0)=true:=(by simpa using h0);rw [eE]at C⊢;simp [C,he',aD];rw [ae (by simp)];simp
theorem AL {r:aA}(sh:iG r)(hH:0<H.length):bK KC (aE KC) 17 [.pure (.agg r.row)] c H=some (.pure (MU r),H):=by
 unfold MU;by_cases h0:cB r=0
 ·rw [if_pos h0];exact CV (zq h0 sh) hH
 ·rw [if_neg h0];refine aO (aK KC au Tryz.func17 rfl rfl Hu (by simp) hH ?_);have C:=fun c (H:aj) (hH:0<H.length)=>r5 (c:=c) (H:=H) r sh.s sh.l sh.p sh.t sh.a hH;have he':(cB r !=0)=true:=(by simpa using h0);rw [eE]at C⊢;simp [C,he',aD];rw [ae (by simp)];simp
end
section
variable {c:Nat} {H:aj}
theorem FK {rows:List (List PV)}:cj (if rows=[]then .aV else .pure (.slice rows))= .pure (.slice rows):=by
 split
 ·rename_i h;subst h;rfl
 ·rfl
end
section
variable {c:Nat} {H:aj}
theorem Iw (l:List aW)(hn:l.length≤1000000){F:Fr}(hf:F.get (aq c 7)=none):
  aL KC (aE KC) 102 [.pure (.slice (l.map aW.row))] c (F::H)=some (dG (H.length,aq c 7) 2 (l.map aW.row),fX (aq c 7) 2 (l.map aW.row) F::H):=by
 by_cases h:l=[]
 ·subst h;unfold aL;rw [show KC.wT 102=true from rfl]
  simp [jk,fZ,gb]
 ·have h':l.map aW.row≠[]:=(by simpa using h);rw [uX (c:=c) (H:=F::H) l h hn (by simp) (by simpa using hf)];unfold dG fX;rw [if_neg h',if_neg h'];simp
theorem Ix (l:List bc)(hn:l.length≤1000000){F:Fr}(hf:F.get (aq c 7)=none):
  aL KC (aE KC) 103 [.pure (.slice (l.map bc.row))] c (F::H)=some (dG (H.length,aq c 7) 5 (l.map bc.row),fX (aq c 7) 5 (l.map bc.row) F::H):=by
 by_cases h:l=[]
 ·subst h;unfold aL;rw [show KC.wT 103=true from rfl]
  simp [jk,fZ,gb]
 ·have h':l.map bc.row≠[]:=(by simpa using h);rw [wS (c:=c) (H:=F::H) l h hn (by simp) (by simpa using hf)];unfold dG fX;rw [if_neg h',if_neg h'];simp
theorem Bc (l:List Int)(hn:l.length≤1000000){F:Fr}(hf:F.get (aq c 7)=none):
  aL KC (aE KC) 99 [.pure (.slice (l.map aG))] c (F::H)=some (dG (H.length,aq c 7) 1 (l.map aG),fX (aq c 7) 1 (l.map aG) F::H):=by
 by_cases h:l=[]
 ·subst h;unfold aL;rw [show KC.wT 99=true from rfl]
  simp [jk,fZ,gb]
 ·have h':l.map aG≠[]:=(by simpa using h);rw [oe (c:=c) (H:=F::H) l h hn (by simp) (by simpa using hf)];unfold dG fX;rw [if_neg h',if_neg h'];simp
theorem Av (l:List ak)(hn:l.length≤1000000){F:Fr}(hf:F.get (aq c 7)=none):
  aL KC (aE KC) 75 [.pure (.slice (l.map ak.row))] c (F::H)=some (dG (H.length,aq c 7) 9 (l.map ak.row),fX (aq c 7) 9 (l.map ak.row) F::H):=by
 by_cases h:l=[]
 ·subst h;unfold aL;rw [show KC.wT 75=true from rfl]
  simp [jk,fZ,gb]
 ·have h':l.map ak.row≠[]:=(by simpa using h);rw [tv (c:=c) (H:=F::H) l h hn (by simp) (by simpa using hf)];unfold dG fX;rw [if_neg h',if_neg h'];simp
theorem MD (r:aA)(h:iG r)(ai:List ak)(hal:ai.length≤1000000)(hH:0<H.length):
  aL KC (aE KC) 65 [.pure (.agg r.row), .pure (.slice (ai.map ak.row))] c H=some (.pure (.agg ({r with ai:=ai}:aA).row),H):=by
 refine aO (bf KC au Tryz.func65 rfl rfl Th rfl rfl rfl (by simp) hH ?_);rw [eE];have h1:=h.p;have h2:=h.t;have h4:=h.s;have h5:=h.l;have m1:aq 7 7=28680:=(by decide);have m2:aq 10 7=28683:=(by decide);have m3:aq 13 7=28686:=(by decide);have m4:aq 16 7=28689:=(by decide);have m5:aq 18 7=28691:=(by decide);have C1:=fun(F:Fr) hf=>Iw (c:=7) (H:=H) (F:=F) r.ah h1 hf;have C2:=fun(F:Fr) hf=>Ix (c:=10) (H:=H) (F:=F) r.aa h2 hf;have C3:=fun(F:Fr) hf=>Bc (c:=13) (H:=H) (F:=F) r.seen h4 hf;have C4:=fun(F:Fr) hf=>Bc (c:=16) (H:=H) (F:=F) r.br h5 hf;have C5:=fun(F:Fr) hf=>Av (c:=18) (H:=H) (F:=F) ai hal hf;rw [m1]at C1;rw [m2]at C2;rw [m3]at C3;rw [m4]at C4;rw [m5]at C5;simp [C1,C2,C3,C4,C5,aD];generalize hx:dH.box [.pure (.int .i64 r.wide), .pure (.int .i64 r.deep),dG (H.length,28680) 2 (r.ah.map aW.row),dG (H.length,28683) 5 (r.aa.map bc.row),dG (H.length,28686) 1 (r.seen.map aG),dG (H.length,28689) 1 (r.br.map aG),dG (H.length,28691) 9 (ai.map ak.row)]=x;obtain⟨F,hF⟩: ∃F,fX 28691 9 (ai.map ak.row) (fX 28689 1 (r.br.map aG) (fX 28686 1 (r.seen.map aG) (fX 28683 5 (r.aa.map bc.row) (fX 28680 2 (r.ah.map aW.row) [(2,x),(4,x)]))))=F:=⟨_,rfl⟩;have g1:r.ah.map aW.row≠[]→F.get 28680=some (.arr 2 (r.ah.map aW.row) 0 false):=fun h=>by
  rw [←hF,cr (by decide),cr (by decide),cr (by decide),cr (by decide),dB h]
 have g2:r.aa.map bc.row≠[]→F.get 28683=some (.arr 5 (r.aa.map bc.row) 0 false):=fun h=>by
  rw [←hF,cr (by decide),cr (by decide),cr (by decide),dB h]
 have g3:r.seen.map aG≠[]→F.get 28686=some (.arr 1 (r.seen.map aG) 0 false):=fun h=>by
  rw [←hF,cr (by decide),cr (by decide),dB h]
 have g4:r.br.map aG≠[]→F.get 28689=some (.arr 1 (r.br.map aG) 0 false):=fun h=>by
  rw [←hF,cr (by decide),dB h]
 have g5:ai.map ak.row≠[]→F.get 28691=some (.arr 9 (ai.map ak.row) 0 false):=fun h=>by
  rw [←hF,dB h]
 rw [hF,ae (by simp),jf];have lt:H.length-1<H.length:=(by omega);rw [sB];have e:canon (cZ ([.pure (.int .i64 r.wide), .pure (.int .i64 r.deep),dG (H.length,28680) 2 (r.ah.map aW.row),dG (H.length,28683) 5 (r.aa.map bc.row),dG (H.length,28686) 1 (r.seen.map aG),dG (H.length,28689) 1 (r.br.map aG),dG (H.length,28691) 9 (ai.map ak.row)].map (cI (F::H) (H.length-1))))= .pure (.agg ({r with ai:=ai}:aA).row):=by
  refine rm ?_;simp only [List.map_cons,List.map_nil,od,fA rfl lt g1,fA rfl lt g2,fA rfl lt g3,fA rfl lt g4,fA rfl lt g5,FK];rfl
 rw [e]
end
section
variable {c:Nat} {H:aj}
end
section
variable {c:Nat} {H:aj}
end
section
variable {c:Nat} {H:aj}
end
section
variable {c:Nat} {H:aj}
def ql (f f':Fr):Prop:=(f.ji→f'.ji)∧ ∀k,f'.get k=f.get k∨ ∃es rows v ro,f.get k=some (.arr es rows v ro)∧f'.get k=some (.arr es rows v true)
theorem ql.refl (f:Fr):ql f f:=⟨id,fun _=> .inl rfl⟩
theorem ql.trans {a b d:Fr}(h1:ql a b)(h2:ql b d):ql a d:=by
 refine⟨fun h=>h2.1 (h1.1 h),fun k=> ?_⟩;rcases h1.2 k with e1|⟨es,rows,v,ro,x1,y1⟩
 ·rcases h2.2 k with e2|⟨es,rows,v,ro,x2,y2⟩
  ·exact .inl (e2.trans e1)
  ·exact .inr ⟨es,rows,v,ro,e1▸x2,y2⟩
 ·rcases h2.2 k with e2|⟨es',rows',v',ro',x2,y2⟩
  ·exact .inr ⟨es,rows,v,ro,x1,e2.trans y1⟩
  ·rw [y1]at x2;cases x2;exact .inr ⟨es,rows,v,ro,x1,y2⟩
theorem ql.box {f f':Fr}(h:ql f f'){k:Nat}{cs:List GV}(hk:f.get k=some (.box cs)):f'.get k=some (.box cs):=by
 rcases h.2 k with e|⟨es,rows,v,ro,x,y⟩
 ·rw [e,hk]
 ·rw [hk]at x;cases x
theorem ql.none {f f':Fr}(h:ql f f'){k:Nat}(hk:f.get k=none):f'.get k=none:=by
 rcases h.2 k with e|⟨es,rows,v,ro,x,y⟩
 ·rw [e,hk]
 ·rw [hk]at x;cases x
theorem ql.empty {f':Fr}(h:ql [] f'):f'=[]:=by
 cases f' with
 |nil=>rfl
 |cons x r=>
  obtain⟨k,b⟩:=x;have:=h.none (k:=k) rfl;simp at this
inductive nO:aj→aj→Prop
 |nil:nO [] []
 |cons {f f':Fr} {H H':aj} (h:ql f f') (t:nO H H'):nO (f::H) (f'::H')
theorem nO.refl: ∀H:aj,nO H H
 | []=> .nil
 |f::H=> .cons (ql.refl f) (nO.refl H)
theorem nO.trans {A B D:aj}(h1:nO A B)(h2:nO B D):nO A D:=by
 induction h1 generalizing D with
 |nil=>exact h2
 |cons h t ih=>cases h2 with|cons h' t'=>exact .cons (h.trans h') (ih t')
theorem nO.len {A B:aj}(h:nO A B):B.length=A.length:=by
 induction h with
 |nil=>rfl
 |cons _ _ ih=>simp [ih]
theorem nO.get {A B:aj}(h:nO A B)(nm:Nm):B.get nm=A.get nm∨ ∃es rows v ro,A.get nm=some (.arr es rows v ro)∧B.get nm=some (.arr es rows v true):=by
 induction h with
 |nil=>exact .inl rfl
 | @cons f f' H H' h t ih=>
  have hl:=t.len;rw [aj.e9,aj.e9,hl];by_cases e:nm.1=H.length
  ·rw [if_pos e,if_pos e];exact h.2 nm.2
  ·rw [if_neg e,if_neg e];exact ih
theorem nO.sim {A B:aj}(h:nO A B):kg A B:=fun nm es rows v ro hg=>by
 rcases h.get nm with e|⟨es',rows',v',ro',x,y⟩
 ·exact⟨ro,e.trans hg⟩
 ·rw [hg]at x;cases x;exact⟨true,y⟩
theorem ql.ins {f:Fr}{k es:Nat}{rows:List (List PV)}{v:Nat}{ro:Bool}(h:f.get k=some (.arr es rows v ro)):ql f (f.ins k (.arr es rows v true)):=by
 refine⟨fun hs=>Fr.dR hs,fun j=> ?_⟩;by_cases e:j=k
 ·subst e;exact .inr ⟨es,rows,v,ro,h,Fr.bQ ..⟩
 ·exact .inl (Fr.az _ e _)
theorem nO.set {nm:Nm}{es:Nat}{rows:List (List PV)}{v:Nat}{ro:Bool}: ∀{H:aj},H.get nm=some (.arr es rows v ro)→nO H (H.set nm (.arr es rows v true))
 | [],h=>by simp [aj.get]at h
 |f::H,h=>by
  rw [aj.e9]at h;simp only [aj.set];by_cases e:nm.1=H.length
  ·rw [if_pos e]at h⊢;exact .cons (ql.ins h) (nO.refl H)
  ·rw [if_neg e]at h⊢;exact .cons (ql.refl f) (nO.set h)
theorem vX (H:aj)(g:GV):nO H (dW H g).2:=by
 cases g with
 |a8 nm es top lo len=>
  simp only [dW,dC]
  cases hg:H.get nm with
  |none=>exact nO.refl H
  |some b=>
   cases b with
   |arr es' elems vf ro=>
    simp only;split
    ·exact nO.set hg
    ·exact nO.refl H
   |_=>exact nO.refl H
 |_=>exact nO.refl H
theorem tL: ∀(l:List GV) (H:aj),nO H (gB H l).2
 | [],H=>nO.refl H
 |g::l,H=>(vX H g).trans (tL l _)
theorem xE (H:aj)(g:GV):nO H (dn H g).2:=by
 cases g with
 |agg l=>exact tL l H
 |_=>exact vX H _
theorem r7: ∀(l:List PV) (H:aj),bs H (l.map .pure)=(l.map .pure,H)
 | [],H=>rfl
 |p::l,H=>by
  rw [List.map_cons];simp only [bs];have e:dn H (.pure p)=(.pure p,H):=rfl;rw [e];simp only [r7 l H]
end
section
variable {c:Nat} {H:aj}
theorem lf {f:FuncId}(h1:KC.wT f=false)(h2:KC.Aa f=false)(h3:KC.EP f=true)(ps:List PV):aL KC (aE KC) f (ps.map .pure) c H=bK KC (aE KC) f (ps.map .pure) c H:=by
 rw [jG h1 h2 h3,r7]
end
section
variable {c:Nat} {H:aj}
noncomputable def uq:aA→Int:=nL fun r=>if cB r=0 then (dw r).2.2.2 else cB r
theorem oD (r:aA):uq r=if cB r=0 then (dw r).2.2.2 else cB r:=by rw [uq,cN]
theorem Ia {r:aA}: ∃(s:aw) (n:Int),Ng r= .tuple [.agg s.row, .int .i64 n, .int .i64 (uq r)]:=by
 unfold Ng;rw [oD];by_cases h0:cB r=0
 ·rw [if_pos h0,if_pos h0];by_cases he:(dw r).2.2.2=0
  ·rw [if_pos he,he];exact⟨_,_,rfl⟩
  ·rw [if_neg he];exact⟨⟨[],[],[]⟩,_,rfl⟩
 ·rw [if_neg h0,if_neg h0];exact⟨⟨[],[],[]⟩,0,rfl⟩
noncomputable def AA:aA→Int→Int→Int:=nL fun r act kind=>
 if uq r≠0 then uq r else if dc act 0 ((r.ai.length:Int)-1)=false then 7 else if dc kind 1 3=false then 4 else if kind=2∧(r.ai.getD act.toNat bH).kind=1 then 3 else 0
theorem zt (r:aA)(act kind:Int):AA r act kind=if uq r≠0 then uq r else if dc act 0 ((r.ai.length:Int)-1)=false then 7 else if dc kind 1 3=false then 4 else if kind=2∧(r.ai.getD act.toNat bH).kind=1 then 3 else 0:=by rw [AA,cN]
theorem vw {r:aA}(sh:iG r)(act kind:Int)(hH:0<H.length):
  bK KC (aE KC) 69 [.pure (.agg r.row), .pure (.int .i64 act), .pure (.int .i64 kind)] c H=some (.pure (.int .i64 (AA r act kind)),H):=by
 refine aO (aK KC au Tryz.func69 rfl rfl Ti (by simp) hH ?_);have R:=fun(c:Nat) (H:aj) (hH:0<H.length)=>(lf (f:=15) (c:=c) (H:=H) rfl rfl rfl [.agg r.row]).trans (AN (c:=c) sh hH);obtain⟨s,n,hs⟩:=Ia (r:=r);rw [hs]at R;have I:=fun(c:Nat) (x lo hi:Int) (H:aj) (hH:0<H.length)=>c7 (c:=c) (x:=x) (lo:=lo) (hi:=hi) (H:=H) hH;have ha:=sh.a;have hw:IntKind.i64.wrap ((r.ai.length:Int)-1)=(r.ai.length:Int)-1:=dh (by omega) (by omega);simp only [List.map_cons,List.map_nil]at R;rw [eE]at R⊢;rw [zt];unfold aw.row at R;by_cases he:uq r=0
 ·rw [he]at R⊢;by_cases h1:dc act 0 ((r.ai.length:Int)-1)=true
  ·obtain⟨a1,a2⟩:=pB.1 h1;obtain⟨k,rfl⟩:=Int.eq_ofNat_of_zero_le a1;have hk:k<r.ai.length:=(by omega);have hg:r.ai.getD k bH=r.ai[k]:=aM hk;by_cases h2:dc kind 1 3=true
   ·by_cases h3:kind=2
    ·subst h3;have h2':dc 2 1 3=true:=(by decide);by_cases h4:r.ai[k].kind=1
     ·simp [R,I,hw,h1,h2',hk,ak.row,h4,ae,aD,hg]
     ·have h4':(r.ai[k].kind==1)=false:=(by simpa using h4);simp [R,I,hw,h1,h2',hk,ak.row,h4,h4',ae,aD,hg]
    ·have h3':(kind==2)=false:=(by simpa using h3);simp [R,I,hw,h1,h2,h3,h3',ae,aD]
   ·have h2':dc kind 1 3=false:=(by simpa using h2);simp [R,I,hw,h1,h2',ae,aD]
  ·have h1':dc act 0 ((r.ai.length:Int)-1)=false:=(by simpa using h1);simp [R,I,hw,h1',ae,aD]
 ·have he':(uq r !=0)=true:=(by simpa using he);simp [R,he,he',ae,aD]
end
section
variable {c:Nat} {H:aj}
end
section
variable {c:Nat} {H:aj}
def As (H:aj)(fr:Fr)(g:GV)(A:List ak):Prop:=
 (g= .aV∧A=[])∨(A≠[]∧ ∃key v,g= .a8 (H.length,key) 9 A.length 0 A.length∧fr.get key=some (.arr 9 (A.map ak.row) v false)∧v≤A.length)
theorem HM {key:Nat} {fr:Fr} {g:GV} {A:List ak} (a:ak) (L:As H fr g A) (hf:fr.get key=none) (hn:A.length+1≤1000000) (R:GV×aj→Prop)
  (h: ∀g' fr',As H fr' g' (A++[a])→(∀q top,g'= .a8 (H.length,q) 9 top 0 top→q=key∨ ∃top,g= .a8 (H.length,q) 9 top 0 top)→(∀k,k≠key→(∀top,g≠ .a8 (H.length,k) 9 top 0 top)→fr'.get k=fr.get k)→R (g',fr'::H)):
  mh (zW H.length key g 9 72 [a.row] (fr::H)) R:=by
 rcases L with ⟨rfl,rfl⟩|⟨hne,cX,v,rfl,hg,hv⟩
 ·have hm: ¬H.length+1≤H.length:=(by omega);have:=h (.a8 (H.length,key) 9 1 0 1) (fr.ins key (.arr 9 [a.row] 0 false)) (Or.inr ⟨by simp,key,0,rfl,Fr.bQ _ _ _,Nat.zero_le _⟩) (fun q top e=>by cases e;exact Or.inl rfl) (fun k hk _=>Fr.az _ hk _);simp [hf,hm];exact this
 ·have hb:(A.length+1)*72≤1099511627776:=(by omega);have:=h (.a8 (H.length,cX) 9 (A.length+1) 0 (A.length+1)) (fr.ins cX (.arr 9 (A.map ak.row++[a.row]) v false)) (Or.inr ⟨by simp,cX,v,by simp,by rw [Fr.bQ];simp,by simp;omega⟩) (fun q top e=>by cases e;exact Or.inr ⟨_,rfl⟩) (fun k _ hk=>Fr.az _ (fun e=>by subst e;exact hk _ rfl) _);simp [hg,hv,hb];exact this
theorem As.cl {fr:Fr}{g:GV}{A:List ak}(h:As H fr g A)(X:aj):clean X H.length g=g:=by
 rcases h with ⟨rfl,rfl⟩|⟨hne,key,v,rfl,hg,hv⟩<;>simp
end
section
variable {c:Nat} {H:aj}
end
section
variable {c:Nat} {H:aj}
theorem Ef {key:Nat} {fr X:Fr} {g:GV} {A:List ak} (a:ak) (L:As H fr g A) (hf:g= .aV→fr.get key=none) (hn:A.length+1≤1000000) (R:GV×aj→Prop)
  (h: ∀g' fr',As H fr' g' (A++[a])→(∀q top,g'= .a8 (H.length,q) 9 top 0 top→q=key∨ ∃top,g= .a8 (H.length,q) 9 top 0 top)→(∀k,k≠key→(∀top,g≠ .a8 (H.length,k) 9 top 0 top)→fr'.get k=fr.get k)→R (g',X::fr'::H)):
  mh (zW H.length key g 9 72 [a.row] (X::fr::H)) R:=by
 rcases L with ⟨rfl,rfl⟩|⟨hne,cX,v,rfl,hg,hv⟩
 ·have hm: ¬H.length+1+1≤H.length:=(by omega);have:=h (.a8 (H.length,key) 9 1 0 1) (fr.ins key (.arr 9 [a.row] 0 false)) (Or.inr ⟨by simp,key,0,rfl,Fr.bQ _ _ _,Nat.zero_le _⟩) (fun q top e=>by cases e;exact Or.inl rfl) (fun k hk _=>Fr.az _ hk _);simp [hf rfl,hm];exact this
 ·have hb:(A.length+1)*72≤1099511627776:=(by omega);have:=h (.a8 (H.length,cX) 9 (A.length+1) 0 (A.length+1)) (fr.ins cX (.arr 9 (A.map ak.row++[a.row]) v false)) (Or.inr ⟨by simp,cX,v,by simp,by rw [Fr.bQ];simp,by simp;omega⟩) (fun q top e=>by cases e;exact Or.inr ⟨_,rfl⟩) (fun k _ hk=>Fr.az _ (fun e=>by subst e;exact hk _ rfl) _);simp [hg,hv,hb];exact this
def TF (H:aj)(ks:List Nat)(g:GV):Prop:= ∀q top,g= .a8 (H.length,q) 9 top 0 top→q∈ks
end
section
structure jq (r:aA)(k:Nat)(kind:Int):Prop where
 run:CU r
 lt:k<r.ai.length
 kd:kind=1∨kind=2∨kind=3
 hand:kind=2→(r.ai[k]'lt).kind≠1
 ok:(dw r).2.2.2=0
 tm: ∀a∈r.ai,0≤a.a7∧a.a7≤1000
 pw:r.ai.Pairwise fun a b=>a.a7≤b.a7
 n40:r.ai.length≤40
 room:vW r
theorem vy {r:aA}(sh:iG r){act kind:Int}(h:AA r act kind=0): ∃k:Nat,act=k∧jq r k kind:=by
 rw [zt]at h;obtain⟨h1,h⟩:=ite_self h;obtain⟨h2,h⟩:=b9 (by decide) h;obtain⟨h3,h⟩:=b9 (by decide) h;obtain⟨h4,h⟩:=b9 (by decide) h;have h2':dc act 0 ((r.ai.length:Int)-1)=true:=(by simpa using h2);have h3':dc kind 1 3=true:=(by simpa using h3);obtain⟨a1,a2⟩:=pB.1 h2';obtain⟨b1,b2⟩:=pB.1 h3';obtain⟨k,rfl⟩:=Int.eq_ofNat_of_zero_le a1;have hk:k<r.ai.length:=(by omega);rw [oD]at h1;have hc:cB r=0:=by
  rcases Decidable.em (cB r=0)with e|e
  ·exact e
  ·rw [if_neg e]at h1;exact h1
 rw [if_pos hc]at h1;obtain⟨R,A⟩:=uE hc;refine⟨k,rfl,zq hc sh,hk,by omega,fun e=> ?_,h1,A.tm,A.pw.imp fun x=>x.1,A.n,R⟩;have hg:r.ai.getD (Int.toNat (k:Int)) bH=r.ai[k]:=aM hk;rw [hg]at h4;exact fun e2=>h4 ⟨e,e2⟩
section
variable {r:aA} {k:Nat} {kind:Int} (h:jq r k kind)
include h
theorem jq.get:r.ai.getD k bH=r.ai[k]'h.lt:=aM h.lt
theorem oy:(dp r k kind).length≤r.ai.length:=by
 unfold dp;have:=h.lt;split
 ·split
  ·simp
  ·rw [List.length_eraseIdx];split<;>omega
 ·split
  ·rw [kI];simp;omega
  ·rw [List.length_eraseIdx];split<;>omega
omit h in
theorem Da (aN:Int)(a:ak):(late aN a=a∨late aN a=setAt a (a.a7+1)):=by
 unfold late;split
 ·exact Or.inr rfl
 ·exact Or.inl rfl
theorem oz {x:ak}(hx:x∈dp r k kind):AB r x.aN.toNat x∧0≤x.a7∧x.a7≤1001:=by
 have hm: ∀a∈r.ai,AB r a.aN.toNat a∧0≤a.a7∧a.a7≤1001:=fun a ha=>by
  have:=h.tm a ha;exact⟨h.run.ab a ha,by omega,by omega⟩
 unfold dp at hx;rw [h.get]at hx;split at hx
 ·rename_i hk;split at hx
  ·rcases List.mem_or_eq_of_mem_set hx with hx|rfl
   ·exact hm x hx
   ·have h1:=hm _ (List.getElem_mem h.lt);exact⟨h1.1.flip (h.hand hk),h1.2⟩
  ·exact hm x (List.mem_of_mem_eraseIdx hx)
 ·split at hx
  ·have hx:=(kX _).mem_iff.1 hx;rcases List.mem_append.1 hx with hx|hx
   ·exact hm x (List.mem_of_mem_take hx)
   ·obtain⟨a,ha,rfl⟩:=List.mem_map.1 hx;have ha':=List.mem_of_mem_drop ha;have h1:=hm a ha';have h2:=h.tm a ha';rcases Da (r.ai[k]'h.lt).aN a with e|e
    ·rw [e];exact h1
    ·rw [e];exact⟨ob h1.1,by show 0≤a.a7+1;omega,by show a.a7+1≤1001;omega⟩
  ·exact hm x (List.mem_of_mem_eraseIdx hx)
theorem uF:(dp r k kind).Pairwise fun a b=>a.a7≤b.a7:=by
 unfold dp;rw [h.get];split
 ·split
  ·have e1:(r.ai.set k {(r.ai[k]'h.lt)with hand:=1-(r.ai[k]'h.lt).hand}).map ak.a7=r.ai.map ak.a7:=by
    rw [List.map_set];have e2:(r.ai.map ak.a7)[k]'(by simpa using h.lt)=(r.ai[k]'h.lt).a7:=(by simp);rw [show ({(r.ai[k]'h.lt)with hand:=1-(r.ai[k]'h.lt).hand}:ak).a7=(r.ai.map ak.a7)[k]'(by simpa using h.lt)from e2.symm]
    exact List.set_getElem_self _
   have e3:=List.pairwise_map.2 h.pw;rw [←e1]at e3;exact List.pairwise_map.1 e3
  ·exact h.pw.sublist (List.eraseIdx_sublist ..)
 ·split
  ·exact Hg _
  ·exact h.pw.sublist (List.eraseIdx_sublist ..)
theorem vB:0≤eG r k kind∧eG r k kind≤1001:=by
 have:=h.tm _ (List.getElem_mem h.lt);unfold eG;rw [h.get];split<;>omega
end
def bP (r:aA)(w:Nat):List ak:=bJ (r.wide*r.deep).toNat r.aa.length r.ah.length w
def bS (r:aA)(k:Nat):Nat:=(r.ai.getD k bH).aN.toNat
noncomputable def yU (r:aA)(k:Nat)(kind:Int):List aw×aw×Int×Int:=bw r (cA (eG r k kind) (dp r k kind)).length (aF r) (cA (eG r k kind) (dp r k kind)) 0
noncomputable def Az (fin:aw→List ak→Bool)(r:aA)(k:Nat)(kind:Int):Option (List ak):=
 if (yU r k kind).2.2.2≠0 then none else (List.range 4).findSome? fun n=>uC r (bS r k) (bP r (bS r k)) fin n (yU r k kind).2.1 []
noncomputable def iE (r:aA)(k:Nat)(kind:Int):Option (List ak):=Az (lE r (behind (eG r k kind) (dp r k kind))) r k kind
theorem jq.wl {r:aA}{k:Nat}{kind:Int}(h:jq r k kind):bS r k<r.ah.length:=by
 unfold bS;rw [h.get];exact(h.run.ab _ (List.getElem_mem h.lt)).wl
theorem jq.qm {r:aA}{k:Nat}{kind:Int}(h:jq r k kind):((r.wide*r.deep).toNat:Int)=r.wide*r.deep∧0<(r.wide*r.deep).toNat∧(r.wide*r.deep).toNat≤36:=by
 have:=h.room.qm;omega
theorem oC {r:aA}{w:Nat}(ha:0≤r.wide*r.deep)(hw:w<r.ah.length){a:ak}(h:a∈bP r w):AB r w a∧a.a7=0∧a.bZ=0∧a.gz=0:=
 mj (n:=(r.wide*r.deep).toNat) (by omega) hw h
noncomputable def AD (r:aA)(act kind:Int):PV:= .tuple (if AA r act kind≠0 then [.slice [], .int .i64 (AA r act kind)]else match iE r act.toNat kind with|some l=> [.slice (l.map ak.row), .int .i64 0]|none=> [.slice [], .int .i64 7])
theorem Eh {r:aA}(h:uq r=0){i:Nat}(hi:i<r.ai.length){x:Int}(hx:1≤x∧x≤3)(hk: ¬(x=2∧(r.ai.getD i bH).kind=1)):AA r i x=0:=by
 rw [zt,if_neg (by simpa using h),if_neg (by have:dc (i:Int) 0 ((r.ai.length:Int)-1)=true:=pB.2 ⟨by omega,by omega⟩;simp [this]),if_neg (by have:dc x 1 3=true:=pB.2 hx;simp [this]),if_neg (by simpa using hk)]
end
section
variable {c:Nat} {H:aj}
@[simp] theorem TY {cs:List PV}:canon (.b7 cs)= .b7 cs:= .trans rfl rfl
theorem mZ {G:aj}{nm:Nm}(h:nm.1<G.length): ∀pre:aj,aj.get (pre++G) nm=aj.get G nm
 | []=>rfl
 |X::pre=>by
  show aj.get (X::(pre++G)) nm=_
  rw [aj.e9,if_neg (by simp;omega),mZ h pre]
structure Aw (nm:Nm)(n0:Nat)(α:Type)(C:α→aj)(ps:ak→Bool)(cont:ak→α→Bool)(next:ak→α→α)(ok:α→Prop)(A:ak→Prop):Prop where
 pos:0<n0
 lp:nm.1<n0
 len: ∀a,(C a).length=n0
 gr: ∀(x:ak) (a:α) (pre:aj),A x→ps x=true→ok a→ground (aE KC) nm [.pure (.agg x.row)] (pre++C a)=some (.pure (.bool (cont x a)),pre++C (next x a))
 ZG: ∀(x:ak) (a:α),A x→ok a→cont x a=true→ok (next x a)
def fk {α:Type}(pos:ak→Bool)(cont:ak→α→Bool)(next:ak→α→α):List ak→α→α×Bool
 | [],a=>(a,true)
 |x::l,a=>if pos x=true then (if cont x a=true then fk pos cont next l (next x a)else (next x a,false))else fk pos cont next l a
theorem jv {α:Type}{pos:ak→Bool}{cont:ak→α→Bool}{next:ak→α→α}: ∀(l m:List ak) (a:α),fk pos cont next (l++m) a=if (fk pos cont next l a).2=true then fk pos cont next m (fk pos cont next l a).1 else fk pos cont next l a
 | [],m,a=>by simp [fk]
 |x::l,m,a=>by
  simp only [List.cons_append,fk];split
  ·split
   ·exact jv l m _
   ·simp
  ·exact jv l m a
section
variable {r:aA} {s:aw} {w:Nat} {nm:Nm} {n0:Nat} {α:Type} {C:α→aj} {cont:ak→α→Bool} {next:ak→α→α} {ok:α→Prop} {A:ak→Prop} (hC:Aw nm n0 α C (bV r s w) cont next ok A) (hS:fR r s) (hW:WB r) (hA: ∀x,A x→AB r w x)
include hC hS hW hA
theorem uN {F0:Fr}(f3:F0.get 3=some (.box [.yield nm])){x:ak}(hx:A x){a:α}(ha:ok a)(pre:aj):
  aL KC (aE KC) 133 [.pure (.agg x.row), .b7 (aQ r s), .ay (n0,3) 0] c (pre++F0::C a)=
   some (.pure (.bool (if bV r s w x=true then cont x a else true)),pre++F0::C (if bV r s w x=true then next x a else a)):=by
 refine aO (bf KC au Tryz.func133 rfl rfl Ma rfl rfl rfl (by simp) (by simp;omega) ?_);have hlen:=hC.len;have g3:aj.get (pre++F0::C a) (n0,3)=some (.box [.yield nm]):=by
  rw [mZ (by simp [hlen])];rw [aj.e9,if_pos (by simp [hlen])];exact f3
 have M:=fun(c:Nat) (H:aj) (hH:0<H.length)=>yN (c:=c) (H:=H) hS hW (hA x hx) hH;have G:=fun hp=>hC.gr x a ([(3, .box (x.row.map .pure))]::(pre++[F0])) hx hp ha;simp only [List.cons_append,List.append_assoc,List.nil_append]at G;have ne: ¬n0=pre.length+(n0+1):=(by omega);rw [bF]at G;rw [aQ,bF]at M;rw [aQ,bF]
 cases hp:bV r s w x with
 |true=>
  have G:=G hp;simp at G;simp [g3,hlen,ne,M,hp,G,ae]
 |false=>simp [g3,hlen,ne,M,hp,ae]
end
end
section
variable {c:Nat} {H:aj}
def kh (r:aA)(s:aw)(n0:Nat):GV:= .func 133 [] [.b7 (aQ r s), .ay (n0,3) 0]
section
variable {r:aA} {s:aw} {n0:Nat}
theorem jR {G:aj}{l0:Nat}(h:n0≤l0):clean G l0 (kh r s n0)=kh r s n0:=by
 show iB G l0 (.func _ [] [_,_])=_
 have e:dE l0 ([]:List GV)=true:=rfl;have e2:dE l0 [.b7 (aQ r s), .ay (n0,3) 0]=true:=(by simp [dE,h]);show (if (dE l0 [] && dE l0 [.b7 (aQ r s), .ay (n0,3) 0])=true then _ else _)=_
 rw [e,e2];rfl
theorem fe {rec:Rec}{x:GV}{c:Nat}{G:aj}:dJ KC rec (kh r s n0) [x] c G=aL KC rec 133 [x, .b7 (aQ r s), .ay (n0,3) 0] c G:=rfl
end
section
variable {r:aA} {s:aw} {w:Nat} {nm:Nm} {n0:Nat} {α:Type} {C:α→aj} {cont:ak→α→Bool} {next:ak→α→α} {ok:α→Prop} {A:ak→Prop} (hC:Aw nm n0 α C (bV r s w) cont next ok A) (hS:fR r s) (hW:WB r) (hA: ∀x,A x→AB r w x)
include hC hS hW hA
theorem Db {F0:Fr}(f3:F0.get 3=some (.box [.yield nm])){n:Nat}(hn:n≤1000000)(hall: ∀x∈gC w n 0,A x)(Q:GX→bN→Prop): ∀(k i:Nat) (a:α),i+k=n→ok a→
  (∀a',fk (bV r s w) cont next (gC w k i) a=(a',true)→ok a'→Q (.exit 2) ⟨[(1, .b7 (aQ r s)),(2, .b7 [.int .i64 w]),(4,kh r s n0),(5, .pure (.int .i64 1))],[]::F0::C a',79⟩)→
  (∀a',fk (bV r s w) cont next (gC w k i) a=(a',false)→Q .ret ⟨[(1, .b7 (aQ r s)),(2, .b7 [.int .i64 w]),(4,kh r s n0),(5, .pure (.int .i64 1))],[]::F0::C a',79⟩)→
  gS KC au 132 (lp Tryz.f132 1) [1,2,4,5,18,19] [1,2,4,5] Q
   [(1, .b7 (aQ r s)),(2, .b7 [.int .i64 w]),(4,kh r s n0),(5, .pure (.int .i64 1)),(18, .pure (.int .i64 n)),(19, .pure (.int .i64 i))] ([]::F0::C a) 79:=by
 have hlen:=hC.len;have CL:=fun(G:aj) (l0:Nat) (h:n0≤l0)=>jR (r:=r) (s:=s) (G:=G) h;have c1:=fun G=>CL G n0 (by omega);have c2:=fun G=>CL G (n0+1) (by omega);intro k
 induction k with
 |zero=>
  intro i a hk ho h1 _;have h1':=h1 a rfl ho;have hnl: ¬i<n:=(by omega);apply ax;conv=>arg 4;whnf
  simp [hnl,hlen,c1,c2];simpa using h1'
 |succ k ih=>
  intro i a hk ho h1 h2;have hil:i<n:=(by omega);have hw:=dh (x:=(i:Int)+1) (by omega) (by omega)
  have hx:A (b8 w 1 0 0 i 0):=hall _ (by
   unfold gC;exact List.mem_map.2 ⟨i,by simp [List.mem_range'];omega,rfl⟩)
  have HO:=fun(c:Nat)=>uN (c:=c) hC hS hW hA f3 hx ho [[],[]];rw [qM]at h1 h2;simp only [fk]at h1 h2;simp only [List.cons_append,List.nil_append]at HO;generalize hB:bV r s w (b8 w 1 0 0 i 0)=b at HO h1 h2;have hrow:(b8 w 1 0 0 i 0).row=[.int .i64 0, .int .i64 w, .int .i64 1, .int .i64 0, .int .i64 0, .int .i64 i, .int .i64 0, .int .i64 0, .int .i64 0]:=rfl;rw [hrow]at HO;apply ax;conv=>arg 4;whnf
  cases b with
  |false=>
   simp only [Bool.false_eq_true,if_false]at HO h1 h2;have ih':=ih (i+1) a (by omega) ho h1 h2;simp [hil,hlen,c1,c2,fe,HO,hw];simpa using ih'
  |true=>
   simp only [if_true]at HO h1 h2
   cases hc:cont (b8 w 1 0 0 i 0) a with
   |true=>
    rw [hc]at HO h1 h2;simp only [if_true]at h1 h2;have ih':=ih (i+1) (next (b8 w 1 0 0 i 0) a) (by omega) (hC.ZG _ _ hx ho hc) h1 h2
    simp [hil,hlen,c1,c2,fe,HO,hw];simpa using ih'
   |false=>
    rw [hc]at HO h1 h2;have h2':=h2 _ rfl;simp [hil,hlen,c1,c2,fe,HO,hw];simpa using h2'
def aB (x:ak):Fr:=[(8, .box [.pure (.int .i64 x.a7), .pure (.int .i64 x.aN), .pure (.int .i64 x.kind), .pure (.int .i64 x.hand), .pure (.int .i64 x.bd), .pure (.int .i64 x.cell), .pure (.int .i64 x.other), .pure (.int .i64 x.bZ), .pure (.int .i64 x.gz)])]
theorem Bd {F0:Fr}(f3:F0.get 3=some (.box [.yield nm])){n h:Nat}(hn:n≤1000000)(hall: ∀x∈ib w h n 0,A x)(Q:GX→bN→Prop): ∀(k i:Nat) (t:Int) (a:α),i+k=n→ok a→
  (∀a' t',fk (bV r s w) cont next (ib w h k i) a=(a',true)→ok a'→Q (.exit 7) ⟨[(1, .b7 (aQ r s)),(2, .b7 [.int .i64 w]),(4,kh r s n0),(5, .pure (.int .i64 2)),(30, .pure (.int .i64 h))],aB (b8 w 2 h t' 0 0)::[]::F0::C a',79⟩)→
  (∀a' F1,fk (bV r s w) cont next (ib w h k i) a=(a',false)→Q .ret ⟨[(1, .b7 (aQ r s)),(2, .b7 [.int .i64 w]),(4,kh r s n0),(5, .pure (.int .i64 2)),(30, .pure (.int .i64 h))],F1::[]::F0::C a',79⟩)→
  gS KC au 132 (lp Tryz.f132 3) [1,2,4,5,8,30,47,48] [1,2,4,5,30] Q
   [(1, .b7 (aQ r s)),(2, .b7 [.int .i64 w]),(4,kh r s n0),(5, .pure (.int .i64 2)),(8, .ay (n0+2,8) 0),(30, .pure (.int .i64 h)),(47, .pure (.int .i64 n)),(48, .pure (.int .i64 i))] (aB (b8 w 2 h t 0 0)::[]::F0::C a) 79:=by
 have hlen:=hC.len;have CL:=fun(G:aj) (l0:Nat) (h:n0≤l0)=>jR (r:=r) (s:=s) (G:=G) h;have c1:=fun G=>CL G (n0+1) (by omega);have c2:=fun G=>CL G (n0+2) (by omega);have ne1: ¬n0+2=n0+3:=(by omega);intro k
 induction k with
 |zero=>
  intro i t a hk ho h1 _;have h1':=h1 a t rfl ho;have hnl: ¬i<n:=(by omega);apply ax;conv=>arg 4;whnf
  simp [hnl,hlen,c1,c2];simpa using h1'
 |succ k ih=>
  intro i t a hk ho h1 h2;have hil:i<n:=(by omega);have hw:=dh (x:=(i:Int)+1) (by omega) (by omega)
  have hx:A (b8 w 2 h i 0 0):=hall _ (by
   unfold ib;exact List.mem_map.2 ⟨i,by simp [List.mem_range'];omega,rfl⟩)
  have HO:=fun(c:Nat)=>uN (c:=c) hC hS hW hA f3 hx ho [[],aB (b8 w 2 h i 0 0),[]];rw [tM]at h1 h2;simp only [fk]at h1 h2;simp only [List.cons_append,List.nil_append]at HO;generalize hB:bV r s w (b8 w 2 h i 0 0)=b at HO h1 h2;have hrow:(b8 w 2 h i 0 0).row=[.int .i64 0, .int .i64 w, .int .i64 2, .int .i64 h, .int .i64 i, .int .i64 0, .int .i64 0, .int .i64 0, .int .i64 0]:=rfl;rw [hrow]at HO;simp only [aB,b8]at HO ih⊢;apply ax;conv=>arg 4;whnf
  cases b with
  |false=>
   simp only [Bool.false_eq_true,if_false]at HO h1 h2;have ih':=ih (i+1) i a (by omega) ho h1 h2;simp [hil,hlen,c1,c2,ne1,fe,HO,hw];simpa using ih'
  |true=>
   simp only [if_true]at HO h1 h2
   cases hc:cont (b8 w 2 h i 0 0) a with
   |true=>
    rw [hc]at h1 h2;simp only [b8]at hc;rw [hc]at HO;simp only [if_true]at h1 h2;have ih':=ih (i+1) i (next (b8 w 2 h i 0 0) a) (by omega) (hC.ZG _ _ hx ho hc) h1 h2
    simp only [b8]at ih';simp [hil,hlen,c1,c2,ne1,fe,HO,hw];simpa using ih'
   |false=>
    rw [hc]at h1 h2;have h2':=h2 _ [(8, .box [.pure (.int .i64 0), .pure (.int .i64 w), .pure (.int .i64 2), .pure (.int .i64 h), .pure (.int .i64 i), .pure (.int .i64 0), .pure (.int .i64 0), .pure (.int .i64 0), .pure (.int .i64 0)])] rfl;simp only [b8]at hc h2';rw [hc]at HO;simp [hil,hlen,c1,c2,ne1,fe,HO,hw];simpa using h2'
theorem Be {F0:Fr}(f3:F0.get 3=some (.box [.yield nm])){n h:Nat}(hn:n≤1000000)(hall: ∀x∈gw w h n 0,A x)(Q:GX→bN→Prop): ∀(k i:Nat) (t:Int) (a:α),i+k=n→ok a→
  (∀a' t',fk (bV r s w) cont next (gw w h k i) a=(a',true)→ok a'→Q (.exit 9) ⟨[(1, .b7 (aQ r s)),(2, .b7 [.int .i64 w]),(4,kh r s n0),(5, .pure (.int .i64 4)),(30, .pure (.int .i64 h))],aB (b8 w 4 h 0 0 t')::[]::F0::C a',79⟩)→
  (∀a' F1,fk (bV r s w) cont next (gw w h k i) a=(a',false)→Q .ret ⟨[(1, .b7 (aQ r s)),(2, .b7 [.int .i64 w]),(4,kh r s n0),(5, .pure (.int .i64 4)),(30, .pure (.int .i64 h))],F1::[]::F0::C a',79⟩)→
  gS KC au 132 (lp Tryz.f132 4) [1,2,4,5,8,30,62,63] [1,2,4,5,30] Q
   [(1, .b7 (aQ r s)),(2, .b7 [.int .i64 w]),(4,kh r s n0),(5, .pure (.int .i64 4)),(8, .ay (n0+2,8) 0),(30, .pure (.int .i64 h)),(62, .pure (.int .i64 n)),(63, .pure (.int .i64 i))] (aB (b8 w 4 h 0 0 t)::[]::F0::C a) 79:=by
 have hlen:=hC.len;have CL:=fun(G:aj) (l0:Nat) (h:n0≤l0)=>jR (r:=r) (s:=s) (G:=G) h;have c1:=fun G=>CL G (n0+1) (by omega);have c2:=fun G=>CL G (n0+2) (by omega);have ne1: ¬n0+2=n0+3:=(by omega);intro k
 induction k with
 |zero=>
  intro i t a hk ho h1 _;have h1':=h1 a t rfl ho;have hnl: ¬i<n:=(by omega);apply ax;conv=>arg 4;whnf
  simp [hnl,hlen,c1,c2];simpa using h1'
 |succ k ih=>
  intro i t a hk ho h1 h2;have hil:i<n:=(by omega);have hw:=dh (x:=(i:Int)+1) (by omega) (by omega);by_cases hiw:(i:Int)=w
  ·rw [oT,if_pos hiw]at h1 h2;have ih':=ih (i+1) i a (by omega) ho h1 h2;have hiw2:i=w:=(by omega);subst hiw2;simp only [aB,b8]at ih'⊢;apply ax;conv=>arg 4;whnf
   simp [hil,hlen,c1,c2,ne1,hw];simpa using ih'
  ·have hiw':((i:Int)==(w:Int))=false:=by simpa using hiw
   have hx:A (b8 w 4 h 0 0 i):=hall _ (by
    unfold gw;exact List.mem_map.2 ⟨i,List.mem_filter.2 ⟨by simp [List.mem_range'];omega,by simpa using hiw⟩,rfl⟩)
   have HO:=fun(c:Nat)=>uN (c:=c) hC hS hW hA f3 hx ho [[],aB (b8 w 4 h 0 0 i),[]];rw [oT,if_neg hiw]at h1 h2;simp only [fk]at h1 h2;simp only [List.cons_append,List.nil_append]at HO;generalize hB:bV r s w (b8 w 4 h 0 0 i)=b at HO h1 h2;have hrow:(b8 w 4 h 0 0 i).row=[.int .i64 0, .int .i64 w, .int .i64 4, .int .i64 h, .int .i64 0, .int .i64 0, .int .i64 i, .int .i64 0, .int .i64 0]:=rfl;rw [hrow]at HO;simp only [aB,b8]at HO ih⊢;apply ax;conv=>arg 4;whnf
   cases b with
   |false=>
    simp only [Bool.false_eq_true,if_false]at HO h1 h2;have ih':=ih (i+1) i a (by omega) ho h1 h2;simp [hil,hlen,c1,c2,ne1,fe,HO,hw,hiw,hiw'];simpa using ih'
   |true=>
    simp only [if_true]at HO h1 h2
    cases hc:cont (b8 w 4 h 0 0 i) a with
    |true=>
     rw [hc]at h1 h2;simp only [b8]at hc;rw [hc]at HO;simp only [if_true]at h1 h2;have ih':=ih (i+1) i (next (b8 w 4 h 0 0 i) a) (by omega) (hC.ZG _ _ hx ho hc) h1 h2
     simp only [b8]at ih';simp [hil,hlen,c1,c2,ne1,fe,HO,hw,hiw,hiw'];simpa using ih'
    |false=>
     rw [hc]at h1 h2;have h2':=h2 _ [(8, .box [.pure (.int .i64 0), .pure (.int .i64 w), .pure (.int .i64 4), .pure (.int .i64 h), .pure (.int .i64 0), .pure (.int .i64 0), .pure (.int .i64 i), .pure (.int .i64 0), .pure (.int .i64 0)])] rfl;simp only [b8]at hc h2';rw [hc]at HO;simp [hil,hlen,c1,c2,ne1,fe,HO,hw,hiw,hiw'];simpa using h2'
end
end
section
variable {c:Nat} {H:aj}
def xd (r:aA)(w kind:Nat)(k h:Nat):List ak:=(List.range' h k).flatMap fun(h:Nat)=>ic r.aa.length r.ah.length w kind h
theorem sU (r:aA)(w kind k h:Nat):xd r w kind (k+1) h=ic r.aa.length r.ah.length w kind h++xd r w kind k (h+1):=by simp [xd,List.range'_succ]
theorem ya (r:aA)(w kind:Nat):xd r w kind 2 0=nR r.aa.length r.ah.length w kind:=by
 rw [sU,sU];simp [xd,nR]
section
variable {r:aA} {s:aw} {w:Nat} {nm:Nm} {n0:Nat} {α:Type} {C:α→aj} {cont:ak→α→Bool} {next:ak→α→α} {ok:α→Prop} {A:ak→Prop} (hC:Aw nm n0 α C (bV r s w) cont next ok A) (hS:fR r s) (hW:WB r) (hA: ∀x,A x→AB r w x)
include hC hS hW hA
theorem Bf {F0:Fr}(f3:F0.get 3=some (.box [.yield nm])){kind:Nat}(hk1:kind≠1)(hk:kind≤8)(hall: ∀x∈xd r w kind 2 0,A x)(Q:GX→bN→Prop): ∀(k h:Nat) (a:α),h+k=2→ok a→
  (∀a',fk (bV r s w) cont next (xd r w kind k h) a=(a',true)→ok a'→Q (.exit 4) ⟨[(1, .b7 (aQ r s)),(2, .b7 [.int .i64 w]),(4,kh r s n0),(5, .pure (.int .i64 kind))],[]::F0::C a',79⟩)→
  (∀a',fk (bV r s w) cont next (xd r w kind k h) a=(a',false)→Q .ret ⟨[(1, .b7 (aQ r s)),(2, .b7 [.int .i64 w]),(4,kh r s n0),(5, .pure (.int .i64 kind))],[]::F0::C a',79⟩)→
  gS KC au 132 (lp Tryz.f132 2) [1,2,4,5,30] [1,2,4,5] Q
   [(1, .b7 (aQ r s)),(2, .b7 [.int .i64 w]),(4,kh r s n0),(5, .pure (.int .i64 kind)),(30, .pure (.int .i64 h))] ([]::F0::C a) 79:=by
 have hlen:=hC.len;have CL:=fun(G:aj) (l0:Nat) (h:n0≤l0)=>jR (r:=r) (s:=s) (G:=G) h;have c0:=fun G=>CL G n0 (by omega);have c1:=fun G=>CL G (n0+1) (by omega);have c2:=fun G=>CL G (n0+2) (by omega);intro k
 induction k with
 |zero=>
  intro h a hk ho h1 _;have h1':=h1 a rfl ho;have hnl: ¬h<2:=(by omega);have hnl': ¬(h:Int)<2:=(by omega);apply ax;conv=>arg 4;whnf
  simp [hnl,hnl',hlen,c0,c1,c2];simpa using h1'
 |succ k ih=>
  intro h a hkh ho h1 h2;have hil:h<2:=(by omega);have hil':(h:Int)<2:=(by omega);have hw:=dh (x:=(h:Int)+1) (by omega) (by omega);rw [sU,jv]at h1 h2
  have hsub: ∀x∈ic r.aa.length r.ah.length w kind h,A x:=fun x hx=>hall x (by
   unfold xd;exact List.mem_flatMap.2 ⟨h,by simp [List.mem_range'];omega,hx⟩)
  have hsl:3≤(aQ r s).length:=by show 3≤10;omega
  have hsl2:2≤(aQ r s).length:=by show 2≤10;omega
  have hpt:List.drop 3 (aQ r s)= .slice (r.aa.map bc.row)::List.drop 4 (aQ r s):=rfl;have hpp:List.drop 2 (aQ r s)= .slice (r.ah.map aW.row)::List.drop 3 (aQ r s):=rfl;by_cases k2:kind=2
  ·subst k2;have ek:ic r.aa.length r.ah.length w 2 h=ib w h r.aa.length 0:=rfl;rw [ek]at hsub h1 h2;have L:=fun Q t h1 h2=>Bd hC hS hW hA f3 (n:=r.aa.length) (h:=h) hW.tl hsub Q r.aa.length 0 t a (by omega) ho h1 h2;simp only [aB,b8]at L;apply ax;conv=>arg 4;whnf
   simp [hil,hil',hlen,c0,c1,c2,hsl,hsl2,hpt,hpp];refine L _ _ (fun a' t' e ho'=> ?_) (fun a' F1 e=> ?_)
   ·rw [e]at h1 h2;simp only [if_true]at h1 h2;have ih':=ih (h+1) a' (by omega) ho' h1 h2;simp [hlen,c0,c1,c2,hw];simpa using ih'
   ·rw [e]at h2;have h2':=h2 a' rfl;simp [hlen,c0,c1,c2];simpa using h2'
  ·have k2':((kind:Int)==2)=false:=(by simp;omega);by_cases k4:kind=4
   ·subst k4;have ek:ic r.aa.length r.ah.length w 4 h=gw w h r.ah.length 0:=rfl;rw [ek]at hsub h1 h2;have L:=fun Q t h1 h2=>Be hC hS hW hA f3 (n:=r.ah.length) (h:=h) hW.pl hsub Q r.ah.length 0 t a (by omega) ho h1 h2;simp only [aB,b8]at L;apply ax;conv=>arg 4;whnf
    simp [hil,hil',hlen,c0,c1,c2,hsl,hsl2,hpt,hpp];refine L _ _ (fun a' t' e ho'=> ?_) (fun a' F1 e=> ?_)
    ·rw [e]at h1 h2;simp only [if_true]at h1 h2;have ih':=ih (h+1) a' (by omega) ho' h1 h2;simp [hlen,c0,c1,c2,hw];simpa using ih'
    ·rw [e]at h2;have h2':=h2 a' rfl;simp [hlen,c0,c1,c2];simpa using h2'
   ·have k4':((kind:Int)==4)=false:=(by simp;omega);have ek:ic r.aa.length r.ah.length w kind h=[b8 w kind h 0 0 0]:=(by unfold ic;rw [if_neg k2,if_neg k4]);rw [ek]at hsub h1 h2;have hx:=hsub _ (List.mem_singleton.2 rfl);have HO:=fun(c:Nat)=>uN (c:=c) hC hS hW hA f3 hx ho [aB (b8 w kind h 0 0 0),[]];simp only [fk]at h1 h2;simp only [List.cons_append,List.nil_append]at HO;have hrow:(b8 w kind h 0 0 0).row=[.int .i64 0, .int .i64 w, .int .i64 kind, .int .i64 h, .int .i64 0, .int .i64 0, .int .i64 0, .int .i64 0, .int .i64 0]:=rfl;rw [hrow]at HO;apply ax;conv=>arg 4;whnf
    cases hB:bV r s w (b8 w kind h 0 0 0)with
    |false=>
     simp only [hB,Bool.false_eq_true,if_false,if_true]at HO h1 h2;have ih':=ih (h+1) a (by omega) ho h1 h2;simp only [aB,b8]at HO;simp [hil,hil',hlen,c0,c1,c2,k2',k4',fe,HO,hw];simpa using ih'
    |true=>
     simp only [hB,if_true]at HO h1 h2
     cases hc:cont (b8 w kind h 0 0 0) a with
     |true=>
      simp only [hc,if_true]at HO h1 h2;have ih':=ih (h+1) (next (b8 w kind h 0 0 0) a) (by omega) (hC.ZG _ _ hx ho hc) h1 h2
      simp only [aB,b8]at HO ih';simp [hil,hil',hlen,c0,c1,c2,k2',k4',fe,HO,hw];simpa using ih'
     |false=>
      simp only [hc,Bool.false_eq_true,if_false]at HO h2;have h2':=h2 _ rfl;simp only [aB,b8]at HO h2';simp [hil,hil',hlen,c0,c1,c2,k2',k4',fe,HO,hw];simpa using h2'
end
end
section
variable {c:Nat} {H:aj}
section
variable {r:aA} {s:aw} {w:Nat} {nm:Nm} {n0:Nat} {α:Type} {C:α→aj} {cont:ak→α→Bool} {next:ak→α→α} {ok:α→Prop} {A:ak→Prop} (hC:Aw nm n0 α C (bV r s w) cont next ok A) (hS:fR r s) (hW:WB r) (hA: ∀x,A x→AB r w x)
include hC hS hW hA
theorem Bg {F0:Fr}(f3:F0.get 3=some (.box [.yield nm]))(hall: ∀x∈fE r.aa.length r.ah.length w 7 2,A x)(Q:GX→bN→Prop): ∀(k i:Nat) (a:α),i+k=9→2≤i→ok a→
  (∀a',fk (bV r s w) cont next (fE r.aa.length r.ah.length w k i) a=(a',true)→ok a'→Q (.exit 0) ⟨[],F0::C a',79⟩)→
  (∀a',fk (bV r s w) cont next (fE r.aa.length r.ah.length w k i) a=(a',false)→Q .ret ⟨[],F0::C a',79⟩)→
  gS KC au 132 (lp Tryz.f132 0) [1,2,4,5] [] Q
   [(1, .b7 (aQ r s)),(2, .b7 [.int .i64 w]),(4,kh r s n0),(5, .pure (.int .i64 i))] (F0::C a) 79:=by
 have hlen:=hC.len;have CL:=fun(G:aj) (l0:Nat) (h:n0≤l0)=>jR (r:=r) (s:=s) (G:=G) h;have c0:=fun G=>CL G n0 (by omega);have c1:=fun G=>CL G (n0+1) (by omega);intro k
 induction k with
 |zero=>
  intro i a hk hi ho h1 _;have h1':=h1 a rfl ho;have hnl': ¬(i:Int)≤8:=(by omega);apply ax;conv=>arg 4;whnf
  simp [hnl',hlen,c0,c1];simpa using h1'
 |succ k ih=>
  intro i a hk hi ho h1 h2;have hil':(i:Int)≤8:=(by omega);have hi1:((i:Int)==1)=false:=(by simp;omega);have hw:=dh (x:=(i:Int)+1) (by omega) (by omega);rw [oU,jv,←ya]at h1 h2
  have hsub: ∀x∈xd r w i 2 0,A x:=fun x hx=>hall x (by
   unfold fE;rw [ya]at hx;exact List.mem_flatMap.2 ⟨i,List.mem_range'_1.2 ⟨hi,by omega⟩,hx⟩)
  have L:=fun Q h1 h2=>Bf hC hS hW hA f3 (kind:=i) (by omega) (by omega) hsub Q 2 0 a rfl ho h1 h2;apply ax;conv=>arg 4;whnf
  simp [hil',hi1,hlen,c0,c1];refine L _ (fun a' e ho'=> ?_) (fun a' e=> ?_)
  ·rw [e]at h1 h2;simp only [if_true]at h1 h2;have ih':=ih (i+1) a' (by omega) (by omega) ho' h1 h2;simp [hlen,c0,c1,hw];simpa using ih'
  ·rw [e]at h2;have h2':=h2 a' rfl;simp [hlen,c0,c1];simpa using h2'
theorem yT {n:Nat}(hn:IntKind.i64.wrap (r.wide*r.deep)=n)(hn0:n≤1000000)(hall: ∀x∈bJ n r.aa.length r.ah.length w,A x){a:α}(ha:ok a):
  aL KC (aE KC) 132 [.yield nm, .b7 (aQ r s), .b7 [.int .i64 w]] c (C a)=some (.pure (.tuple []),C (fk (bV r s w) cont next (bJ n r.aa.length r.ah.length w) a).1):=by
 have hlen:=hC.len;have hpos:=hC.pos;refine aO (bf KC au Tryz.func132 rfl rfl L9 rfl rfl rfl (by simp) (by rw [hlen];exact hpos) ?_);have CL:=fun(G:aj) (l0:Nat) (h:n0≤l0)=>jR (r:=r) (s:=s) (G:=G) h;have c0:=fun G=>CL G n0 (by omega);have c1:=fun G=>CL G (n0+1) (by omega);have f3:Fr.get [(3, .box [.yield nm])] 3=some (.box [.yield nm]):=rfl;have es:bJ n r.aa.length r.ah.length w=gC w n 0++fE r.aa.length r.ah.length w 7 2:=rfl;rw [es]at hall⊢;rw [jv];have h1: ∀x∈gC w n 0,A x:=fun x hx=>hall x (List.mem_append_left _ hx);have h2: ∀x∈fE r.aa.length r.ah.length w 7 2,A x:=fun x hx=>hall x (List.mem_append_right _ hx);have L1:=fun Q q1 q2=>Db hC hS hW hA f3 hn0 h1 Q n 0 a (by omega) ha q1 q2;have hlp:=hC.lp;have hm:=fun(c:Nat) (H:aj) (hH:0<H.length)=>Aq (c:=c) (H:=H) (hH:=hH) (w:=r.wide) (d:=r.deep) (x1:= .slice (r.ah.map aW.row)) (x2:= .slice (r.aa.map bc.row)) (x3:= .slice (r.seen.map aG)) (x4:= .slice (r.br.map aG)) (x5:= .slice (r.ai.map ak.row));have hsl:(aQ r s).length=10:=rfl;have hpp:List.take 7 (aQ r s)=[.int .i64 r.wide, .int .i64 r.deep, .slice (r.ah.map aW.row), .slice (r.aa.map bc.row), .slice (r.seen.map aG), .slice (r.br.map aG), .slice (r.ai.map ak.row)]:=rfl;simp [hlen];rw [show GV.func 133 [] [.b7 (aQ r s), .ay (n0,3) 0]=kh r s n0 from rfl]
 apply ax;conv=>arg 4;whnf
 simp [hlen,c0,c1,hm,hsl,hpp,hn];refine L1 _ (fun a' e ho'=> ?_) (fun a' e=> ?_)
 ·rw [e];simp only [if_true];have L2:=fun Q q1 q2=>Bg hC hS hW hA f3 h2 Q 7 2 a' rfl (Nat.le_refl _) ho' q1 q2;simp [hlen,c0,c1];refine L2 _ (fun a2 e2 ho2=> ?_) (fun a2 e2=> ?_)
  ·rw [e2];simp [ae,hlen]
  ·rw [e2];simp [ae,hlen]
 ·rw [e];simp [ae,hlen,c0,c1]
end
theorem HP {r:aA}{s:aw}{w:Nat}(hH:0<H.length):
  aL KC (aE KC) 117 [.pure (.agg (aQ r s)), .pure (.int .i64 w)] c H=some (.func 132 [] [.b7 (aQ r s), .b7 [.int .i64 w]],H):=by
 refine aO (bf KC au Tryz.func117 rfl rfl LR rfl rfl rfl (by simp) hH ?_);have h1: ¬H.length≤H.length-1:=(by omega);rw [aQ];simp;rw [ae (by simp)];simp [clean,iB,dE,pV,rU,h1,bm,canon,cj]
end
section
variable {c:Nat} {H:aj}
noncomputable def gM:aA→Nat→aw→Bool:=nL fun r w s=>r.seen.contains (s.ah.getD w 0)
theorem sV (r:aA)(w:Nat)(s:aw):gM r w s=r.seen.contains (s.ah.getD w 0):=by rw [gM,cN]
theorem yb {r:aA}{w:Nat}{s:aw}{a:ak}(hk:1≤a.kind∧a.kind≤8)(hw:w<s.ah.length):m6 r s w a=(bV r s w a && !(gM r w s||gM r w (cR s w a))):=by
 have e:(cR s w a).ah.getD w 0=if a.kind=1 then a.cell else s.ah.getD w 0:=by
  by_cases k1:a.kind=1
  ·rw [if_pos k1,lI k1];simp [List.getD_eq_getElem?_getD,hw]
  ·rw [if_neg k1,vY hk k1]
 rw [rK,sV,sV,e,j4];congr 2;rw [Bool.eq_iff_iff];simp;constructor
 ·rintro⟨x,h1,h2|h2⟩
  ·exact Or.inl (h2▸h1)
  ·exact Or.inr (h2▸h1)
 ·rintro(h|h)
  ·exact⟨_,h,Or.inl rfl⟩
  ·exact⟨_,h,Or.inr rfl⟩
noncomputable def gX (r:aA)(w:Nat)(all:List ak)(fin:aw→List ak→Bool):Nat→aw→List ak→GV→GV×Bool
 |0,s,l,g=>(.pure (.slice (l.map ak.row)),fin s l)
 |n+1,s,l,g=>if gM r w s=true then (g,false)else
  (fk (bV r s w) (fun x (a:GV×Bool)=>if gM r w (cR s w x)=true then true else !(gX r w all fin n (cR s w x) (l++[x]) a.1).2)
   (fun x (a:GV×Bool)=>if gM r w (cR s w x)=true then a else gX r w all fin n (cR s w x) (l++[x]) a.1) all (g,false)).1
theorem Ee {r:aA}{w:Nat}{all:List ak}{fin:aw→List ak→Bool}(hab: ∀x∈all,AB r w x): ∀(n:Nat) (s:aw) (l:List ak) (g:GV),fR r s→
  (gX r w all fin n s l g).2=(uC r w all fin n s l).isSome∧ ∀x,uC r w all fin n s l=some x→(gX r w all fin n s l g).1= .pure (.slice (x.map ak.row))
 |0,s,l,g,_=>by
  unfold gX uC
  cases fin s l with
  |true=>exact⟨rfl,fun x e=>by cases e;rfl⟩
  |false=>exact⟨rfl,fun x e=>by cases e⟩
 |n+1,s,l,g,hS=>by
  unfold gX uC
  have hf: ∀(all':List ak),(∀x∈all',AB r w x)→ ∀g:GV,gM r w s=false→
    let q:=(fk (bV r s w) (fun x (a:GV×Bool)=>if gM r w (cR s w x)=true then true else !(gX r w all fin n (cR s w x) (l++[x]) a.1).2)
     (fun x (a:GV×Bool)=>if gM r w (cR s w x)=true then a else gX r w all fin n (cR s w x) (l++[x]) a.1) all' (g,false)).1
    let o:=all'.findSome? fun a=>if m6 r s w a=true then uC r w all fin n (cR s w a) (l++[a])else none
    q.2=o.isSome∧ ∀x,o=some x→q.1= .pure (.slice (x.map ak.row)):=fun all'=>by
   induction all' with
   |nil=>intro _ g _;exact⟨rfl,fun x e=>by cases e⟩
   |cons a all' ih=>
    intro ha g hs;have hA:=ha a (by simp);have hu:=yb (r:=r) (s:=s) hA.kind (by rw [hS.pl];exact hA.wl);rw [hs,Bool.false_or]at hu;simp only [fk,List.findSome?_cons]
    cases hp:bV r s w a with
    |false=>
     rw [hp,Bool.false_and]at hu;rw [if_neg (by simp),if_neg (by simp [hu])];exact ih (fun x hx=>ha x (by simp [hx])) g hs
    |true=>
     rw [hp,Bool.true_and]at hu;rw [if_pos rfl]
     cases hs2:gM r w (cR s w a)with
     |true=>
      rw [hs2]at hu;simp only [hs2,if_true];rw [if_neg (show¬m6 r s w a=true by simp [hu])]
      exact ih (fun x hx=>ha x (by simp [hx])) g hs
     |false=>
      rw [hs2]at hu;obtain⟨t1,t2⟩:=Ee hab n (cR s w a) (l++[a]) g (hS.Q1 hA hp);simp only [hs2,Bool.false_eq_true,if_false];rw [if_pos (show m6 r s w a=true by simp [hu])]
      generalize hT:gX r w all fin n (cR s w a) (l++[a]) g=T at t1 t2⊢
      cases ho:uC r w all fin n (cR s w a) (l++[a])with
      |some x=>
       rw [ho]at t1 t2;have t1':T.2=true:=t1;rw [if_neg (by simp [t1'])];exact⟨t1,fun y e=>t2 y e⟩
      |none=>
       rw [ho]at t1;have t1':T.2=false:=t1;rw [if_pos (by simp [t1'])];have e2:T=(T.1,false):=(by rw [←t1']);rw [e2];exact ih (fun x hx=>ha x (by simp [hx])) T.1 hs
  cases hs:gM r w s with
  |true=>
   rw [if_pos rfl];have:(all.findSome? fun a=>if m6 r s w a=true then uC r w all fin n (cR s w a) (l++[a])else none)=none:=by
    rw [List.findSome?_eq_none_iff];intro x hx;have hA:=hab x hx;have hu:=yb (r:=r) (s:=s) hA.kind (by rw [hS.pl];exact hA.wl);rw [hs]at hu;simp [hu]
   rw [this];exact⟨rfl,fun x e=>by cases e⟩
  |false=>
   rw [if_neg (by simp)];exact hf all hab g hs
theorem Ed {r:aA}(sh:iG r){s:aw}{w:Nat}(hw:w<s.ah.length){n3 n9:Nm}(g3:H.get n3=some (aR r))(g9:H.get n9=some (.box [.pure (.int .i64 w)]))(hH:0<H.length):
  aL KC (aE KC) 114 [.pure (.agg (aQ r s)), .ay n3 0, .ay n9 0] c H=some (.pure (.bool (gM r w s)),H):=by
 refine aO (bf KC au Tryz.func114 rfl rfl LO rfl rfl rfl (by simp) hH ?_);have l3:=aj.bL g3;have l9:=aj.bL g9;have ne3: ¬n3.1=H.length:=(by omega);have ne9: ¬n9.1=H.length:=(by omega);have C:=fun(c:Nat) (H:aj) (hH:0<H.length)=>nS (c:=c) (H:=H) r.seen s.ah[w] sh.s hH;have hgd:s.ah.getD w 0=s.ah[w]:=aM hw;rw [sV,hgd];simp only [aR]at g3;rw [aQ];simp [g3,g9,ne3,ne9,l3,l9,hw,aG,C,ae]
theorem D9 {r:aA}(hW:WB r)(ai:List ak)(hal:ai.length≤1000000)(hA: ∀a∈ai,AB r a.aN.toNat a){s:aw}(hS:fR r s)(hF:Full s)(hH:0<H.length):
  aL KC (aE KC) 93 [.pure (.agg (aQ r s)), .pure (.slice (ai.map ak.row)), .pure (.fn 59)] c H=
   some (.pure (.tuple [.agg (aQ r (bw r ai.length s ai 0).2.1), .int .i64 (bw r ai.length s ai 0).2.2.1, .int .i64 (bw r ai.length s ai 0).2.2.2]),H):=by
 rw [jG rfl rfl rfl];exact yP (c:=c) hW (sT r H hH) ai hal hA hS hF
end
end Go.Gh
