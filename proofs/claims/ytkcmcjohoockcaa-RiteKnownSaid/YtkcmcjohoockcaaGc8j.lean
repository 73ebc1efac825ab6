/- Texts joined: the evaluator over ghost values, its soundness, the walks. Spaces struck and names made short by a program, for the size. -/
import Derived.Test.YtkcmcjohoockcaaGc8i
import Derived.KernelRfl
import Derived.Test.YtkcmcjohoockcaaGc8f
import Derived.Test.YtkcmcjohoockcaaGc8e
import Derived.ProofKit
import Derived.OpenShut
import Derived.ChangeOld
import Derived.Below
import Derived.Carry
namespace Go.Gh
open Go.Proofs
set_option linter.unusedVariables false
set_option linter.unusedSimpArgs false
set_option linter.unnecessarySimpa false
set_option maxRecDepth 100000
set_option maxHeartbeats 8000000
section
variable {c:Nat} {H:ae}
section
variable {r:aI} {w:Nat} {aj:List ai} {nU:Nat} {n3 n8 n9 n11 n15 n16 n17:Nm} {n0:Nat} {C:GV→ae} (M:R8 r w aj nU n3 n8 n9 n11 n15 n16 n17 n0 C) (P:ua r w aj nU)
include M P
theorem Dc {nc:Nat}(hnc:IntKind.i64.wrap (r.wide*r.deep)=nc)(hnc2:(nc:Int)=r.wide*r.deep)(hnc0:nc≤1000000): ∀(n:Nat),n≤1000→ ∀(c:Nat) (s:az) (l:List ai) (g:GV) (pre:ae),e9 r s→Full s→l.length+n≤100001→
      bG KC (aE KC) 93 [.pure (.agg (aH r s)), .pure (.slice (l.map ai.row)), .pure (.int .i64 n), .aA n8 0, .aA n11 0, .aA n16 0, .aA n15 0, .aA n9 0, .aA n17 0] c (pre++C g)=
        some (.pure (.bool (fh r w (cL nc r.aa.length r.ak.length w) (mz r (aj.drop nU)) n s l g).2),pre++C (fh r w (cL nc r.aa.length r.ak.length w) (mz r (aj.drop nU)) n s l g).1)
  |0,_,c,s,l,g,pre,hS,hF,hl=>R9 M P hS hF l g pre
  |n+1,hn,c,s,l,g,pre,hS,hF,hl=>by
    refine aU (aM KC au Try.func93 rfl rfl B6 (by simp) (by simp [M.len];have:=M.pos;omega) ?_);have hlen:=M.len;have G:=fun(g:GV) (nm:Nm) (h:nm.1<n0)=>kJ (G:=C g) (nm:=nm) (by rw [hlen];exact h) pre;have G3:=fun g=>(G g n3 M.l3).trans (M.g3 g);have G9:=fun g=>(G g n9 M.l9).trans (M.g9 g);have G15:=fun g=>(G g n15 M.Sa).trans (M.JR g);have ne3: ¬n3.1=pre.length+n0:=(by have:=M.l3;omega);have ne9: ¬n9.1=pre.length+n0:=(by have:=M.l9;omega);have ne15: ¬n15.1=pre.length+n0:=(by have:=M.Sa;omega);have h0:(((n:Int)+1)==0)=false:=(by simp;omega);have SN:=fun(c:Nat) (F:Fr)=>zD (c:=c) (H:=F::(pre++C g)) P.hr.sh (s:=s) (w:=w) (by rw [hS.pl];exact P.wl) (n3:=n3) (n9:=n9) (by rw [ae.eF,if_neg (by simp [hlen,ne3])];exact G3 g) (by rw [ae.eF,if_neg (by simp [hlen,ne9])];exact G9 g) (by simp)
    cases hs:eS r w s with
    |true=>
      have et:fh r w (cL nc r.aa.length r.ak.length w) (mz r (aj.drop nU)) (n+1) s l g=(g,false):=by
        unfold fh;rw [if_pos hs]
      rw [et];rw [hs,aH]at SN;rw [aH];simp [hlen,h0,ne3,ne9,ne15,G15,G9,SN,ah]
    |false=>
      have R:=fun st Q=>Ba M P hS hF l (by omega) (n:=n) (fin:=mz r (aj.drop nU)) (by omega) hnc hnc2 hnc0 (fun c s l g pre hS hF hl=>Dc hnc hnc2 hnc0 n (by omega) c s l g pre hS hF hl) (by omega) pre rfl g hs st Q;have PG:=fun(c:Nat) (H:ae) (hH:0<H.length)=>Dd (c:=c) (H:=H) (r:=r) (s:=s) (w:=w) hH;rw [hs]at SN;simp only [aH]at SN PG R⊢;simp [hlen,h0,ne3,ne9,ne15,G15,G9,SN,PG];generalize fh r w (cL nc r.aa.length r.ak.length w) (mz r (aj.drop nU)) (n+1) s l g=T at R⊢;obtain⟨Tg,Tb⟩:=T;refine R _ _ (by simp [bx]) rfl (by simp [look]) (by simp [look]) (by simp [look]) (by simp [look]) (by simp [look]) (by simp [look]) (by simp [look]) fun lb=> ?_
      cases Tb with
      |true=>
        simp [CT,yB,hlen,ah]
      |false=>
        simp [CT,yB,hlen,ah]
end
end
section
variable {c:Nat} {H:ae}
def xF (r:aI)(w:Nat)(aj:List ai)(nU:Nat)(s:az)(L:Nat)(g:GV):Fr:=
 [(3,bs r),(8, .box [.pure (.slice (aj.map ai.row))]),(9, .box [.pure (.int .i64 w)]),(11, .box [.pure (.int .i64 nU)]),(12,bx r s),(15, .box [.func 91 [] [.aA (L,3) 0, .aA (L,9) 0]]),(16, .box [g]),(17, .box [.func 93 [] [.aA (L,8) 0, .aA (L,11) 0, .aA (L,16) 0, .aA (L,15) 0, .aA (L,9) 0, .aA (L,17) 0]])]
theorem Sb (r:aI)(w:Nat)(aj:List ai)(nU:Nat)(s:az)(H:ae):R8 r w aj nU (H.length,3) (H.length,8) (H.length,9) (H.length,11) (H.length,15) (H.length,16) (H.length,17) (H.length+1) (fun g=>xF r w aj nU s H.length g::H) where
 pos:=by omega
 len:=fun g=>by simp
 l3:=by simp
 l8:=by simp
 l9:=by simp
 Uw:=by simp
 Sa:=by simp
 TB:=by simp
 Ux:=by simp
 g3:=fun g=>by simp [xF]
 g8:=fun g=>by simp [xF]
 g9:=fun g=>by simp [xF]
 Pz:=fun g=>by simp [xF]
 JR:=fun g=>by simp [xF]
 UK:=fun g=>by simp [xF]
 UL:=fun g g'=>by simp [xF]
 PA:=fun g=>by simp [xF]
section
variable {r:aI} {w:Nat} {aj:List ai} {nU:Nat} (P:ua r w aj nU)
include P
theorem xf {nc:Nat}(hnc:IntKind.i64.wrap (r.wide*r.deep)=nc)(hnc2:(nc:Int)=r.wide*r.deep)(hnc0:nc≤1000000){s:az}(hS:e9 r s)(hF:Full s)(Q:GX→bE→Prop): ∀(k n:Nat) (g:GV),n+k=4→
  (((List.range' n k).findSome? fun n=>xG r w (cL nc r.aa.length r.ak.length w) (mz r (aj.drop nU)) n s [])=none→ ∀g',Q (.exit 0) ⟨[(6,aG),(7,aG)],xF r w aj nU s H.length g'::H,60⟩)→
  (∀x,((List.range' n k).findSome? fun n=>xG r w (cL nc r.aa.length r.ak.length w) (mz r (aj.drop nU)) n s [])=some x→ ∀g',Q .ret ⟨[(6, .pure (.slice (x.map ai.row))),(7, .pure (.bool true))],xF r w aj nU s H.length g'::H,60⟩)→
  jf KC au 82 (lp Try.f82 0) [12,16,17,51] [6,7] Q [(12, .aA (H.length,12) 0),(16, .aA (H.length,16) 0),(17, .aA (H.length,17) 0),(51, .pure (.int .i64 n))] (xF r w aj nU s H.length g::H) 60:=by
 have M:=Sb r w aj nU s H;have ne1: ¬H.length=H.length+1:=(by omega);intro k
 induction k with
 |zero=>
  intro n g hk h1 _;have hn:n=4:=(by omega);subst hn;have h1':=h1 rfl g;apply aw;conv=>arg 4;whnf
  simp;simpa using h1'
 |succ k ih=>
  intro n g hk h1 h2;have hn:(n:Int)<4:=(by omega);have hw:=dM (x:=(n:Int)+1) (by omega) (by omega);have T:=Dc M P hnc hnc2 hnc0 n (by omega) 57 s [] g [[]] hS hF (by simp;omega);obtain⟨t1,t2⟩:=zE (r:=r) (w:=w) (all:=cL nc r.aa.length r.ak.length w) (fin:=mz r (aj.drop nU)) (fun x hx=>(te (n:=nc) hnc2.symm P.wl hx).1) n s [] g hS;obtain⟨F',r3,e3⟩:=sf (f:=93) rfl rfl rfl [] (F:=[]) (H:=xF r w aj nU s H.length g::H) (.rd (g:= .pure (.agg (aH r s))) rfl fX (.Sc (g:= .aO) (q:= .slice []) rfl rfl (fun _ _ _ _ _ e=>by cases e) (.rd (g:= .pure (.int .i64 n)) rfl fX (.ptr (nm:=(H.length,8)) (o:=0) (.ptr (nm:=(H.length,11)) (o:=0) (.ptr (nm:=(H.length,16)) (o:=0) (.ptr (nm:=(H.length,15)) (o:=0) (.ptr (nm:=(H.length,9)) (o:=0) (.ptr (nm:=(H.length,17)) (o:=0) .nil)))))))));have hF':=r3.empty;subst hF';have I:=(e3 57).trans T;simp only [aH,List.nil_append,List.cons_append]at I;rw [List.range'_succ,List.findSome?_cons]at h1 h2;generalize fh r w (cL nc r.aa.length r.ak.length w) (mz r (aj.drop nU)) n s [] g=X at I t1 t2;obtain⟨Xg,Xb⟩:=X;obtain⟨o,ho⟩: ∃o,xG r w (cL nc r.aa.length r.ak.length w) (mz r (aj.drop nU)) n s []=o:=⟨_,rfl⟩;rw [ho]at t1 t2 h1 h2
  cases o with
  |some x=>
   have h2':=h2 x rfl Xg;have e1:Xb=true:=t1;have e2:Xg= .pure (.slice (x.map ai.row)):=t2 x rfl;subst e1 e2;simp only [xF,bx]at I h2'⊢;apply aw;conv=>arg 4;whnf
   simp [hn,ne1,I];simpa using h2'
  |none=>
   have e1:Xb=false:=t1;subst e1;have ih':=ih (n+1) Xg (by omega) h1 h2;simp only [xF,bx]at I ih'⊢;apply aw;conv=>arg 4;whnf
   simp [hn,ne1,I,hw];simpa using ih'
end
end
section
variable {c:Nat} {H:ae}
def He (o:Option (List ai)):PV:= .tuple (match o with|some l=> [.slice (l.map ai.row), .bool true]|none=> [.slice [], .bool false])
theorem yC {r:aI}{k:Nat}{kind:Int}(h:sS r k kind)(h20:r.aj.length≤20)(hH:0<H.length):
  bG KC (aE KC) 82 [.pure (.agg r.row), .pure (.int .i64 k), .pure (.int .i64 kind)] c H=some (.pure (He (gq r k kind)),H):=by
 refine aU (aM KC au Try.func82 rfl rfl Ln (by simp) hH ?_);have sh:=h.run.sh;have tm: ∀a∈r.aj,0≤a.aQ∧a.aQ≤1000000:=fun a ha=>(by have:=h.tm a ha;omega);have hlt:=h.lt;have hg:=h.get;have hw0:(r.aj[k]'hlt).aY=(sg r k:Int):=by
  have:=(h.run.ab _ (List.getElem_mem hlt)).aY;unfold sg;rw [hg];exact this
 obtain⟨A,hA⟩: ∃A,oS r k kind=A:=⟨_,rfl⟩;have hAl:A.length≤40:=(by rw [←hA];have:=De h;have:=h.TC;omega);have hAb: ∀a∈A,AB r a.aY.toNat a:=fun a ha=>(Df h (hA▸ha)).1;have LP:=fun(c:Nat) (H:ae) (hH:0<H.length)=>Bb (c:=c) (H:=H) h.run hlt h.pw tm h20 h.hand hH;have AF:=fun(c:Nat) (H:ae) (hH:0<H.length)=>Dg (c:=c) (H:=H) hlt h.run.al (tm _ (List.getElem_mem hlt)) kind A (by omega) (g:= .pure (.slice (A.map ai.row))) rfl hH;rw [hA]at LP;obtain⟨m,hm⟩: ∃m,qm r k kind=m:=⟨_,rfl⟩;rw [hm]at AF;have FP:=fun(c:Nat) (H:ae) (hH:0<H.length)=>oC (c:=c) (H:=H) r h.run.w.pl h.run.w.tl hH;have hF:Full (aV r):=⟨by simpa [aV]using h.run.p0,by simpa [aV]using h.run.p0,by simp [aV];exact h.run.w.pl,by simp [aV];exact h.run.w.pl,by simp [aV];exact h.run.w.tl⟩;have hUb: ∀a∈fu m A,AB r a.aY.toNat a:=fun a ha=>hAb a (oT ha).2;have hUl:(fu m A).length≤A.length:=(List.takeWhile_sublist _).length_le;have RB:=fun(c:Nat) (H:ae) (hH:0<H.length)=>zF (c:=c) (H:=H) h.run.w (fu m A) (by omega) hUb h.run.snd hF hH;have hsn:=(lW (fu m A).length (aV r) (fu m A) 0 h.run.snd hUb).1;have eU:fu m A=A.take (fu m A).length:=by
  have e:=pT m A;obtain⟨U,hU⟩: ∃U,fu m A=U:=⟨_,rfl⟩;rw [hU]at e⊢;rw [←e];exact List.take_left.symm
 have eB:A.drop (fu m A).length=behind m A:=by
  have e:=pT m A;obtain⟨V,hV⟩: ∃V,behind m A=V:=⟨_,rfl⟩;obtain⟨U,hU⟩: ∃U,fu m A=U:=⟨_,rfl⟩;rw [hU,hV]at e;rw [hU,hV,←e];exact List.drop_left
 have hlen': ∀x:ai,x.row.length=9:=fun _=>rfl;have hO:gq r k kind=if (dn r (fu m A).length (aV r) (fu m A) 0).2.2.2≠0 then none else (List.range' 0 4).findSome? fun n=>xG r (sg r k) (cL (r.wide*r.deep).toNat r.aa.length r.ak.length (sg r k)) (mz r (A.drop (fu m A).length)) n (dn r (fu m A).length (aV r) (fu m A) 0).2.1 []:=by
  unfold gq zG Dh;rw [hm,hA,List.range_eq_range',eB];rfl
 rw [hO];have P:ua r (sg r k) A (fu m A).length:=⟨h.run.toJW,h.wl,hAb,by omega,hUl⟩;obtain⟨a1,a2,a3⟩:=h.Di;have rowU:List.take (fu m A).length (A.map ai.row)=(fu m A).map ai.row:=(by rw [←List.map_take,←eU]);obtain⟨q,hq⟩: ∃q,dn r (fu m A).length (aV r) (fu m A) 0=q:=⟨_,rfl⟩;rw [hq]at RB hsn⊢;have hF2:=vc h.run.snd hsn hF;have ML:=fun Q h1 h2=>xf (H:=H) P (nc:=(r.wide*r.deep).toNat) (by rw [a1];exact dM (by omega) (by omega)) a1 (by omega) hsn hF2 Q 4 0 .aO rfl h1 h2;obtain⟨u,hu⟩: ∃u,(fu m A).length=u:=⟨_,rfl⟩;rw [hu]at AF rowU hUl ML P⊢;simp only [aH]at FP RB;simp only [iP]at LP AF FP⊢;have unl: ¬(u:Int)<0:=(by omega);by_cases he:q.2.2.2=0
 ·rw [if_neg (by simpa using he)];rw [he]at RB;simp [LP,AF,FP,RB,hlt,ai.row,hw0,rowU,hUl,unl,hlen',-List.map_take];simp only [xF,bx,bs]at ML;refine ML _ (fun ho g'=> ?_) (fun x ho g'=> ?_)
  ·rw [ho];simp [ah,He]
  ·rw [ho];simp [ah,He]
 ·have he':(q.2.2.2==0)=false:=(by simpa using he);rw [if_pos he];simp [LP,AF,FP,RB,hlt,ai.row,hw0,rowU,hUl,unl,hlen',he,he',ah,He,-List.map_take]
end
section
variable {c:Nat} {H:ae}
theorem si {r:aI}{k:Nat}{kind:Int}(h:sS r k kind)(h20:r.aj.length≤20)(hH:0<H.length):
  aK KC (aE KC) 82 [.pure (.agg r.row), .pure (.int .i64 k), .pure (.int .i64 kind)] c H=some (.pure (He (gq r k kind)),H):=
 (sj (f:=82) (c:=c) (H:=H) rfl rfl rfl [.agg r.row, .int .i64 k, .int .i64 kind]).trans (yC (c:=c) h h20 hH)
theorem sk {r:aI}(sh:jM r)(act kind:Int)(hH:0<H.length):
  aK KC (aE KC) 81 [.pure (.agg r.row), .pure (.int .i64 act), .pure (.int .i64 kind)] c H=some (.pure (.int .i64 (vz r act kind)),H):=ey rfl rfl rfl rfl rfl hH fun H hH=>sm sh act kind hH
theorem Dj {r:aI}(sh:jM r)(h20:c7 r=0→r.aj.length≤20)(act kind:Int)(hH:0<H.length):
  bG KC (aE KC) 56 [.pure (.agg r.row), .pure (.int .i64 act), .pure (.int .i64 kind)] c H=some (.pure (zH r act kind),H):=by
 refine aU (aM KC au Try.func56 rfl rfl K8 (by simp) hH ?_);have K:=fun(c:Nat) (H:ae) (hH:0<H.length)=>sk (c:=c) (H:=H) sh act kind hH;unfold zH;by_cases he:vz r act kind=0
 ·obtain⟨k,rfl,hL⟩:=xg sh he;have MP:=fun(c:Nat) (H:ae) (hH:0<H.length)=>si (c:=c) (H:=H) hL (h20 hL.run.ck) hH;rw [if_neg (by simpa using he)];rw [he]at K;show j5 _ _
  rw [show gq r (k:Int).toNat kind=gq r k kind from rfl]
  cases ho:gq r k kind with
  |some l=>
   rw [ho]at MP;simp only [He]at MP;rw [iP]at K MP⊢;simp [K,MP,ah]
  |none=>
   rw [ho]at MP;simp only [He]at MP;rw [iP]at K MP⊢;simp [K,MP,ah]
 ·have he':(vz r act kind==0)=false:=(by simpa using he);rw [if_pos he];rw [iP]at K⊢;simp [K,he,he',ah]
end
section
variable {c:Nat} {H:ae}
theorem Hg {r:aI}(sh:jM r)(h:j0 r=0){i:Nat}(hi:i<r.aj.length){x:Int}(hx:1≤x∧x≤3)(hk: ¬(x=2∧(r.aj.getD i ct).kind=1)):sS r i x:=by
 obtain⟨k,e,hL⟩:=xg sh (Hh h hi hx hk);have:i=k:=(by omega);rw [this];exact hL
theorem yD (r:aI)(i:Nat)(x:Int)(l:List Int):mN r i (x::l)=if pU r i x=true then mN r i l else some ((i:Int),x):=by
 unfold mN;rw [List.findSome?_cons];split
 ·rename_i y hy;split at hy
  ·cases hy
  ·rename_i hb;rw [if_neg hb];exact hy.symm
 ·rename_i hy;split at hy
  ·rename_i hb;rw [if_pos hb]
  ·cases hy
section
variable {r:aI} (sh:jM r) (hrun:j0 r=0) (hls: ∀x∈r.bg,1≤x∧x≤3) (h20:r.aj.length≤20)
include sh hrun hls h20
theorem Dk {F:Fr}(f1:F.get 1=some (bs r)){i n:Nat}(hi:i<r.aj.length)(Q:GX→bE→Prop): ∀k j:Nat,j+k=r.bg.length→
  (mN r i (r.bg.drop j)=none→Q (.exit 2) ⟨[(1, .aA (H.length,1) 0),(2,aG),(3,aG),(4,aG),(24, .pure (.int .i64 n)),(25, .pure (.int .i64 i))],[]::F::H,59⟩)→
  (∀a b,mN r i (r.bg.drop j)=some (a,b)→Q .ret ⟨[(1, .aA (H.length,1) 0),(2, .pure (.int .i64 a)),(3, .pure (.int .i64 b)),(4, .pure (.int .i64 0)),(24, .pure (.int .i64 n)),(25, .pure (.int .i64 i))],[]::F::H,59⟩)→
  jf KC au 57 (lp Try.f57 1) [1,8,24,25,29,30,31] [1,2,3,4,24,25] Q [(1, .aA (H.length,1) 0),(8, .pure (.int .i64 i)),(24, .pure (.int .i64 n)),(25, .pure (.int .i64 i)),(29, .pure (.slice (r.bg.map ba))),(30, .pure (.int .i64 r.bg.length)),(31, .pure (.int .i64 j))] ([]::F::H) 59:=by
 have hal:=sh.l;have ne1: ¬H.length=H.length+1:=(by omega);have ne2: ¬H.length=H.length+2:=(by omega);simp only [bs]at f1;intro k
 induction k with
 |zero=>
  intro j hj h1 _;have e:r.bg.drop j=[]:=List.drop_of_length_le (by omega);rw [e]at h1;have hnl: ¬j<r.bg.length:=(by omega);apply aw;conv=>arg 4;whnf
  simp [hnl];simpa using h1 rfl
 |succ k ih=>
  intro j hj h1 h2;have hja:j<r.bg.length:=(by omega);have hw:=dM (x:=(j:Int)+1) (by omega) (by omega);have ed:r.bg.drop j=r.bg[j]::r.bg.drop (j+1):=List.drop_eq_getElem_cons hja;have hx:=hls _ (List.getElem_mem hja);obtain⟨x,hxe⟩: ∃x,r.bg[j]=x:=⟨_,rfl⟩;rw [hxe]at ed hx;have hg:r.aj.getD i ct=r.aj[i]:=aX hi;rw [ed,yD]at h1 h2;have ih':=ih (j+1) (by omega);by_cases hs:x=2∧r.aj[i].kind=1
  ·have hgood:pU r i x=true:=by
    unfold pU;rw [hg];simp [hs]
   rw [if_pos hgood]at h1 h2;have ih2:=ih' h1 h2;obtain⟨rfl,hk⟩:=hs;apply aw;conv=>arg 4;whnf
   simp [f1,ne1,ne2,hja,hxe,ba,hi,ai.row,hk,hw];simpa using ih2
  ·have hL:=Hg sh hrun hi hx (by rw [hg];exact hs);have M:=fun(c:Nat) (H:ae) (hH:0<H.length)=>si (c:=c) (H:=H) hL h20 hH;rw [iP]at M;have hgood:pU r i x=(gq r i x).isSome:=by
    unfold pU;rw [hg];simp [hs]
   rw [hgood]at h1 h2
   cases ho:gq r i x with
   |some l=>
    rw [ho]at M h1 h2;simp only [He]at M;simp only [Option.isSome_some,if_true]at h1 h2;have ih2:=ih' h1 h2;by_cases h2x:x=2
    ·subst h2x;have hk: ¬r.aj[i].kind=1:=fun e=>hs ⟨rfl,e⟩;have hk':(r.aj[i].kind==1)=false:=(by simpa using hk);apply aw;conv=>arg 4;whnf
     simp [f1,ne1,ne2,hja,hxe,ba,hi,ai.row,hk,hk',hw,M];simpa using ih2
    ·have h2x':(x==2)=false:=(by simpa using h2x);apply aw;conv=>arg 4;whnf
     simp [f1,ne1,ne2,hja,hxe,ba,hi,ai.row,h2x,h2x',hw,M];simpa using ih2
   |none=>
    rw [ho]at M h1 h2;simp only [He]at M;simp only [Option.isSome_none,Bool.false_eq_true,if_false]at h1 h2;have h2':=h2 i x rfl;by_cases h2x:x=2
    ·subst h2x;have hk: ¬r.aj[i].kind=1:=fun e=>hs ⟨rfl,e⟩;have hk':(r.aj[i].kind==1)=false:=(by simpa using hk);apply aw;conv=>arg 4;whnf
     simp [f1,ne1,ne2,hja,hxe,ba,hi,ai.row,hk,hk',hw,M];simpa using h2'
    ·have h2x':(x==2)=false:=(by simpa using h2x);apply aw;conv=>arg 4;whnf
     simp [f1,ne1,ne2,hja,hxe,ba,hi,ai.row,h2x,h2x',hw,M];simpa using h2'
theorem Bc {F:Fr}(f1:F.get 1=some (bs r))(Q:GX→bE→Prop): ∀k i:Nat,i+k=r.aj.length→
  (mO r k i=none→Q (.exit 0) ⟨[(2,aG),(3,aG),(4,aG)],F::H,59⟩)→
  (∀a b,mO r k i=some (a,b)→Q .ret ⟨[(2, .pure (.int .i64 a)),(3, .pure (.int .i64 b)),(4, .pure (.int .i64 0))],F::H,59⟩)→
  jf KC au 57 (lp Try.f57 0) [1,24,25] [2,3,4] Q [(1, .aA (H.length,1) 0),(24, .pure (.int .i64 r.aj.length)),(25, .pure (.int .i64 i))] (F::H) 59:=by
 have ne1: ¬H.length=H.length+1:=(by omega);have hal:=sh.a;have f1':=f1;simp only [bs]at f1';intro k
 induction k with
 |zero=>
  intro i hi h1 _;have hnl: ¬i<r.aj.length:=(by omega);apply aw;conv=>arg 4;whnf
  simp [hnl];simpa using h1 rfl
 |succ k ih=>
  intro i hi h1 h2;have hia:i<r.aj.length:=(by omega);have hw:=dM (x:=(i:Int)+1) (by omega) (by omega);have e2:mO r (k+1) i=match mN r i r.bg with|some y=>some y|none=>mO r k (i+1):=by
   unfold mO;rw [List.range'_succ,List.findSome?_cons];cases mN r i r.bg<;>rfl
  have L:=fun Q h1 h2=>Dk (H:=H) sh hrun hls h20 f1 (n:=r.aj.length) hia Q r.bg.length 0 (by omega) h1 h2;simp only [List.drop_zero]at L;rw [e2]at h1 h2;apply aw;conv=>arg 4;whnf
  simp [f1',ne1,hia];refine L _ (fun ho=> ?_) (fun a b ho=> ?_)
  ·rw [ho]at h1 h2;have ih':=ih (i+1) (by omega) h1 h2;simp [hw];simpa using ih'
  ·rw [ho]at h2;have h2':=h2 a b rfl;simp;exact h2'
end
theorem xh {r:aI}(sh:jM r)(h20:c7 r=0→r.aj.length≤20)(hH:0<H.length):
  bG KC (aE KC) 57 [.pure (.agg r.row)] c H=some (.pure (ub r),H):=by
 refine aU (aM KC au Try.func57 rfl rfl K9 (by simp) hH ?_);have R:=fun(c:Nat) (H:ae) (hH:0<H.length)=>(sj (f:=20) (c:=c) (H:=H) rfl rfl rfl [.agg r.row]).trans (xi (c:=c) sh hH);obtain⟨s,n,hs⟩:=Dl (r:=r);rw [hs]at R;unfold az.row at R;simp only [List.map_cons,List.map_nil]at R;unfold ub;by_cases he:j0 r=0
 ·have hc:c7 r=0:=by
   rw [sn]at he;rcases Decidable.em (c7 r=0)with e|e
   ·exact e
   ·rw [if_neg e]at he;exact he
  have hls:=(vd hc).1.ls;rw [he]at R⊢;rw [iP]at R⊢;have L:=fun F f1 Q h1 h2=>Bc (H:=H) sh he hls (h20 hc) (F:=F) f1 Q r.aj.length 0 (by omega) h1 h2;simp [R];refine L _ (by simp [bs]) _ (fun ho=> ?_) (fun a b ho=> ?_)
  ·rw [ho];simp [ah]
  ·rw [ho];simp [ah]
 ·have he':(j0 r==0)=false:=(by simpa using he);rw [if_pos he];rw [iP]at R⊢;simp [R,he,he',ah]
end
def ve:Int→Int→Int→Bool:=fun w a b=>
 (IntKind.i64.wrap (a.tmod w-b.tmod w)==0 && (IntKind.i64.wrap (IntKind.i64.wrap (a.tdiv w)-IntKind.i64.wrap (b.tdiv w))==1||IntKind.i64.wrap (IntKind.i64.wrap (a.tdiv w)-IntKind.i64.wrap (b.tdiv w))== -1))||
 (IntKind.i64.wrap (IntKind.i64.wrap (a.tdiv w)-IntKind.i64.wrap (b.tdiv w))==0 && (IntKind.i64.wrap (a.tmod w-b.tmod w)==1||IntKind.i64.wrap (a.tmod w-b.tmod w)== -1))
theorem Hi:iQ=ve:=by
 unfold iQ ve;rw [bR]
def ob:List cg→Int→Int→Bool:=fun ts t st=>decide (0≤t) && ((IntKind.i64.wrap ((ts.getD t.toNat aJ).state.tdiv st)).tmod 2==1)
theorem Dm:eY=ob:=by
 unfold eY ob;rw [bR]
def xj:aI→az→Nat→ai→Bool:=fun r s w a=>
 if a.kind=1 then !(s.ak.contains a.cell) && ve r.wide (s.ak.getD w 0) a.cell
 else if a.kind=2 then bj s w a.hand== -1 && (s.aa.getD a.bL.toNat aJ).cell==s.ak.getD w 0
 else if a.kind=3 then decide (0≤bj s w a.hand)
 else if a.kind=4 then decide (0≤bj s w a.hand) && ve r.wide (s.ak.getD w 0) (s.ak.getD a.other.toNat 0) && decide (0≤de s.ao a.other.toNat)
 else if a.kind=5 then decide (0≤bj s w a.hand) && (r.aa.getD (bj s w a.hand).toNat cX).sZ && decide (0≤bj s w (1-a.hand))
 else if a.kind=6 then ob s.aa (bj s w a.hand) 2 && !ob s.aa (bj s w a.hand) 4 && decide (0≤bj s w (1-a.hand)) && !ob s.aa (bj s w (1-a.hand)) 2 && !ob s.aa (bj s w (1-a.hand)) 4
 else if a.kind=7 then decide (0≤bj s w a.hand) && !ob s.aa (bj s w a.hand) 4
 else ob s.aa (bj s w a.hand) 4
theorem yE:cd=xj:=by
 unfold cd xj;rw [bR];simp only [Hi,Dm]
def pV:List cg→Nat→Int→Bool→List cg:=fun ts t bit on=>
 if ob ts t bit=on then ts else ts.set t ⟨(ts.getD t aJ).cell,if on then IntKind.i64.wrap ((ts.getD t aJ).state+bit)else IntKind.i64.wrap ((ts.getD t aJ).state-bit)⟩
theorem MQ:cY=pV:=by
 unfold cY pV;rw [bR];simp only [Dm]
def Hj:az→Nat→ai→az:=fun s w a=>
 if a.kind=1 then {s with ak:=s.ak.set w a.cell}
 else if a.kind=2 then {s with ao:=aW s.ao w a.hand a.bL,aa:=s.aa.set a.bL.toNat ⟨-1,(s.aa.getD a.bL.toNat aJ).state⟩}
 else if a.kind=3 then {s with ao:=aW s.ao w a.hand (-1),aa:=s.aa.set (bj s w a.hand).toNat ⟨s.ak.getD w 0,(s.aa.getD (bj s w a.hand).toNat aJ).state⟩}
 else if a.kind=4 then {s with ao:=aW (aW s.ao a.other.toNat (de s.ao a.other.toNat) (bj s w a.hand)) w a.hand (-1)}
 else if a.kind=5 then {s with aa:=pV s.aa (bj s w (1-a.hand)).toNat 1 true}
 else if a.kind=6 then {s with aa:=pV (pV (pV s.aa (bj s w a.hand).toNat 2 false) (bj s w a.hand).toNat 1 false) (bj s w (1-a.hand)).toNat 2 true}
 else if a.kind=7 then {s with aa:=pV s.aa (bj s w a.hand).toNat 4 true}
 else {s with aa:=pV s.aa (bj s w a.hand).toNat 4 false}
theorem JS:dt=Hj:=by
 unfold dt Hj;rw [bR];simp only [MQ]
def so:List Int→List Int→Bool:=fun l m=>l.any fun x=>m.contains x
theorem Bd:l7=so:=by
 unfold l7 so;rw [bR]
def mP:Int→Int→Int:=fun w d=>IntKind.i64.wrap (IntKind.i64.wrap (w*d)-1)
theorem Dn:c9=mP:=by
 unfold c9 mP;rw [bR]
def xk:(Int→Bool)→Int→List Int→Nat→Int:=fun p e l i=>if p (l.getD i 0)=false then e else if 0<i∧l.getD i 0≤l.getD (i-1) 0 then 11 else 0
theorem MR:mv=xk:=by
 unfold mv xk;rw [bR]
def oc:Int→List bA→Nat→Int:=fun t ps i=>
 if cF (ps.getD i ⟨0,0⟩).role 1 3=false then 4 else if cF (ps.getD i ⟨0,0⟩).cell 0 t=false then 7 else if dc ps i (ps.getD i ⟨0,0⟩).cell=true then 12 else 0
theorem Be:gd=oc:=by
 unfold gd oc;rw [bR]
def qD:Int→List bU→Nat→Int:=fun t ts i=>
 if cF (ts.getD i ⟨0,0,0,0,false⟩).cell 0 t=false∨cF (ts.getD i ⟨0,0,0,0,false⟩).home 0 t=false then 7 else if cF (ts.getD i ⟨0,0,0,0,false⟩).state 0 15=false∨cF (ts.getD i ⟨0,0,0,0,false⟩).want 0 15=false then 2 else 0
theorem Dp:iO=qD:=by
 unfold iO qD;rw [bR]
def vg:aI→Int:=fun r=>
 if cF r.wide 1 6=false∨cF r.deep 1 6=false then 2 else if r.ak.length=0 then 6 else if 4<r.ak.length then 8
 else if bH (oc (mP r.wide r.deep) r.ak) r.ak.length 0≠0 then bH (oc (mP r.wide r.deep) r.ak) r.ak.length 0
 else if 8<r.aa.length then 8
 else if bH (qD (mP r.wide r.deep) r.aa) r.aa.length 0≠0 then bH (qD (mP r.wide r.deep) r.aa) r.aa.length 0
 else if bH (xk (fun x=>cF x 0 (mP r.wide r.deep)) 7 r.seen) r.seen.length 0≠0 then bH (xk (fun x=>cF x 0 (mP r.wide r.deep)) 7 r.seen) r.seen.length 0
 else bH (xk (fun x=>cF x 1 3) 4 r.bg) r.bg.length 0
theorem Hk:kO=vg:=by
 unfold kO vg;rw [bR];simp only [Dn,MR,Be,Dp]
def od:Int→Int→Int→ai→Int:=fun t nt np a=>
 if cF a.kind 1 8=false then 4 else if kP a=false then 3 else if a.kind=1∧cF a.cell 0 t=false then 7 else if cF a.hand 0 1=false then 2
 else if a.kind=2∧cF a.bL 0 (nt-1)=false then 7 else if a.kind=4∧cF a.other 0 (np-1)=false then 7 else if a.kind=4∧a.other=a.aY then 3 else 0
theorem Bf:eK=od:=by
 unfold eK od;rw [bR]
def Dq:aI→Nat→Int:=fun r i=>
 if cF (r.aj.getD i ct).aQ 0 1000=false then 2 else if 0<i∧(r.aj.getD i ct).aQ<(r.aj.getD (i-1) ct).aQ then 11
 else if cF (r.aj.getD i ct).aY 0 ((r.ak.length:Int)-1)=false then 7 else if (r.aj.take i).any (jB (r.aj.getD i ct))=true then 12
 else if od (mP r.wide r.deep) r.aa.length r.ak.length (r.aj.getD i ct)≠0 then od (mP r.wide r.deep) r.aa.length r.ak.length (r.aj.getD i ct)
 else if cF (r.aj.getD i ct).dE 0 15=false∨cF (r.aj.getD i ct).lf 0 9=false then 2 else 0
theorem MS:uk=Dq:=by
 unfold uk Dq;rw [bR];simp only [Dn,Bf]
def qE:aI→Int:=fun r=>if vg r≠0 then vg r else if 40<r.aj.length then 8 else bH (Dq r) r.aj.length 0
theorem Dr:c7=qE:=by
 unfold c7 qE;rw [bR];simp only [Hk,MS]
def zI:aI→az→Bool:=fun r s=>decide (s.ao=s.ao.map fun _=>empty) && decide (∀i,i<r.aa.length→s.aa.getD i aJ=⟨(r.aa.getD i cX).home,(r.aa.getD i cX).want⟩)
theorem Ds:qi=zI:=by
 unfold qi zI;rw [bR]
def Dt:aI→az→Nat→ai→Bool:=fun r s w a=>xj r s w a && !so r.seen [s.ak.getD w 0,if a.kind=1 then a.cell else s.ak.getD w 0]
theorem MT:sT=Dt:=by
 unfold sT Dt;rw [bR];simp only [yE,Bd]
def xl (r:aI)(s:az):List ai→List (Int×Int)→az→Nat→az×Int×Int
 | [],_,nx,_=>(nx,0,0)
 |a::g,tk,nx,i=>if xj r s a.aY.toNat a=false then (s,i,10)else if∀x∈eG s a.aY.toNat a,x∉tk then xl r s g (dN tk (eG s a.aY.toNat a)) (Hj nx a.aY.toNat a) (i+1)else (s,i,12)
theorem zJ (r:aI)(s:az): ∀(l:List ai) (tk:List (Int×Int)) (nx:az) (i:Nat),da r s l tk nx i=xl r s l tk nx i
 | [],_,_,_=>rfl
 |a::g,tk,nx,i=>by
  unfold da xl;rw [yE,JS];split
  ·rfl
  ·split
   ·exact zJ r s g _ _ _
   ·rfl
theorem MU:da=xl:=by funext r s l tk nx i;exact zJ r s l tk nx i
def oe (r:aI):Nat→az→List ai→Nat→List az×az×Int×Int
 |0,s,_,_=>([],s,-1,0)
 |_+1,s,[],_=>([],s,-1,0)
 |k+1,s,a::rest,i=>
  let g:=(a::rest).takeWhile (ep a)
  let m:=xl r s g [] s 0
  if m.2.2≠0 then ([],s,i+m.2.1,m.2.2)
  else let q:=oe r k m.1 ((a::rest).drop g.length) (i+g.length);(m.1::q.1,q.2)
theorem zK (r:aI): ∀(k:Nat) (s:az) (l:List ai) (i:Nat),dn r k s l i=oe r k s l i
 |0,_,_,_=>rfl
 |_+1,_,[],_=>rfl
 |k+1,s,a::rest,i=>by
  unfold dn oe;simp only [MU,zK r k]
theorem vh:dn=oe:=by funext r k s l i;exact zK r k s l i
def Du (r:aI):List az×az×Int×Int:=
 let q:=oe r r.aj.length (aV r) r.aj 0
 (aV r::q.1,q.2.1,if q.2.2.2=0∧zI r q.2.1=false then ((r.aj.length:Int),11)else q.2.2)
theorem MV:im=Du:=by
 funext
 unfold im Du;simp only [Ds,vh]
def zL:aI→Int:=fun r=>if qE r=0 then (Du r).2.2.2 else qE r
theorem yF:j0=zL:=by
 unfold j0 zL;rw [bR];simp only [Dr,MV]
def Sd:aI→Int→Int→Int:=fun r act kind=>
 if zL r≠0 then zL r else if cF act 0 ((r.aj.length:Int)-1)=false then 7 else if cF kind 1 3=false then 4 else if kind=2∧(r.aj.getD act.toNat ct).kind=1 then 3 else 0
theorem Se:vz=Sd:=by
 unfold vz Sd;rw [bR];simp only [yF]
def Dv (r:aI)(a:ai):az:=(oe r (mA r.aj a).length (aV r) (mA r.aj a) 0).2.1
theorem MW:vl=Dv:=by
 funext
 unfold vl Dv;simp only [vh]
def xm (r:aI)(act:Nat)(kind:Int):List ai:=
 if kind=2 then (if xj r (Dv r (r.aj.getD act ct)) (r.aj.getD act ct).aY.toNat {(r.aj.getD act ct)with hand:=1-(r.aj.getD act ct).hand}=true
  then r.aj.set act {(r.aj.getD act ct)with hand:=1-(r.aj.getD act ct).hand}else r.aj.eraseIdx act)
 else if kind=3 then aP (r.aj.take act++(r.aj.drop act).map (late (r.aj.getD act ct).aY))
 else r.aj.eraseIdx act
theorem Dw:oS=xm:=by
 funext
 unfold oS xm;simp only [yE,MW]
def Dx (r:aI)(w:Nat)(all:List ai)(fin:az→List ai→Bool):Nat→az→List ai→Option (List ai)
 |0,s,l=>if fin s l=true then some l else none
 |n+1,s,l=>all.findSome? fun a=>if Dt r s w a=true then Dx r w all fin n (Hj s w a) (l++[a])else none
theorem Dy (r:aI)(w:Nat)(all:List ai)(fin:az→List ai→Bool): ∀(n:Nat) (s:az) (l:List ai),xG r w all fin n s l=Dx r w all fin n s l
 |0,_,_=>rfl
 |n+1,s,l=>by
  unfold xG Dx;simp only [MT,JS,Dy r w all fin n]
theorem Sf:xG=Dx:=by funext r w all fin n s l;exact Dy r w all fin n s l
def Dz (r:aI)(B:List ai)(s:az)(l:List ai):Bool:=decide ((oe r B.length s B 0).2.2.2=0) && zI r (oe r B.length s B 0).2.1
theorem MY:mz=Dz:=by
 funext
 unfold mz Dz;simp only [Ds,vh]
def zM (r:aI)(k:Nat)(kind:Int):List az×az×Int×Int:=oe r (fu (qm r k kind) (xm r k kind)).length (aV r) (fu (qm r k kind) (xm r k kind)) 0
theorem MZ:Dh=zM:=by
 funext
 unfold Dh zM;simp only [vh,Dw]
def yG (fin:az→List ai→Bool)(r:aI)(k:Nat)(kind:Int):Option (List ai):=
 if (zM r k kind).2.2.2≠0 then none else (List.range 4).findSome? fun n=>Dx r (sg r k) (JT r (sg r k)) fin n (zM r k kind).2.1 []
theorem Hl:zG=yG:=by
 funext
 unfold zG yG;simp only [Sf,MZ]
def yH (r:aI)(k:Nat)(kind:Int):Option (List ai):=yG (Dz r (behind (qm r k kind) (xm r k kind))) r k kind
theorem mn:gq=yH:=by
 funext
 unfold gq yH;simp only [Dw,MY,Hl]
def yI (r:aI)(i:Nat)(x:Int):Bool:=decide (x=2∧(r.aj.getD i ct).kind=1)||(yH r i x).isSome
theorem Hn:pU=yI:=by
 funext
 unfold pU yI;simp only [mn]
def yJ (r:aI)(i:Nat)(l:List Int):Option (Int×Int):=l.findSome? fun x=>if yI r i x=true then none else some ((i:Int),x)
theorem Ho:mN=yJ:=by
 funext
 unfold mN yJ;simp only [Hn]
def DC (r:aI)(k i:Nat):Option (Int×Int):=(List.range' i k).findSome? fun i=>yJ r i r.bg
theorem zN:mO=DC:=by
 funext
 unfold mO DC;simp only [Ho]
def cz:aI:=⟨2,1,[⟨1,0⟩,⟨3,1⟩],[⟨0,0,0,1,false⟩,⟨0,1,0,1,true⟩],[1],[1,2,3],[⟨0,0,2,0,0,0,0,0,0⟩,⟨1,0,2,1,1,0,0,0,0⟩,⟨2,0,5,1,0,0,0,0,0⟩,⟨3,0,3,0,0,0,0,0,0⟩,⟨4,0,3,1,0,0,0,0,0⟩]⟩
def j3:aI:={cz with seen:=[0,1]}
theorem pW:jM cz:=⟨by decide,by decide,by decide,by decide,by decide⟩
theorem sU:jM j3:=⟨by decide,by decide,by decide,by decide,by decide⟩
theorem Bg:j0 cz=0:=by rw [yF];kernel_rfl
theorem xn:j0 j3=0:=by rw [yF];kernel_rfl
theorem yK:mO cz cz.aj.length 0=none:=by rw [zN];kernel_rfl
theorem vn:mO j3 j3.aj.length 0=some (0,1):=by rw [zN];kernel_rfl
theorem Hp:gq cz 0 1=some [⟨0,0,2,0,0,0,0,0,0⟩]:=by rw [mn];kernel_rfl
theorem Hq:gq cz 0 2=some [⟨0,0,3,1,0,0,0,0,0⟩,⟨0,0,2,0,0,0,0,0,0⟩]:=by rw [mn];kernel_rfl
theorem Hs:gq cz 2 2=some [⟨0,0,5,1,0,0,0,0,0⟩]:=by rw [mn];kernel_rfl
theorem Ht:gq cz 3 3=some []:=by rw [mn];kernel_rfl
theorem Hu:gq cz 4 3=some []:=by rw [mn];kernel_rfl
theorem DD:vz cz 0 1=0∧vz cz 0 2=0∧vz cz 2 2=0∧vz cz 3 3=0∧vz cz 4 3=0:=by rw [Se];exact⟨by kernel_rfl,by kernel_rfl,by kernel_rfl,by kernel_rfl,by kernel_rfl⟩
section
variable {c:Nat} {H:ae}
def kK (L c:Nat):GV:= .agg [.pure (.int .i64 2), .pure (.int .i64 1), .ay (L,aq c 3) 2 2 0 2, .ay (L,aq c 6) 5 2 0 2, .ay (L,aq c 7) 1 1 0 1, .ay (L,aq c 8) 1 3 0 3, .ay (L,aq c 14) 9 5 0 5]
def fR (c:Nat)(F:Fr):Fr:=((((F.ins (aq c 3) (.arr 2 (cz.ak.map bA.row) 0 false)).ins (aq c 6) (.arr 5 (cz.aa.map bU.row) 0 false)).ins (aq c 7) (.arr 1 (cz.seen.map ba) 0 false)).ins (aq c 8) (.arr 1 (cz.bg.map ba) 0 false)).ins (aq c 14) (.arr 9 (cz.aj.map ai.row) 0 false)
theorem sq {F:Fr}(h3:F.get (aq c 3)=none)(h6:F.get (aq c 6)=none)(h7:F.get (aq c 7)=none)(h8:F.get (aq c 8)=none)(h14:F.get (aq c 14)=none):
  aK KC (aE KC) 28 [] c (F::H)=some (kK H.length c,fR c F::H):=by
 refine aU (bw KC au Try.func28 rfl rfl KX rfl rfl rfl (by simp) (by simp) ?_);have n1:aq c 6≠aq c 3:=(by unfold aq;omega);have n2:aq c 7≠aq c 3:=(by unfold aq;omega);have n3:aq c 7≠aq c 6:=(by unfold aq;omega);have n4:aq c 8≠aq c 3:=(by unfold aq;omega);have n5:aq c 8≠aq c 6:=(by unfold aq;omega);have n6:aq c 8≠aq c 7:=(by unfold aq;omega);have n7:aq c 14≠aq c 3:=(by unfold aq;omega);have n8:aq c 14≠aq c 6:=(by unfold aq;omega);have n9:aq c 14≠aq c 7:=(by unfold aq;omega);have n10:aq c 14≠aq c 8:=(by unfold aq;omega);simp;have hl: ¬H.length+1≤H.length:=(by omega);simp [eW,refs,ij,fy,ez,js,ju,dedup,eJ,dg,BJ,Ew,qh,jD,h3,h6,h7,h8,h14,Fr.aF,n1,n2,n3,n4,n5,n6,n7,n8,n9,n10,hl,kK,fR];rfl
theorem yL {F:Fr}{k:Nat}(h3:k≠aq c 3)(h6:k≠aq c 6)(h7:k≠aq c 7)(h8:k≠aq c 8)(h14:k≠aq c 14):(fR c F).get k=F.get k:=by
 unfold fR;rw [Fr.aF _ h14,Fr.aF _ h8,Fr.aF _ h7,Fr.aF _ h6,Fr.aF _ h3]
theorem mo (F:Fr):(fR c F).get (aq c 3)=some (.arr 2 (cz.ak.map bA.row) 0 false)∧(fR c F).get (aq c 6)=some (.arr 5 (cz.aa.map bU.row) 0 false)∧(fR c F).get (aq c 7)=some (.arr 1 (cz.seen.map ba) 0 false)∧(fR c F).get (aq c 8)=some (.arr 1 (cz.bg.map ba) 0 false)∧(fR c F).get (aq c 14)=some (.arr 9 (cz.aj.map ai.row) 0 false):=by
 unfold fR;refine⟨?_, ?_, ?_, ?_,Fr.bO _ _ _⟩
 ·rw [Fr.aF _ (by unfold aq;omega),Fr.aF _ (by unfold aq;omega),Fr.aF _ (by unfold aq;omega),Fr.aF _ (by unfold aq;omega),Fr.bO]
 ·rw [Fr.aF _ (by unfold aq;omega),Fr.aF _ (by unfold aq;omega),Fr.aF _ (by unfold aq;omega),Fr.bO]
 ·rw [Fr.aF _ (by unfold aq;omega),Fr.aF _ (by unfold aq;omega),Fr.bO]
 ·rw [Fr.aF _ (by unfold aq;omega),Fr.bO]
theorem kL {F:Fr}{k es n:Nat}{rows:List (List PV)}(h:F.get k=some (.arr es rows 0 false))(hn:rows.length=n):zb (F::H) (.ay (H.length,k) es n 0 n) (.slice rows):=by
 subst hn;exact⟨rows,0,false,by rw [ae.eF,if_pos rfl];exact h,Nat.zero_le _,rfl,rfl,rfl,rfl⟩
theorem xo {F:Fr}(h: ∀k,k=aq c 3∨k=aq c 6∨k=aq c 7∨k=aq c 8∨k=aq c 14→F.get k=(fR c []).get k):xE (F::H) (kK H.length c) (.agg cz.row):=by
 obtain⟨a3,a6,a7,a8,a14⟩:=mo (c:=c) [];rw [iP];unfold kK;rw [qt];simp only [nw,qq,nv,and_true];exact⟨rfl,rfl,kL ((h _ (by simp)).trans a3) rfl,kL ((h _ (by simp)).trans a6) rfl,kL ((h _ (by simp)).trans a7) rfl,kL ((h _ (by simp)).trans a8) rfl,kL ((h _ (by simp)).trans a14) rfl⟩
theorem DE {l k es t lo n:Nat}:Bh l (.ay (l,k) es t lo n):=fun nm _ _ _ _ h=>by cases h;rfl
theorem Bi (L:Nat):DF L (kK L c):=by
 intro x hx;simp only [List.mem_cons,List.not_mem_nil,or_false]at hx;rcases hx with rfl|rfl|rfl|rfl|rfl|rfl|rfl
 ·exact fX
 ·exact fX
 all_goals exact DE
theorem lX (hH:0<H.length) (A K:List Int) (D:List (List ai)) {i:Nat} {x y:Int} {l:List ai} (hiA:i<A.length) (hiK:i<K.length) (hiD:i<D.length) (hA:A[i]=x) (hK:K[i]=y) (hD:D[i]=l) (hc:vz cz x y=0) (hm:gq cz x.toNat y=some l) (hl:l.length≤1000) (hAn:A.length≤1000) (Q:GX→bE→Prop)
  (ih:jf KC au 30 (lp Try.f30 0) [1,2,3,4] [0] Q [(1, .pure (.slice (A.map ba))),(2, .pure (.slice (K.map ba))),(3, .pure (.slice (D.map fun m=> [.slice (m.map ai.row)]))),(4, .pure (.int .i64 ((i+1:Nat):Int)))] H 91):
  jf KC au 30 (lp Try.f30 0) [1,2,3,4] [0] Q [(1, .pure (.slice (A.map ba))),(2, .pure (.slice (K.map ba))),(3, .pure (.slice (D.map fun m=> [.slice (m.map ai.row)]))),(4, .pure (.int .i64 i))] H 91:=by
 have S:=sq (c:=31) (H:=H) (F:=[]) rfl rfl rfl rfl rfl;obtain⟨F3,r3,e3⟩:=sf (f:=56) rfl rfl rfl [] (F:=fR 31 []) (H:=H) (.rd (xo (c:=31) fun _ _=>rfl) (Bi _) (.rd (g:= .pure (.int .i64 x)) rfl fX (.rd (g:= .pure (.int .i64 y)) rfl fX .nil)));have M:=(e3 40).trans (Dj (c:=40) (H:=[]++F3::H) pW (fun _=>by decide) x y (by simp));have hT:zH cz x y= .tuple [.slice (l.map ai.row), .int .i64 0]:=by
  unfold zH;rw [if_neg (by simpa using hc),hm]
 rw [hT]at M;have EA:=Ai (c:=51) (H:=F3::H) l (by omega) (by simp);simp only [List.nil_append]at M;have hw:=dM (x:=(i:Int)+1) (by omega) (by omega);obtain⟨g,hg⟩: ∃g,kK H.length 31=g:=⟨_,rfl⟩;obtain⟨F,hF⟩: ∃F,fR 31 []=F:=⟨_,rfl⟩;rw [hg,hF]at S;rw [hg,hF]at M;apply aw;conv=>arg 4;whnf
 simp [hiA,hiK,hiD,hA,hK,hD,ba,S,M,EA,hw];refine⟨hH, ?_⟩;simpa using ih
end
section
variable {c:Nat} {H:ae}
def due:List (List ai):=[[⟨0,0,2,0,0,0,0,0,0⟩],[⟨0,0,3,1,0,0,0,0,0⟩,⟨0,0,2,0,0,0,0,0,0⟩],[⟨0,0,5,1,0,0,0,0,0⟩],[],[]]
theorem DG (hH:0<H.length)(Q:GX→bE→Prop)(h:Q (.exit 0) ⟨[(0,aG)],H,91⟩):
  jf KC au 30 (lp Try.f30 0) [1,2,3,4] [0] Q [(1, .pure (.slice (([0,0,2,3,4]:List Int).map ba))),(2, .pure (.slice (([1,2,2,3,3]:List Int).map ba))),(3, .pure (.slice (due.map fun m=> [.slice (m.map ai.row)]))),(4, .pure (.int .i64 ((0:Nat):Int)))] H 91:=by
 obtain⟨c1,c2,c3,c4,c5⟩:=DD;refine lX hH [0,0,2,3,4] [1,2,2,3,3] due (i:=0) (x:=0) (y:=1) (l:=[⟨0,0,2,0,0,0,0,0,0⟩]) (by decide) (by decide) (by decide) rfl rfl rfl c1 Hp (by decide) (by decide) Q ?_;refine lX hH [0,0,2,3,4] [1,2,2,3,3] due (i:=1) (x:=0) (y:=2) (l:=[⟨0,0,3,1,0,0,0,0,0⟩,⟨0,0,2,0,0,0,0,0,0⟩]) (by decide) (by decide) (by decide) rfl rfl rfl c2 Hq (by decide) (by decide) Q ?_;refine lX hH [0,0,2,3,4] [1,2,2,3,3] due (i:=2) (x:=2) (y:=2) (l:=[⟨0,0,5,1,0,0,0,0,0⟩]) (by decide) (by decide) (by decide) rfl rfl rfl c3 Hs (by decide) (by decide) Q ?_;refine lX hH [0,0,2,3,4] [1,2,2,3,3] due (i:=3) (x:=3) (y:=3) (l:=[]) (by decide) (by decide) (by decide) rfl rfl rfl c4 Ht (by decide) (by decide) Q ?_;refine lX hH [0,0,2,3,4] [1,2,2,3,3] due (i:=4) (x:=4) (y:=3) (l:=[]) (by decide) (by decide) (by decide) rfl rfl rfl c5 Hu (by decide) (by decide) Q ?_;apply aw;conv=>arg 4;whnf
 simp [hH];simpa using h
theorem DH:ub cz= .tuple [.int .i64 (-1), .int .i64 0, .int .i64 0]:=by
 unfold ub;rw [if_neg (by simp [Bg]),yK]
theorem DI:ub j3= .tuple [.int .i64 0, .int .i64 1, .int .i64 0]:=by
 unfold ub;rw [if_neg (by simp [xn]),vn]
theorem xp (hH:0<H.length):aK KC (aE KC) 30 [] c H=some (.pure (.bool true),H):=by
 refine aU (bw KC au Try.func30 rfl rfl KY rfl rfl rfl (by simp) hH ?_);have RL:=fun Q h=>DG (H:=[]::H) (by simp) Q h;simp [due,ba,ai.row]at RL;simp [chunks];refine RL _ ?_;have S1:=sq (c:=54) (H:=H) (F:=[]) rfl rfl rfl rfl rfl;obtain⟨F1,hF1⟩: ∃F1,fR 54 []=F1:=⟨_,rfl⟩;have g7:F1.get 7=none:=(by rw [←hF1];rfl);obtain⟨F2,hF2⟩: ∃F2,F1.ins 7 (.box [.pure (.int .i64 2), .pure (.int .i64 1), .ay (H.length,aq 54 3) 2 2 0 2, .ay (H.length,aq 54 6) 5 2 0 2, .pure (.slice [[.int .i64 0],[.int .i64 1]]), .ay (H.length,aq 54 8) 1 3 0 3, .ay (H.length,aq 54 14) 9 5 0 5])=F2:=⟨_,rfl⟩;have fr2: ∀k,k≠7→F2.get k=F1.get k:=fun k h=>(by rw [←hF2];exact Fr.aF _ h _);have S2:=sq (c:=58) (H:=H) (F:=F2) (by rw [fr2 _ (by decide),←hF1];rfl) (by rw [fr2 _ (by decide),←hF1];rfl) (by rw [fr2 _ (by decide),←hF1];rfl) (by rw [fr2 _ (by decide),←hF1];rfl) (by rw [fr2 _ (by decide),←hF1];rfl);obtain⟨F3,hF3⟩: ∃F3,fR 58 F2=F3:=⟨_,rfl⟩;have sa:=mo (c:=58) F2;have sb:=mo (c:=58) [];rw [hF3]at sa;have fr3: ∀k,k≠aq 58 3→k≠aq 58 6→k≠aq 58 7→k≠aq 58 8→k≠aq 58 14→F3.get k=F2.get k:=fun k a b d e f=>(by rw [←hF3];exact yL a b d e f);have rd58:xE (F3::H) (kK H.length 58) (.agg cz.row):=xo fun k hk=>by
  rcases hk with rfl|rfl|rfl|rfl|rfl
  ·exact sa.1.trans sb.1.symm
  ·exact sa.2.1.trans sb.2.1.symm
  ·exact sa.2.2.1.trans sb.2.2.1.symm
  ·exact sa.2.2.2.1.trans sb.2.2.2.1.symm
  ·exact sa.2.2.2.2.trans sb.2.2.2.2.symm
 have s54:=mo (c:=54) [];rw [hF1]at s54;have t54: ∀k b,(k=aq 54 3∨k=aq 54 6∨k=aq 54 8∨k=aq 54 14)→F1.get k=some b→F3.get k=some b:=fun k b hk h=>by
  rcases hk with rfl|rfl|rfl|rfl<;>
  ·rw [fr3 _ (by decide) (by decide) (by decide) (by decide) (by decide),fr2 _ (by decide)];exact h
 have rd54:xE (F3::H) (.agg [.pure (.int .i64 2), .pure (.int .i64 1), .ay (H.length,aq 54 3) 2 2 0 2, .ay (H.length,aq 54 6) 5 2 0 2, .pure (.slice [[.int .i64 0],[.int .i64 1]]), .ay (H.length,aq 54 8) 1 3 0 3, .ay (H.length,aq 54 14) 9 5 0 5]) (.agg j3.row):=by
  rw [iP,qt];simp only [nw,qq,nv,and_true];exact⟨rfl,rfl,kL (t54 _ _ (by simp) s54.1) rfl,kL (t54 _ _ (by simp) s54.2.1) rfl,rfl,kL (t54 _ _ (by simp) s54.2.2.2.1) rfl,kL (t54 _ _ (by simp) s54.2.2.2.2) rfl⟩
 have q7:F3.get 7=some (.box [.pure (.int .i64 2), .pure (.int .i64 1), .ay (H.length,aq 54 3) 2 2 0 2, .ay (H.length,aq 54 6) 5 2 0 2, .pure (.slice [[.int .i64 0],[.int .i64 1]]), .ay (H.length,aq 54 8) 1 3 0 3, .ay (H.length,aq 54 14) 9 5 0 5]):=by
  rw [fr3 _ (by decide) (by decide) (by decide) (by decide) (by decide),←hF2,Fr.bO]
 have FM1:=iM KC (f:=57) (c:=59) (H:=F3::H) (rec:=aE KC) rfl rfl (Q9 rd58) rfl (by simp) (fun H hH=>xh (c:=59) (H:=H) pW (fun _=>by decide) hH) (by rw [DH];rfl);have FM2:=iM KC (f:=57) (c:=65) (H:=F3::H) (rec:=aE KC) rfl rfl (Q9 rd54) rfl (by simp) (fun H hH=>xh (c:=65) (H:=H) sU (fun _=>by decide) hH) (by rw [DI];rfl);rw [DH]at FM1;rw [DI]at FM2;rw [hF1]at S1;rw [hF3]at S2;obtain⟨g58,hg58⟩: ∃g,kK H.length 58=g:=⟨_,rfl⟩;rw [hg58]at S2 FM1;simp only [kK]at S1;simp [S1,g7,Fr.bO,Fr.jj,aD,hF2,S2,q7,FM1,FM2,ah]
end
def xq (rec:Rec)(fn:FuncId):Nat→Code→bE→Option (Code×bE)
 |0,c,st=>some (c,st)
 |k+1, .seq a b,st=>match rec fn a st with|some (.normal,st')=>xq rec fn k b st'|_=>none
 |_+1,_,_=>none
def lY:Nat→Code→Code
 |0,c=>c
 |k+1, .seq _ b=>lY k b
 |_+1,c=>c
theorem j4 {K:Ctx}{n:Nat}{fn:FuncId}: ∀{k:Nat} {c:Code} {st:bE} {c':Code} {st':bE},xq (cC K n) fn k c st=some (c',st')→aE K fn c st=aE K fn c' st'
 |0,c,st,c',st',h=>by cases h;rfl
 |k+1,c,st,c',st',h=>by
  cases c with
  |seq a b=>
   simp only [xq]at h;split at h
   ·rename_i st1 h1;have h2:aE K fn a st=some (.normal,st1):=(iD K).2 (kI K n fn a st _ h1);rw [dD];show (match aE K fn a st with|some (.normal,st')=>aE K fn b st'|r=>r)=_
    rw [h2];exact j4 h
   ·cases h
  |_=>simp [xq]at h
def Uy:Fr:=[(1,(.box [(.pure (.int .i64 (2))),(.pure (.int .i64 (1))),(.ay (1,12306) 2 2 0 2),(.ay (1,24594) 5 2 0 2),(.ay (1,28690) 1 1 0 1),(.ay (1,32786) 1 3 0 3),(.ay (1,57362) 9 5 0 5)])),(2,(.box [(.pure (.int .i64 (2))),(.pure (.int .i64 (1))),(.ay (1,12307) 2 2 0 2),(.ay (1,24595) 5 2 0 2),(.ay (1,28691) 1 1 0 1),(.ay (1,32787) 1 3 0 3),(.ay (1,57363) 9 5 0 5)])),(3,(.box [(.pure (.int .i64 (2))),(.pure (.int .i64 (1))),(.ay (1,12308) 2 2 0 2),(.ay (1,24596) 5 2 0 2),(.ay (1,28692) 1 1 0 1),(.ay (1,32788) 1 3 0 3),(.ay (1,57364) 9 5 0 5)])),(4,(.box [(.pure (.int .i64 (2))),(.pure (.int .i64 (1))),(.ay (1,12309) 2 2 0 2),(.ay (1,24597) 5 2 0 2),(.ay (1,28693) 1 1 0 1),(.ay (1,32789) 1 3 0 3),(.ay (1,57365) 9 5 0 5)])),(5,(.box [(.pure (.int .i64 (2))),(.pure (.int .i64 (1))),(.ay (1,12310) 2 2 0 2),(.ay (1,24598) 5 2 0 2),(.ay (1,28694) 1 1 0 1),(.ay (1,32790) 1 3 0 3),(.ay (1,42) 9 6 0 6)])),(42,(.arr 9 [[(.int .i64 (0)),(.int .i64 (0)),(.int .i64 (2)),(.int .i64 (0)),(.int .i64 (0)),(.int .i64 (0)),(.int .i64 (0)),(.int .i64 (0)),(.int .i64 (0))],[(.int .i64 (1)),(.int .i64 (0)),(.int .i64 (2)),(.int .i64 (1)),(.int .i64 (1)),(.int .i64 (0)),(.int .i64 (0)),(.int .i64 (0)),(.int .i64 (0))],[(.int .i64 (1)),(.int .i64 (1)),(.int .i64 (1)),(.int .i64 (0)),(.int .i64 (0)),(.int .i64 (0)),(.int .i64 (0)),(.int .i64 (0)),(.int .i64 (0))],[(.int .i64 (2)),(.int .i64 (0)),(.int .i64 (5)),(.int .i64 (1)),(.int .i64 (0)),(.int .i64 (0)),(.int .i64 (0)),(.int .i64 (0)),(.int .i64 (0))],[(.int .i64 (3)),(.int .i64 (0)),(.int .i64 (3)),(.int .i64 (0)),(.int .i64 (0)),(.int .i64 (0)),(.int .i64 (0)),(.int .i64 (0)),(.int .i64 (0))],[(.int .i64 (4)),(.int .i64 (0)),(.int .i64 (3)),(.int .i64 (1)),(.int .i64 (0)),(.int .i64 (0)),(.int .i64 (0)),(.int .i64 (0)),(.int .i64 (0))]] 0 false)),(12306,(.arr 2 [[(.int .i64 (1)),(.int .i64 (0))],[(.int .i64 (3)),(.int .i64 (1))]] 0 false)),(12307,(.arr 2 [[(.int .i64 (1)),(.int .i64 (0))],[(.int .i64 (3)),(.int .i64 (1))]] 0 false)),(12308,(.arr 2 [[(.int .i64 (1)),(.int .i64 (0))],[(.int .i64 (3)),(.int .i64 (1))]] 0 false)),(12309,(.arr 2 [[(.int .i64 (1)),(.int .i64 (0))],[(.int .i64 (3)),(.int .i64 (1))]] 0 false)),(12310,(.arr 2 [[(.int .i64 (1)),(.int .i64 (0))],[(.int .i64 (3)),(.int .i64 (1))]] 0 false)),(24594,(.arr 5 [[(.int .i64 (0)),(.int .i64 (0)),(.int .i64 (2)),(.int .i64 (1)),(.bool false)],[(.int .i64 (0)),(.int .i64 (1)),(.int .i64 (0)),(.int .i64 (1)),(.bool true)]] 2 false)),(24595,(.arr 5 [[(.int .i64 (0)),(.int .i64 (0)),(.int .i64 (0)),(.int .i64 (1)),(.bool false)],[(.int .i64 (0)),(.int .i64 (1)),(.int .i64 (0)),(.int .i64 (1)),(.bool true)]] 0 false)),(24596,(.arr 5 [[(.int .i64 (0)),(.int .i64 (0)),(.int .i64 (0)),(.int .i64 (1)),(.bool false)],[(.int .i64 (0)),(.int .i64 (1)),(.int .i64 (0)),(.int .i64 (1)),(.bool true)]] 0 false)),(24597,(.arr 5 [[(.int .i64 (0)),(.int .i64 (0)),(.int .i64 (0)),(.int .i64 (1)),(.bool false)],[(.int .i64 (0)),(.int .i64 (1)),(.int .i64 (0)),(.int .i64 (1)),(.bool true)]] 0 false)),(24598,(.arr 5 [[(.int .i64 (0)),(.int .i64 (0)),(.int .i64 (0)),(.int .i64 (1)),(.bool false)],[(.int .i64 (0)),(.int .i64 (1)),(.int .i64 (0)),(.int .i64 (1)),(.bool true)]] 0 false)),(28690,(.arr 1 [[(.int .i64 (1))]] 0 false)),(28691,(.arr 1 [[(.int .i64 (1))]] 0 false)),(28692,(.arr 1 [[(.int .i64 (1))]] 0 false)),(28693,(.arr 1 [[(.int .i64 (1))]] 0 false)),(28694,(.arr 1 [[(.int .i64 (1))]] 0 false)),(32786,(.arr 1 [[(.int .i64 (1))],[(.int .i64 (2))],[(.int .i64 (3))]] 0 false)),(32787,(.arr 1 [[(.int .i64 (1))],[(.int .i64 (2))],[(.int .i64 (3))]] 0 false)),(32788,(.arr 1 [[(.int .i64 (1))],[(.int .i64 (2))],[(.int .i64 (3))]] 0 false)),(32789,(.arr 1 [[(.int .i64 (1))],[(.int .i64 (2))],[(.int .i64 (3))]] 0 false)),(32790,(.arr 1 [[(.int .i64 (1))],[(.int .i64 (2))],[(.int .i64 (3))]] 0 false)),(57362,(.arr 9 [[(.int .i64 (0)),(.int .i64 (0)),(.int .i64 (2)),(.int .i64 (0)),(.int .i64 (0)),(.int .i64 (0)),(.int .i64 (0)),(.int .i64 (0)),(.int .i64 (0))],[(.int .i64 (1)),(.int .i64 (0)),(.int .i64 (2)),(.int .i64 (1)),(.int .i64 (1)),(.int .i64 (0)),(.int .i64 (0)),(.int .i64 (0)),(.int .i64 (0))],[(.int .i64 (2)),(.int .i64 (0)),(.int .i64 (5)),(.int .i64 (1)),(.int .i64 (0)),(.int .i64 (0)),(.int .i64 (0)),(.int .i64 (0)),(.int .i64 (0))],[(.int .i64 (3)),(.int .i64 (0)),(.int .i64 (3)),(.int .i64 (0)),(.int .i64 (0)),(.int .i64 (0)),(.int .i64 (0)),(.int .i64 (0)),(.int .i64 (0))],[(.int .i64 (4)),(.int .i64 (0)),(.int .i64 (3)),(.int .i64 (1)),(.int .i64 (0)),(.int .i64 (0)),(.int .i64 (0)),(.int .i64 (0)),(.int .i64 (0))]] 0 false)),(57363,(.arr 9 [[(.int .i64 (0)),(.int .i64 (0)),(.int .i64 (1)),(.int .i64 (1)),(.int .i64 (0)),(.int .i64 (0)),(.int .i64 (0)),(.int .i64 (0)),(.int .i64 (0))],[(.int .i64 (1)),(.int .i64 (0)),(.int .i64 (2)),(.int .i64 (1)),(.int .i64 (1)),(.int .i64 (0)),(.int .i64 (0)),(.int .i64 (0)),(.int .i64 (0))],[(.int .i64 (2)),(.int .i64 (0)),(.int .i64 (5)),(.int .i64 (1)),(.int .i64 (0)),(.int .i64 (0)),(.int .i64 (0)),(.int .i64 (0)),(.int .i64 (0))],[(.int .i64 (3)),(.int .i64 (0)),(.int .i64 (3)),(.int .i64 (0)),(.int .i64 (0)),(.int .i64 (0)),(.int .i64 (0)),(.int .i64 (0)),(.int .i64 (0))],[(.int .i64 (4)),(.int .i64 (0)),(.int .i64 (3)),(.int .i64 (1)),(.int .i64 (0)),(.int .i64 (0)),(.int .i64 (0)),(.int .i64 (0)),(.int .i64 (0))]] 5 false)),(57364,(.arr 9 [[(.int .i64 (0)),(.int .i64 (0)),(.int .i64 (2)),(.int .i64 (0)),(.int .i64 (0)),(.int .i64 (0)),(.int .i64 (0)),(.int .i64 (0)),(.int .i64 (0))],[(.int .i64 (0)),(.int .i64 (0)),(.int .i64 (2)),(.int .i64 (1)),(.int .i64 (1)),(.int .i64 (0)),(.int .i64 (0)),(.int .i64 (0)),(.int .i64 (0))],[(.int .i64 (2)),(.int .i64 (0)),(.int .i64 (5)),(.int .i64 (1)),(.int .i64 (0)),(.int .i64 (0)),(.int .i64 (0)),(.int .i64 (0)),(.int .i64 (0))],[(.int .i64 (3)),(.int .i64 (0)),(.int .i64 (3)),(.int .i64 (0)),(.int .i64 (0)),(.int .i64 (0)),(.int .i64 (0)),(.int .i64 (0)),(.int .i64 (0))],[(.int .i64 (4)),(.int .i64 (0)),(.int .i64 (3)),(.int .i64 (1)),(.int .i64 (0)),(.int .i64 (0)),(.int .i64 (0)),(.int .i64 (0)),(.int .i64 (0))]] 5 false)),(57365,(.arr 9 [[(.int .i64 (0)),(.int .i64 (0)),(.int .i64 (2)),(.int .i64 (0)),(.int .i64 (0)),(.int .i64 (0)),(.int .i64 (0)),(.int .i64 (0)),(.int .i64 (0))],[(.int .i64 (1)),(.int .i64 (0)),(.int .i64 (2)),(.int .i64 (1)),(.int .i64 (1)),(.int .i64 (0)),(.int .i64 (0)),(.int .i64 (0)),(.int .i64 (0))],[(.int .i64 (2)),(.int .i64 (0)),(.int .i64 (5)),(.int .i64 (0)),(.int .i64 (0)),(.int .i64 (0)),(.int .i64 (0)),(.int .i64 (0)),(.int .i64 (0))],[(.int .i64 (3)),(.int .i64 (0)),(.int .i64 (3)),(.int .i64 (0)),(.int .i64 (0)),(.int .i64 (0)),(.int .i64 (0)),(.int .i64 (0)),(.int .i64 (0))],[(.int .i64 (4)),(.int .i64 (0)),(.int .i64 (3)),(.int .i64 (1)),(.int .i64 (0)),(.int .i64 (0)),(.int .i64 (0)),(.int .i64 (0)),(.int .i64 (0))]] 5 false)),(57366,(.arr 9 [[(.int .i64 (0)),(.int .i64 (0)),(.int .i64 (2)),(.int .i64 (0)),(.int .i64 (0)),(.int .i64 (0)),(.int .i64 (0)),(.int .i64 (0)),(.int .i64 (0))],[(.int .i64 (1)),(.int .i64 (0)),(.int .i64 (2)),(.int .i64 (1)),(.int .i64 (1)),(.int .i64 (0)),(.int .i64 (0)),(.int .i64 (0)),(.int .i64 (0))],[(.int .i64 (2)),(.int .i64 (0)),(.int .i64 (5)),(.int .i64 (1)),(.int .i64 (0)),(.int .i64 (0)),(.int .i64 (0)),(.int .i64 (0)),(.int .i64 (0))],[(.int .i64 (3)),(.int .i64 (0)),(.int .i64 (3)),(.int .i64 (0)),(.int .i64 (0)),(.int .i64 (0)),(.int .i64 (0)),(.int .i64 (0)),(.int .i64 (0))],[(.int .i64 (4)),(.int .i64 (0)),(.int .i64 (3)),(.int .i64 (1)),(.int .i64 (0)),(.int .i64 (0)),(.int .i64 (0)),(.int .i64 (0)),(.int .i64 (0))]] 0 false))]
def Sg:bE:=⟨[(50,(.aA (1,5) 6)),(49,(.ay (1,42) 9 6 0 6)),(48,(.ay (1,57366) 9 5 2 3)),(47,(.ay (1,57366) 9 5 0 5)),(46,(.aA (1,5) 6)),(45,(.ay (1,42) 9 3 0 3)),(44,(.pure (.slice [[(.int .i64 (1)),(.int .i64 (1)),(.int .i64 (1)),(.int .i64 (0)),(.int .i64 (0)),(.int .i64 (0)),(.int .i64 (0)),(.int .i64 (0)),(.int .i64 (0))]]))),(43,(.pure (.agg [(.int .i64 (1)),(.int .i64 (1)),(.int .i64 (1)),(.int .i64 (0)),(.int .i64 (0)),(.int .i64 (0)),(.int .i64 (0)),(.int .i64 (0)),(.int .i64 (0))]))),(42,(.ay (1,42) 9 2 0 2)),(41,(.ay (1,57366) 9 5 0 2)),(40,(.ay (1,57366) 9 5 0 5)),(39,(.aA (1,5) 6)),(38, .aO),(37,(.bZ (1,57363) 9 5 0 0)),(36,(.pure (.agg [(.int .i64 (0)),(.int .i64 (0)),(.int .i64 (1)),(.int .i64 (1)),(.int .i64 (0)),(.int .i64 (0)),(.int .i64 (0)),(.int .i64 (0)),(.int .i64 (0))]))),(35,(.ay (1,57363) 9 5 0 5)),(34,(.aA (1,2) 6)),(33,(.bZ (1,57365) 9 5 2 3)),(32,(.bZ (1,57365) 9 5 2 0)),(31,(.bZ (1,57364) 9 5 1 0)),(30,(.bZ (1,57364) 9 5 1 0)),(29,(.bZ (1,24594) 5 2 0 2)),(28,(.bZ (1,24594) 5 2 0 0)),(27,(.ay (1,57365) 9 5 0 5)),(26,(.aA (1,4) 6)),(25,(.ay (1,57364) 9 5 0 5)),(24,(.aA (1,3) 6)),(23,(.ay (1,24594) 5 2 0 2)),(22,(.aA (1,1) 3)),(5,(.aA (1,5) 0)),(4,(.aA (1,4) 0)),(3,(.aA (1,3) 0)),(2,(.aA (1,2) 0)),(1,(.aA (1,1) 0)),(21,(.agg [(.pure (.int .i64 (2))),(.pure (.int .i64 (1))),(.ay (1,12310) 2 2 0 2),(.ay (1,24598) 5 2 0 2),(.ay (1,28694) 1 1 0 1),(.ay (1,32790) 1 3 0 3),(.ay (1,57366) 9 5 0 5)])),(20,(.agg [(.pure (.int .i64 (2))),(.pure (.int .i64 (1))),(.ay (1,12309) 2 2 0 2),(.ay (1,24597) 5 2 0 2),(.ay (1,28693) 1 1 0 1),(.ay (1,32789) 1 3 0 3),(.ay (1,57365) 9 5 0 5)])),(19,(.agg [(.pure (.int .i64 (2))),(.pure (.int .i64 (1))),(.ay (1,12308) 2 2 0 2),(.ay (1,24596) 5 2 0 2),(.ay (1,28692) 1 1 0 1),(.ay (1,32788) 1 3 0 3),(.ay (1,57364) 9 5 0 5)])),(18,(.agg [(.pure (.int .i64 (2))),(.pure (.int .i64 (1))),(.ay (1,12307) 2 2 0 2),(.ay (1,24595) 5 2 0 2),(.ay (1,28691) 1 1 0 1),(.ay (1,32787) 1 3 0 3),(.ay (1,57363) 9 5 0 5)])),(17,(.agg [(.pure (.int .i64 (2))),(.pure (.int .i64 (1))),(.ay (1,12306) 2 2 0 2),(.ay (1,24594) 5 2 0 2),(.ay (1,28690) 1 1 0 1),(.ay (1,32786) 1 3 0 3),(.ay (1,57362) 9 5 0 5)])),(0,(.pure (.bool false)))],[Uy,[]],164⟩
theorem Hv:xq (cC KC 5000) 8 5 (Try.f8.body.getD .skip) ⟨[],[[],[]],164⟩=some (lY 5 (Try.f8.body.getD .skip),Sg):=by kernel_rfl
def Uz:Fr:=[(1,(.box [(.pure (.int .i64 (2))),(.pure (.int .i64 (1))),(.ay (1,12306) 2 2 0 2),(.ay (1,24594) 5 2 0 2),(.ay (1,28690) 1 1 0 1),(.ay (1,32786) 1 3 0 3),(.ay (1,57362) 9 5 0 5)])),(2,(.box [(.pure (.int .i64 (2))),(.pure (.int .i64 (1))),(.ay (1,12307) 2 2 0 2),(.ay (1,24595) 5 2 0 2),(.ay (1,28691) 1 1 0 1),(.ay (1,32787) 1 3 0 3),(.ay (1,57363) 9 5 0 5)])),(3,(.box [(.pure (.int .i64 (2))),(.pure (.int .i64 (1))),(.ay (1,12308) 2 2 0 2),(.ay (1,24596) 5 2 0 2),(.ay (1,28692) 1 1 0 1),(.ay (1,32788) 1 3 0 3),(.ay (1,57364) 9 5 0 5)])),(4,(.box [(.pure (.int .i64 (2))),(.pure (.int .i64 (1))),(.ay (1,12309) 2 2 0 2),(.ay (1,24597) 5 2 0 2),(.ay (1,28693) 1 1 0 1),(.ay (1,32789) 1 3 0 3),(.ay (1,57365) 9 5 0 5)])),(5,(.box [(.pure (.int .i64 (2))),(.pure (.int .i64 (1))),(.ay (1,12310) 2 2 0 2),(.ay (1,24598) 5 2 0 2),(.ay (1,28694) 1 1 0 1),(.ay (1,32790) 1 3 0 3),(.ay (1,42) 9 6 0 6)])),(42,(.arr 9 [[(.int .i64 (0)),(.int .i64 (0)),(.int .i64 (2)),(.int .i64 (0)),(.int .i64 (0)),(.int .i64 (0)),(.int .i64 (0)),(.int .i64 (0)),(.int .i64 (0))],[(.int .i64 (1)),(.int .i64 (0)),(.int .i64 (2)),(.int .i64 (1)),(.int .i64 (1)),(.int .i64 (0)),(.int .i64 (0)),(.int .i64 (0)),(.int .i64 (0))],[(.int .i64 (1)),(.int .i64 (1)),(.int .i64 (1)),(.int .i64 (0)),(.int .i64 (0)),(.int .i64 (0)),(.int .i64 (0)),(.int .i64 (0)),(.int .i64 (0))],[(.int .i64 (2)),(.int .i64 (0)),(.int .i64 (5)),(.int .i64 (1)),(.int .i64 (0)),(.int .i64 (0)),(.int .i64 (0)),(.int .i64 (0)),(.int .i64 (0))],[(.int .i64 (3)),(.int .i64 (0)),(.int .i64 (3)),(.int .i64 (0)),(.int .i64 (0)),(.int .i64 (0)),(.int .i64 (0)),(.int .i64 (0)),(.int .i64 (0))],[(.int .i64 (4)),(.int .i64 (0)),(.int .i64 (3)),(.int .i64 (1)),(.int .i64 (0)),(.int .i64 (0)),(.int .i64 (0)),(.int .i64 (0)),(.int .i64 (0))]] 0 false)),(12306,(.arr 2 [[(.int .i64 (1)),(.int .i64 (0))],[(.int .i64 (3)),(.int .i64 (1))]] 0 false)),(12307,(.arr 2 [[(.int .i64 (1)),(.int .i64 (0))],[(.int .i64 (3)),(.int .i64 (1))]] 0 false)),(12308,(.arr 2 [[(.int .i64 (1)),(.int .i64 (0))],[(.int .i64 (3)),(.int .i64 (1))]] 0 false)),(12309,(.arr 2 [[(.int .i64 (1)),(.int .i64 (0))],[(.int .i64 (3)),(.int .i64 (1))]] 0 false)),(12310,(.arr 2 [[(.int .i64 (1)),(.int .i64 (0))],[(.int .i64 (3)),(.int .i64 (1))]] 0 false)),(12343,(.arr 2 [[(.int .i64 (1)),(.int .i64 (0))],[(.int .i64 (3)),(.int .i64 (1))]] 0 false)),(24594,(.arr 5 [[(.int .i64 (0)),(.int .i64 (0)),(.int .i64 (2)),(.int .i64 (1)),(.bool false)],[(.int .i64 (0)),(.int .i64 (1)),(.int .i64 (0)),(.int .i64 (1)),(.bool true)]] 2 false)),(24595,(.arr 5 [[(.int .i64 (0)),(.int .i64 (0)),(.int .i64 (0)),(.int .i64 (1)),(.bool false)],[(.int .i64 (0)),(.int .i64 (1)),(.int .i64 (0)),(.int .i64 (1)),(.bool true)]] 0 false)),(24596,(.arr 5 [[(.int .i64 (0)),(.int .i64 (0)),(.int .i64 (0)),(.int .i64 (1)),(.bool false)],[(.int .i64 (0)),(.int .i64 (1)),(.int .i64 (0)),(.int .i64 (1)),(.bool true)]] 0 false)),(24597,(.arr 5 [[(.int .i64 (0)),(.int .i64 (0)),(.int .i64 (0)),(.int .i64 (1)),(.bool false)],[(.int .i64 (0)),(.int .i64 (1)),(.int .i64 (0)),(.int .i64 (1)),(.bool true)]] 0 false)),(24598,(.arr 5 [[(.int .i64 (0)),(.int .i64 (0)),(.int .i64 (0)),(.int .i64 (1)),(.bool false)],[(.int .i64 (0)),(.int .i64 (1)),(.int .i64 (0)),(.int .i64 (1)),(.bool true)]] 0 false)),(24631,(.arr 5 [[(.int .i64 (0)),(.int .i64 (0)),(.int .i64 (0)),(.int .i64 (1)),(.bool false)],[(.int .i64 (0)),(.int .i64 (1)),(.int .i64 (0)),(.int .i64 (1)),(.bool true)]] 0 false)),(28690,(.arr 1 [[(.int .i64 (1))]] 0 false)),(28691,(.arr 1 [[(.int .i64 (1))]] 0 false)),(28692,(.arr 1 [[(.int .i64 (1))]] 0 false)),(28693,(.arr 1 [[(.int .i64 (1))]] 0 false)),(28694,(.arr 1 [[(.int .i64 (1))]] 0 false)),(28727,(.arr 1 [[(.int .i64 (1))]] 0 false)),(32786,(.arr 1 [[(.int .i64 (1))],[(.int .i64 (2))],[(.int .i64 (3))]] 0 false)),(32787,(.arr 1 [[(.int .i64 (1))],[(.int .i64 (2))],[(.int .i64 (3))]] 0 false)),(32788,(.arr 1 [[(.int .i64 (1))],[(.int .i64 (2))],[(.int .i64 (3))]] 0 false)),(32789,(.arr 1 [[(.int .i64 (1))],[(.int .i64 (2))],[(.int .i64 (3))]] 0 false)),(32790,(.arr 1 [[(.int .i64 (1))],[(.int .i64 (2))],[(.int .i64 (3))]] 0 false)),(32823,(.arr 1 [[(.int .i64 (1))],[(.int .i64 (2))],[(.int .i64 (3))]] 0 false)),(57362,(.arr 9 [[(.int .i64 (0)),(.int .i64 (0)),(.int .i64 (2)),(.int .i64 (0)),(.int .i64 (0)),(.int .i64 (0)),(.int .i64 (0)),(.int .i64 (0)),(.int .i64 (0))],[(.int .i64 (1)),(.int .i64 (0)),(.int .i64 (2)),(.int .i64 (1)),(.int .i64 (1)),(.int .i64 (0)),(.int .i64 (0)),(.int .i64 (0)),(.int .i64 (0))],[(.int .i64 (2)),(.int .i64 (0)),(.int .i64 (5)),(.int .i64 (1)),(.int .i64 (0)),(.int .i64 (0)),(.int .i64 (0)),(.int .i64 (0)),(.int .i64 (0))],[(.int .i64 (3)),(.int .i64 (0)),(.int .i64 (3)),(.int .i64 (0)),(.int .i64 (0)),(.int .i64 (0)),(.int .i64 (0)),(.int .i64 (0)),(.int .i64 (0))],[(.int .i64 (4)),(.int .i64 (0)),(.int .i64 (3)),(.int .i64 (1)),(.int .i64 (0)),(.int .i64 (0)),(.int .i64 (0)),(.int .i64 (0)),(.int .i64 (0))]] 0 false)),(57363,(.arr 9 [[(.int .i64 (0)),(.int .i64 (0)),(.int .i64 (1)),(.int .i64 (1)),(.int .i64 (0)),(.int .i64 (0)),(.int .i64 (0)),(.int .i64 (0)),(.int .i64 (0))],[(.int .i64 (1)),(.int .i64 (0)),(.int .i64 (2)),(.int .i64 (1)),(.int .i64 (1)),(.int .i64 (0)),(.int .i64 (0)),(.int .i64 (0)),(.int .i64 (0))],[(.int .i64 (2)),(.int .i64 (0)),(.int .i64 (5)),(.int .i64 (1)),(.int .i64 (0)),(.int .i64 (0)),(.int .i64 (0)),(.int .i64 (0)),(.int .i64 (0))],[(.int .i64 (3)),(.int .i64 (0)),(.int .i64 (3)),(.int .i64 (0)),(.int .i64 (0)),(.int .i64 (0)),(.int .i64 (0)),(.int .i64 (0)),(.int .i64 (0))],[(.int .i64 (4)),(.int .i64 (0)),(.int .i64 (3)),(.int .i64 (1)),(.int .i64 (0)),(.int .i64 (0)),(.int .i64 (0)),(.int .i64 (0)),(.int .i64 (0))]] 5 false)),(57364,(.arr 9 [[(.int .i64 (0)),(.int .i64 (0)),(.int .i64 (2)),(.int .i64 (0)),(.int .i64 (0)),(.int .i64 (0)),(.int .i64 (0)),(.int .i64 (0)),(.int .i64 (0))],[(.int .i64 (0)),(.int .i64 (0)),(.int .i64 (2)),(.int .i64 (1)),(.int .i64 (1)),(.int .i64 (0)),(.int .i64 (0)),(.int .i64 (0)),(.int .i64 (0))],[(.int .i64 (2)),(.int .i64 (0)),(.int .i64 (5)),(.int .i64 (1)),(.int .i64 (0)),(.int .i64 (0)),(.int .i64 (0)),(.int .i64 (0)),(.int .i64 (0))],[(.int .i64 (3)),(.int .i64 (0)),(.int .i64 (3)),(.int .i64 (0)),(.int .i64 (0)),(.int .i64 (0)),(.int .i64 (0)),(.int .i64 (0)),(.int .i64 (0))],[(.int .i64 (4)),(.int .i64 (0)),(.int .i64 (3)),(.int .i64 (1)),(.int .i64 (0)),(.int .i64 (0)),(.int .i64 (0)),(.int .i64 (0)),(.int .i64 (0))]] 5 false)),(57365,(.arr 9 [[(.int .i64 (0)),(.int .i64 (0)),(.int .i64 (2)),(.int .i64 (0)),(.int .i64 (0)),(.int .i64 (0)),(.int .i64 (0)),(.int .i64 (0)),(.int .i64 (0))],[(.int .i64 (1)),(.int .i64 (0)),(.int .i64 (2)),(.int .i64 (1)),(.int .i64 (1)),(.int .i64 (0)),(.int .i64 (0)),(.int .i64 (0)),(.int .i64 (0))],[(.int .i64 (2)),(.int .i64 (0)),(.int .i64 (5)),(.int .i64 (0)),(.int .i64 (0)),(.int .i64 (0)),(.int .i64 (0)),(.int .i64 (0)),(.int .i64 (0))],[(.int .i64 (3)),(.int .i64 (0)),(.int .i64 (3)),(.int .i64 (0)),(.int .i64 (0)),(.int .i64 (0)),(.int .i64 (0)),(.int .i64 (0)),(.int .i64 (0))],[(.int .i64 (4)),(.int .i64 (0)),(.int .i64 (3)),(.int .i64 (1)),(.int .i64 (0)),(.int .i64 (0)),(.int .i64 (0)),(.int .i64 (0)),(.int .i64 (0))]] 5 false)),(57366,(.arr 9 [[(.int .i64 (0)),(.int .i64 (0)),(.int .i64 (2)),(.int .i64 (0)),(.int .i64 (0)),(.int .i64 (0)),(.int .i64 (0)),(.int .i64 (0)),(.int .i64 (0))],[(.int .i64 (1)),(.int .i64 (0)),(.int .i64 (2)),(.int .i64 (1)),(.int .i64 (1)),(.int .i64 (0)),(.int .i64 (0)),(.int .i64 (0)),(.int .i64 (0))],[(.int .i64 (2)),(.int .i64 (0)),(.int .i64 (5)),(.int .i64 (1)),(.int .i64 (0)),(.int .i64 (0)),(.int .i64 (0)),(.int .i64 (0)),(.int .i64 (0))],[(.int .i64 (3)),(.int .i64 (0)),(.int .i64 (3)),(.int .i64 (0)),(.int .i64 (0)),(.int .i64 (0)),(.int .i64 (0)),(.int .i64 (0)),(.int .i64 (0))],[(.int .i64 (4)),(.int .i64 (0)),(.int .i64 (3)),(.int .i64 (1)),(.int .i64 (0)),(.int .i64 (0)),(.int .i64 (0)),(.int .i64 (0)),(.int .i64 (0))]] 0 false)),(57399,(.arr 9 [[(.int .i64 (0)),(.int .i64 (0)),(.int .i64 (2)),(.int .i64 (0)),(.int .i64 (0)),(.int .i64 (0)),(.int .i64 (0)),(.int .i64 (0)),(.int .i64 (0))],[(.int .i64 (1)),(.int .i64 (0)),(.int .i64 (2)),(.int .i64 (1)),(.int .i64 (1)),(.int .i64 (0)),(.int .i64 (0)),(.int .i64 (0)),(.int .i64 (0))],[(.int .i64 (2)),(.int .i64 (0)),(.int .i64 (5)),(.int .i64 (1)),(.int .i64 (0)),(.int .i64 (0)),(.int .i64 (0)),(.int .i64 (0)),(.int .i64 (0))],[(.int .i64 (3)),(.int .i64 (0)),(.int .i64 (3)),(.int .i64 (0)),(.int .i64 (0)),(.int .i64 (0)),(.int .i64 (0)),(.int .i64 (0)),(.int .i64 (0))],[(.int .i64 (4)),(.int .i64 (0)),(.int .i64 (3)),(.int .i64 (1)),(.int .i64 (0)),(.int .i64 (0)),(.int .i64 (0)),(.int .i64 (0)),(.int .i64 (0))]] 0 false))]
def Sh:bE:=⟨[(72,(.pure (.bool false))),(71,(.pure (.bool false))),(70,(.pure (.int .i64 (12)))),(69,(.agg [(.pure (.int .i64 (2))),(.pure (.int .i64 (1))),(.ay (1,12308) 2 2 0 2),(.ay (1,24596) 5 2 0 2),(.ay (1,28692) 1 1 0 1),(.ay (1,32788) 1 3 0 3),(.ay (1,57364) 9 5 0 5)])),(68,(.pure (.bool false))),(67,(.pure (.bool false))),(66,(.pure (.bool false))),(65,(.pure (.int .i64 (3)))),(64,(.agg [(.pure (.int .i64 (2))),(.pure (.int .i64 (1))),(.ay (1,12307) 2 2 0 2),(.ay (1,24595) 5 2 0 2),(.ay (1,28691) 1 1 0 1),(.ay (1,32787) 1 3 0 3),(.ay (1,57363) 9 5 0 5)])),(63,(.pure (.bool false))),(62,(.pure (.bool false))),(61,(.pure (.bool false))),(60,(.pure (.int .i64 (7)))),(59,(.agg [(.pure (.int .i64 (2))),(.pure (.int .i64 (1))),(.ay (1,12306) 2 2 0 2),(.ay (1,24594) 5 2 0 2),(.ay (1,28690) 1 1 0 1),(.ay (1,32786) 1 3 0 3),(.ay (1,57362) 9 5 0 5)])),(58,(.pure (.bool false))),(57,(.pure (.bool false))),(56,(.pure (.bool false))),(55,(.pure (.int .i64 (0)))),(54,(.agg [(.pure (.int .i64 (2))),(.pure (.int .i64 (1))),(.ay (1,12343) 2 2 0 2),(.ay (1,24631) 5 2 0 2),(.ay (1,28727) 1 1 0 1),(.ay (1,32823) 1 3 0 3),(.ay (1,57399) 9 5 0 5)])),(53,(.pure (.bool false))),(52,(.pure (.bool false))),(51,(.pure (.bool true))),(50,(.aA (1,5) 6)),(49,(.ay (1,42) 9 6 0 6)),(48,(.ay (1,57366) 9 5 2 3)),(47,(.ay (1,57366) 9 5 0 5)),(46,(.aA (1,5) 6)),(45,(.ay (1,42) 9 3 0 3)),(44,(.pure (.slice [[(.int .i64 (1)),(.int .i64 (1)),(.int .i64 (1)),(.int .i64 (0)),(.int .i64 (0)),(.int .i64 (0)),(.int .i64 (0)),(.int .i64 (0)),(.int .i64 (0))]]))),(43,(.pure (.agg [(.int .i64 (1)),(.int .i64 (1)),(.int .i64 (1)),(.int .i64 (0)),(.int .i64 (0)),(.int .i64 (0)),(.int .i64 (0)),(.int .i64 (0)),(.int .i64 (0))]))),(42,(.ay (1,42) 9 2 0 2)),(41,(.ay (1,57366) 9 5 0 2)),(40,(.ay (1,57366) 9 5 0 5)),(39,(.aA (1,5) 6)),(38, .aO),(37,(.bZ (1,57363) 9 5 0 0)),(36,(.pure (.agg [(.int .i64 (0)),(.int .i64 (0)),(.int .i64 (1)),(.int .i64 (1)),(.int .i64 (0)),(.int .i64 (0)),(.int .i64 (0)),(.int .i64 (0)),(.int .i64 (0))]))),(35,(.ay (1,57363) 9 5 0 5)),(34,(.aA (1,2) 6)),(33,(.bZ (1,57365) 9 5 2 3)),(32,(.bZ (1,57365) 9 5 2 0)),(31,(.bZ (1,57364) 9 5 1 0)),(30,(.bZ (1,57364) 9 5 1 0)),(29,(.bZ (1,24594) 5 2 0 2)),(28,(.bZ (1,24594) 5 2 0 0)),(27,(.ay (1,57365) 9 5 0 5)),(26,(.aA (1,4) 6)),(25,(.ay (1,57364) 9 5 0 5)),(24,(.aA (1,3) 6)),(23,(.ay (1,24594) 5 2 0 2)),(22,(.aA (1,1) 3)),(5,(.aA (1,5) 0)),(4,(.aA (1,4) 0)),(3,(.aA (1,3) 0)),(2,(.aA (1,2) 0)),(1,(.aA (1,1) 0)),(21,(.agg [(.pure (.int .i64 (2))),(.pure (.int .i64 (1))),(.ay (1,12310) 2 2 0 2),(.ay (1,24598) 5 2 0 2),(.ay (1,28694) 1 1 0 1),(.ay (1,32790) 1 3 0 3),(.ay (1,57366) 9 5 0 5)])),(20,(.agg [(.pure (.int .i64 (2))),(.pure (.int .i64 (1))),(.ay (1,12309) 2 2 0 2),(.ay (1,24597) 5 2 0 2),(.ay (1,28693) 1 1 0 1),(.ay (1,32789) 1 3 0 3),(.ay (1,57365) 9 5 0 5)])),(19,(.agg [(.pure (.int .i64 (2))),(.pure (.int .i64 (1))),(.ay (1,12308) 2 2 0 2),(.ay (1,24596) 5 2 0 2),(.ay (1,28692) 1 1 0 1),(.ay (1,32788) 1 3 0 3),(.ay (1,57364) 9 5 0 5)])),(18,(.agg [(.pure (.int .i64 (2))),(.pure (.int .i64 (1))),(.ay (1,12307) 2 2 0 2),(.ay (1,24595) 5 2 0 2),(.ay (1,28691) 1 1 0 1),(.ay (1,32787) 1 3 0 3),(.ay (1,57363) 9 5 0 5)])),(17,(.agg [(.pure (.int .i64 (2))),(.pure (.int .i64 (1))),(.ay (1,12306) 2 2 0 2),(.ay (1,24594) 5 2 0 2),(.ay (1,28690) 1 1 0 1),(.ay (1,32786) 1 3 0 3),(.ay (1,57362) 9 5 0 5)])),(0,(.pure (.bool false)))],[Uz,[]],164⟩
theorem Hw:xq (cC KC 5000) 8 1 (lY 5 (Try.f8.body.getD .skip)) Sg=some (lY 6 (Try.f8.body.getD .skip),Sh):=by kernel_rfl
def UA:Fr:=[(1,(.box [(.pure (.int .i64 (2))),(.pure (.int .i64 (1))),(.ay (1,12306) 2 2 0 2),(.ay (1,24594) 5 2 0 2),(.ay (1,28690) 1 1 0 1),(.ay (1,32786) 1 3 0 3),(.ay (1,57362) 9 5 0 5)])),(2,(.box [(.pure (.int .i64 (2))),(.pure (.int .i64 (1))),(.ay (1,12307) 2 2 0 2),(.ay (1,24595) 5 2 0 2),(.ay (1,28691) 1 1 0 1),(.ay (1,32787) 1 3 0 3),(.ay (1,57363) 9 5 0 5)])),(3,(.box [(.pure (.int .i64 (2))),(.pure (.int .i64 (1))),(.ay (1,12308) 2 2 0 2),(.ay (1,24596) 5 2 0 2),(.ay (1,28692) 1 1 0 1),(.ay (1,32788) 1 3 0 3),(.ay (1,57364) 9 5 0 5)])),(4,(.box [(.pure (.int .i64 (2))),(.pure (.int .i64 (1))),(.ay (1,12309) 2 2 0 2),(.ay (1,24597) 5 2 0 2),(.ay (1,28693) 1 1 0 1),(.ay (1,32789) 1 3 0 3),(.ay (1,57365) 9 5 0 5)])),(5,(.box [(.pure (.int .i64 (2))),(.pure (.int .i64 (1))),(.ay (1,12310) 2 2 0 2),(.ay (1,24598) 5 2 0 2),(.ay (1,28694) 1 1 0 1),(.ay (1,32790) 1 3 0 3),(.ay (1,42) 9 6 0 6)])),(6,(.box [(.pure (.slice [])),(.pure (.slice [])),(.pure (.slice []))])),(9,(.box [(.pure (.slice [])),(.pure (.slice [])),(.pure (.slice []))])),(42,(.arr 9 [[(.int .i64 (0)),(.int .i64 (0)),(.int .i64 (2)),(.int .i64 (0)),(.int .i64 (0)),(.int .i64 (0)),(.int .i64 (0)),(.int .i64 (0)),(.int .i64 (0))],[(.int .i64 (1)),(.int .i64 (0)),(.int .i64 (2)),(.int .i64 (1)),(.int .i64 (1)),(.int .i64 (0)),(.int .i64 (0)),(.int .i64 (0)),(.int .i64 (0))],[(.int .i64 (1)),(.int .i64 (1)),(.int .i64 (1)),(.int .i64 (0)),(.int .i64 (0)),(.int .i64 (0)),(.int .i64 (0)),(.int .i64 (0)),(.int .i64 (0))],[(.int .i64 (2)),(.int .i64 (0)),(.int .i64 (5)),(.int .i64 (1)),(.int .i64 (0)),(.int .i64 (0)),(.int .i64 (0)),(.int .i64 (0)),(.int .i64 (0))],[(.int .i64 (3)),(.int .i64 (0)),(.int .i64 (3)),(.int .i64 (0)),(.int .i64 (0)),(.int .i64 (0)),(.int .i64 (0)),(.int .i64 (0)),(.int .i64 (0))],[(.int .i64 (4)),(.int .i64 (0)),(.int .i64 (3)),(.int .i64 (1)),(.int .i64 (0)),(.int .i64 (0)),(.int .i64 (0)),(.int .i64 (0)),(.int .i64 (0))]] 0 false)),(12306,(.arr 2 [[(.int .i64 (1)),(.int .i64 (0))],[(.int .i64 (3)),(.int .i64 (1))]] 0 false)),(12307,(.arr 2 [[(.int .i64 (1)),(.int .i64 (0))],[(.int .i64 (3)),(.int .i64 (1))]] 0 false)),(12308,(.arr 2 [[(.int .i64 (1)),(.int .i64 (0))],[(.int .i64 (3)),(.int .i64 (1))]] 0 false)),(12309,(.arr 2 [[(.int .i64 (1)),(.int .i64 (0))],[(.int .i64 (3)),(.int .i64 (1))]] 0 true)),(12310,(.arr 2 [[(.int .i64 (1)),(.int .i64 (0))],[(.int .i64 (3)),(.int .i64 (1))]] 0 false)),(12343,(.arr 2 [[(.int .i64 (1)),(.int .i64 (0))],[(.int .i64 (3)),(.int .i64 (1))]] 0 false)),(24594,(.arr 5 [[(.int .i64 (0)),(.int .i64 (0)),(.int .i64 (2)),(.int .i64 (1)),(.bool false)],[(.int .i64 (0)),(.int .i64 (1)),(.int .i64 (0)),(.int .i64 (1)),(.bool true)]] 2 false)),(24595,(.arr 5 [[(.int .i64 (0)),(.int .i64 (0)),(.int .i64 (0)),(.int .i64 (1)),(.bool false)],[(.int .i64 (0)),(.int .i64 (1)),(.int .i64 (0)),(.int .i64 (1)),(.bool true)]] 0 false)),(24596,(.arr 5 [[(.int .i64 (0)),(.int .i64 (0)),(.int .i64 (0)),(.int .i64 (1)),(.bool false)],[(.int .i64 (0)),(.int .i64 (1)),(.int .i64 (0)),(.int .i64 (1)),(.bool true)]] 0 false)),(24597,(.arr 5 [[(.int .i64 (0)),(.int .i64 (0)),(.int .i64 (0)),(.int .i64 (1)),(.bool false)],[(.int .i64 (0)),(.int .i64 (1)),(.int .i64 (0)),(.int .i64 (1)),(.bool true)]] 0 true)),(24598,(.arr 5 [[(.int .i64 (0)),(.int .i64 (0)),(.int .i64 (0)),(.int .i64 (1)),(.bool false)],[(.int .i64 (0)),(.int .i64 (1)),(.int .i64 (0)),(.int .i64 (1)),(.bool true)]] 0 false)),(24631,(.arr 5 [[(.int .i64 (0)),(.int .i64 (0)),(.int .i64 (0)),(.int .i64 (1)),(.bool false)],[(.int .i64 (0)),(.int .i64 (1)),(.int .i64 (0)),(.int .i64 (1)),(.bool true)]] 0 false)),(28690,(.arr 1 [[(.int .i64 (1))]] 0 false)),(28691,(.arr 1 [[(.int .i64 (1))]] 0 false)),(28692,(.arr 1 [[(.int .i64 (1))]] 0 false)),(28693,(.arr 1 [[(.int .i64 (1))]] 0 true)),(28694,(.arr 1 [[(.int .i64 (1))]] 0 false)),(28727,(.arr 1 [[(.int .i64 (1))]] 0 false)),(32786,(.arr 1 [[(.int .i64 (1))],[(.int .i64 (2))],[(.int .i64 (3))]] 0 false)),(32787,(.arr 1 [[(.int .i64 (1))],[(.int .i64 (2))],[(.int .i64 (3))]] 0 false)),(32788,(.arr 1 [[(.int .i64 (1))],[(.int .i64 (2))],[(.int .i64 (3))]] 0 false)),(32789,(.arr 1 [[(.int .i64 (1))],[(.int .i64 (2))],[(.int .i64 (3))]] 0 true)),(32790,(.arr 1 [[(.int .i64 (1))],[(.int .i64 (2))],[(.int .i64 (3))]] 0 false)),(32823,(.arr 1 [[(.int .i64 (1))],[(.int .i64 (2))],[(.int .i64 (3))]] 0 false)),(41035,(.arr 9 [[(.int .i64 (0)),(.int .i64 (0)),(.int .i64 (2)),(.int .i64 (0)),(.int .i64 (0)),(.int .i64 (0)),(.int .i64 (0)),(.int .i64 (0)),(.int .i64 (0))],[(.int .i64 (1)),(.int .i64 (0)),(.int .i64 (2)),(.int .i64 (1)),(.int .i64 (1)),(.int .i64 (0)),(.int .i64 (0)),(.int .i64 (0)),(.int .i64 (0))],[(.int .i64 (2)),(.int .i64 (0)),(.int .i64 (5)),(.int .i64 (1)),(.int .i64 (0)),(.int .i64 (0)),(.int .i64 (0)),(.int .i64 (0)),(.int .i64 (0))],[(.int .i64 (3)),(.int .i64 (0)),(.int .i64 (3)),(.int .i64 (0)),(.int .i64 (0)),(.int .i64 (0)),(.int .i64 (0)),(.int .i64 (0)),(.int .i64 (0))]] 0 true)),(57362,(.arr 9 [[(.int .i64 (0)),(.int .i64 (0)),(.int .i64 (2)),(.int .i64 (0)),(.int .i64 (0)),(.int .i64 (0)),(.int .i64 (0)),(.int .i64 (0)),(.int .i64 (0))],[(.int .i64 (1)),(.int .i64 (0)),(.int .i64 (2)),(.int .i64 (1)),(.int .i64 (1)),(.int .i64 (0)),(.int .i64 (0)),(.int .i64 (0)),(.int .i64 (0))],[(.int .i64 (2)),(.int .i64 (0)),(.int .i64 (5)),(.int .i64 (1)),(.int .i64 (0)),(.int .i64 (0)),(.int .i64 (0)),(.int .i64 (0)),(.int .i64 (0))],[(.int .i64 (3)),(.int .i64 (0)),(.int .i64 (3)),(.int .i64 (0)),(.int .i64 (0)),(.int .i64 (0)),(.int .i64 (0)),(.int .i64 (0)),(.int .i64 (0))],[(.int .i64 (4)),(.int .i64 (0)),(.int .i64 (3)),(.int .i64 (1)),(.int .i64 (0)),(.int .i64 (0)),(.int .i64 (0)),(.int .i64 (0)),(.int .i64 (0))]] 0 false)),(57363,(.arr 9 [[(.int .i64 (0)),(.int .i64 (0)),(.int .i64 (1)),(.int .i64 (1)),(.int .i64 (0)),(.int .i64 (0)),(.int .i64 (0)),(.int .i64 (0)),(.int .i64 (0))],[(.int .i64 (1)),(.int .i64 (0)),(.int .i64 (2)),(.int .i64 (1)),(.int .i64 (1)),(.int .i64 (0)),(.int .i64 (0)),(.int .i64 (0)),(.int .i64 (0))],[(.int .i64 (2)),(.int .i64 (0)),(.int .i64 (5)),(.int .i64 (1)),(.int .i64 (0)),(.int .i64 (0)),(.int .i64 (0)),(.int .i64 (0)),(.int .i64 (0))],[(.int .i64 (3)),(.int .i64 (0)),(.int .i64 (3)),(.int .i64 (0)),(.int .i64 (0)),(.int .i64 (0)),(.int .i64 (0)),(.int .i64 (0)),(.int .i64 (0))],[(.int .i64 (4)),(.int .i64 (0)),(.int .i64 (3)),(.int .i64 (1)),(.int .i64 (0)),(.int .i64 (0)),(.int .i64 (0)),(.int .i64 (0)),(.int .i64 (0))]] 5 false)),(57364,(.arr 9 [[(.int .i64 (0)),(.int .i64 (0)),(.int .i64 (2)),(.int .i64 (0)),(.int .i64 (0)),(.int .i64 (0)),(.int .i64 (0)),(.int .i64 (0)),(.int .i64 (0))],[(.int .i64 (0)),(.int .i64 (0)),(.int .i64 (2)),(.int .i64 (1)),(.int .i64 (1)),(.int .i64 (0)),(.int .i64 (0)),(.int .i64 (0)),(.int .i64 (0))],[(.int .i64 (2)),(.int .i64 (0)),(.int .i64 (5)),(.int .i64 (1)),(.int .i64 (0)),(.int .i64 (0)),(.int .i64 (0)),(.int .i64 (0)),(.int .i64 (0))],[(.int .i64 (3)),(.int .i64 (0)),(.int .i64 (3)),(.int .i64 (0)),(.int .i64 (0)),(.int .i64 (0)),(.int .i64 (0)),(.int .i64 (0)),(.int .i64 (0))],[(.int .i64 (4)),(.int .i64 (0)),(.int .i64 (3)),(.int .i64 (1)),(.int .i64 (0)),(.int .i64 (0)),(.int .i64 (0)),(.int .i64 (0)),(.int .i64 (0))]] 5 false)),(57365,(.arr 9 [[(.int .i64 (0)),(.int .i64 (0)),(.int .i64 (2)),(.int .i64 (0)),(.int .i64 (0)),(.int .i64 (0)),(.int .i64 (0)),(.int .i64 (0)),(.int .i64 (0))],[(.int .i64 (1)),(.int .i64 (0)),(.int .i64 (2)),(.int .i64 (1)),(.int .i64 (1)),(.int .i64 (0)),(.int .i64 (0)),(.int .i64 (0)),(.int .i64 (0))],[(.int .i64 (2)),(.int .i64 (0)),(.int .i64 (5)),(.int .i64 (0)),(.int .i64 (0)),(.int .i64 (0)),(.int .i64 (0)),(.int .i64 (0)),(.int .i64 (0))],[(.int .i64 (3)),(.int .i64 (0)),(.int .i64 (3)),(.int .i64 (0)),(.int .i64 (0)),(.int .i64 (0)),(.int .i64 (0)),(.int .i64 (0)),(.int .i64 (0))],[(.int .i64 (4)),(.int .i64 (0)),(.int .i64 (3)),(.int .i64 (1)),(.int .i64 (0)),(.int .i64 (0)),(.int .i64 (0)),(.int .i64 (0)),(.int .i64 (0))]] 5 true)),(57366,(.arr 9 [[(.int .i64 (0)),(.int .i64 (0)),(.int .i64 (2)),(.int .i64 (0)),(.int .i64 (0)),(.int .i64 (0)),(.int .i64 (0)),(.int .i64 (0)),(.int .i64 (0))],[(.int .i64 (1)),(.int .i64 (0)),(.int .i64 (2)),(.int .i64 (1)),(.int .i64 (1)),(.int .i64 (0)),(.int .i64 (0)),(.int .i64 (0)),(.int .i64 (0))],[(.int .i64 (2)),(.int .i64 (0)),(.int .i64 (5)),(.int .i64 (1)),(.int .i64 (0)),(.int .i64 (0)),(.int .i64 (0)),(.int .i64 (0)),(.int .i64 (0))],[(.int .i64 (3)),(.int .i64 (0)),(.int .i64 (3)),(.int .i64 (0)),(.int .i64 (0)),(.int .i64 (0)),(.int .i64 (0)),(.int .i64 (0)),(.int .i64 (0))],[(.int .i64 (4)),(.int .i64 (0)),(.int .i64 (3)),(.int .i64 (1)),(.int .i64 (0)),(.int .i64 (0)),(.int .i64 (0)),(.int .i64 (0)),(.int .i64 (0))]] 0 false)),(57399,(.arr 9 [[(.int .i64 (0)),(.int .i64 (0)),(.int .i64 (2)),(.int .i64 (0)),(.int .i64 (0)),(.int .i64 (0)),(.int .i64 (0)),(.int .i64 (0)),(.int .i64 (0))],[(.int .i64 (1)),(.int .i64 (0)),(.int .i64 (2)),(.int .i64 (1)),(.int .i64 (1)),(.int .i64 (0)),(.int .i64 (0)),(.int .i64 (0)),(.int .i64 (0))],[(.int .i64 (2)),(.int .i64 (0)),(.int .i64 (5)),(.int .i64 (1)),(.int .i64 (0)),(.int .i64 (0)),(.int .i64 (0)),(.int .i64 (0)),(.int .i64 (0))],[(.int .i64 (3)),(.int .i64 (0)),(.int .i64 (3)),(.int .i64 (0)),(.int .i64 (0)),(.int .i64 (0)),(.int .i64 (0)),(.int .i64 (0)),(.int .i64 (0))],[(.int .i64 (4)),(.int .i64 (0)),(.int .i64 (3)),(.int .i64 (1)),(.int .i64 (0)),(.int .i64 (0)),(.int .i64 (0)),(.int .i64 (0)),(.int .i64 (0))]] 0 false)),(50352203,(.arr 2 [[(.int .i64 (1)),(.int .i64 (0))],[(.int .i64 (3)),(.int .i64 (1))]] 0 true)),(100683851,(.arr 5 [[(.int .i64 (0)),(.int .i64 (0)),(.int .i64 (0)),(.int .i64 (1)),(.bool false)],[(.int .i64 (0)),(.int .i64 (1)),(.int .i64 (0)),(.int .i64 (1)),(.bool true)]] 0 true)),(117461067,(.arr 1 [[(.int .i64 (1))]] 0 true)),(134238283,(.arr 1 [[(.int .i64 (1))],[(.int .i64 (2))],[(.int .i64 (3))]] 0 true))]
def Si:bE:=⟨[(11,(.pure (.int .i64 (10)))),(10,(.pure (.int .i64 (2)))),(9,(.aA (1,9) 0)),(84,(.pure (.int .i64 (10)))),(83,(.pure (.int .i64 (2)))),(82,(.pure (.agg [(.slice []),(.slice []),(.slice [])]))),(79,(.pure (.tuple [(.agg [(.slice []),(.slice []),(.slice [])]),(.int .i64 (2)),(.int .i64 (10))]))),(81,(.pure (.tuple [(.agg [(.slice []),(.slice []),(.slice [])]),(.int .i64 (2)),(.int .i64 (10))]))),(80,(.agg [(.pure (.int .i64 (2))),(.pure (.int .i64 (1))),(.ay (1,12309) 2 2 0 2),(.ay (1,24597) 5 2 0 2),(.ay (1,28693) 1 1 0 1),(.ay (1,32789) 1 3 0 3),(.ay (1,57365) 9 5 0 5)])),(8,(.pure (.int .i64 (11)))),(7,(.pure (.int .i64 (4)))),(6,(.aA (1,6) 0)),(78,(.pure (.int .i64 (11)))),(77,(.pure (.int .i64 (4)))),(76,(.pure (.agg [(.slice []),(.slice []),(.slice [])]))),(73,(.pure (.tuple [(.agg [(.slice []),(.slice []),(.slice [])]),(.int .i64 (4)),(.int .i64 (11))]))),(75,(.pure (.tuple [(.agg [(.slice []),(.slice []),(.slice [])]),(.int .i64 (4)),(.int .i64 (11))]))),(74,(.agg [(.pure (.int .i64 (2))),(.pure (.int .i64 (1))),(.ay (1,50352203) 2 2 0 2),(.ay (1,100683851) 5 2 0 2),(.ay (1,117461067) 1 1 0 1),(.ay (1,134238283) 1 3 0 3),(.ay (1,41035) 9 4 0 4)])),(72,(.pure (.bool false))),(71,(.pure (.bool false))),(70,(.pure (.int .i64 (12)))),(69,(.agg [(.pure (.int .i64 (2))),(.pure (.int .i64 (1))),(.ay (1,12308) 2 2 0 2),(.ay (1,24596) 5 2 0 2),(.ay (1,28692) 1 1 0 1),(.ay (1,32788) 1 3 0 3),(.ay (1,57364) 9 5 0 5)])),(68,(.pure (.bool false))),(67,(.pure (.bool false))),(66,(.pure (.bool false))),(65,(.pure (.int .i64 (3)))),(64,(.agg [(.pure (.int .i64 (2))),(.pure (.int .i64 (1))),(.ay (1,12307) 2 2 0 2),(.ay (1,24595) 5 2 0 2),(.ay (1,28691) 1 1 0 1),(.ay (1,32787) 1 3 0 3),(.ay (1,57363) 9 5 0 5)])),(63,(.pure (.bool false))),(62,(.pure (.bool false))),(61,(.pure (.bool false))),(60,(.pure (.int .i64 (7)))),(59,(.agg [(.pure (.int .i64 (2))),(.pure (.int .i64 (1))),(.ay (1,12306) 2 2 0 2),(.ay (1,24594) 5 2 0 2),(.ay (1,28690) 1 1 0 1),(.ay (1,32786) 1 3 0 3),(.ay (1,57362) 9 5 0 5)])),(58,(.pure (.bool false))),(57,(.pure (.bool false))),(56,(.pure (.bool false))),(55,(.pure (.int .i64 (0)))),(54,(.agg [(.pure (.int .i64 (2))),(.pure (.int .i64 (1))),(.ay (1,12343) 2 2 0 2),(.ay (1,24631) 5 2 0 2),(.ay (1,28727) 1 1 0 1),(.ay (1,32823) 1 3 0 3),(.ay (1,57399) 9 5 0 5)])),(53,(.pure (.bool false))),(52,(.pure (.bool false))),(51,(.pure (.bool true))),(50,(.aA (1,5) 6)),(49,(.ay (1,42) 9 6 0 6)),(48,(.ay (1,57366) 9 5 2 3)),(47,(.ay (1,57366) 9 5 0 5)),(46,(.aA (1,5) 6)),(45,(.ay (1,42) 9 3 0 3)),(44,(.pure (.slice [[(.int .i64 (1)),(.int .i64 (1)),(.int .i64 (1)),(.int .i64 (0)),(.int .i64 (0)),(.int .i64 (0)),(.int .i64 (0)),(.int .i64 (0)),(.int .i64 (0))]]))),(43,(.pure (.agg [(.int .i64 (1)),(.int .i64 (1)),(.int .i64 (1)),(.int .i64 (0)),(.int .i64 (0)),(.int .i64 (0)),(.int .i64 (0)),(.int .i64 (0)),(.int .i64 (0))]))),(42,(.ay (1,42) 9 2 0 2)),(41,(.ay (1,57366) 9 5 0 2)),(40,(.ay (1,57366) 9 5 0 5)),(39,(.aA (1,5) 6)),(38, .aO),(37,(.bZ (1,57363) 9 5 0 0)),(36,(.pure (.agg [(.int .i64 (0)),(.int .i64 (0)),(.int .i64 (1)),(.int .i64 (1)),(.int .i64 (0)),(.int .i64 (0)),(.int .i64 (0)),(.int .i64 (0)),(.int .i64 (0))]))),(35,(.ay (1,57363) 9 5 0 5)),(34,(.aA (1,2) 6)),(33,(.bZ (1,57365) 9 5 2 3)),(32,(.bZ (1,57365) 9 5 2 0)),(31,(.bZ (1,57364) 9 5 1 0)),(30,(.bZ (1,57364) 9 5 1 0)),(29,(.bZ (1,24594) 5 2 0 2)),(28,(.bZ (1,24594) 5 2 0 0)),(27,(.ay (1,57365) 9 5 0 5)),(26,(.aA (1,4) 6)),(25,(.ay (1,57364) 9 5 0 5)),(24,(.aA (1,3) 6)),(23,(.ay (1,24594) 5 2 0 2)),(22,(.aA (1,1) 3)),(5,(.aA (1,5) 0)),(4,(.aA (1,4) 0)),(3,(.aA (1,3) 0)),(2,(.aA (1,2) 0)),(1,(.aA (1,1) 0)),(21,(.agg [(.pure (.int .i64 (2))),(.pure (.int .i64 (1))),(.ay (1,12310) 2 2 0 2),(.ay (1,24598) 5 2 0 2),(.ay (1,28694) 1 1 0 1),(.ay (1,32790) 1 3 0 3),(.ay (1,57366) 9 5 0 5)])),(20,(.agg [(.pure (.int .i64 (2))),(.pure (.int .i64 (1))),(.ay (1,12309) 2 2 0 2),(.ay (1,24597) 5 2 0 2),(.ay (1,28693) 1 1 0 1),(.ay (1,32789) 1 3 0 3),(.ay (1,57365) 9 5 0 5)])),(19,(.agg [(.pure (.int .i64 (2))),(.pure (.int .i64 (1))),(.ay (1,12308) 2 2 0 2),(.ay (1,24596) 5 2 0 2),(.ay (1,28692) 1 1 0 1),(.ay (1,32788) 1 3 0 3),(.ay (1,57364) 9 5 0 5)])),(18,(.agg [(.pure (.int .i64 (2))),(.pure (.int .i64 (1))),(.ay (1,12307) 2 2 0 2),(.ay (1,24595) 5 2 0 2),(.ay (1,28691) 1 1 0 1),(.ay (1,32787) 1 3 0 3),(.ay (1,57363) 9 5 0 5)])),(17,(.agg [(.pure (.int .i64 (2))),(.pure (.int .i64 (1))),(.ay (1,12306) 2 2 0 2),(.ay (1,24594) 5 2 0 2),(.ay (1,28690) 1 1 0 1),(.ay (1,32786) 1 3 0 3),(.ay (1,57362) 9 5 0 5)])),(0,(.pure (.bool false)))],[UA,[]],164⟩
theorem Hz:xq (cC KC 5000) 8 2 (lY 6 (Try.f8.body.getD .skip)) Sh=some (lY 8 (Try.f8.body.getD .skip),Si):=by kernel_rfl
def Sj:Fr:=[(1,(.box [(.pure (.int .i64 (2))),(.pure (.int .i64 (1))),(.ay (1,12306) 2 2 0 2),(.ay (1,24594) 5 2 0 2),(.ay (1,28690) 1 1 0 1),(.ay (1,32786) 1 3 0 3),(.ay (1,57362) 9 5 0 5)])),(2,(.box [(.pure (.int .i64 (2))),(.pure (.int .i64 (1))),(.ay (1,12307) 2 2 0 2),(.ay (1,24595) 5 2 0 2),(.ay (1,28691) 1 1 0 1),(.ay (1,32787) 1 3 0 3),(.ay (1,57363) 9 5 0 5)])),(3,(.box [(.pure (.int .i64 (2))),(.pure (.int .i64 (1))),(.ay (1,12308) 2 2 0 2),(.ay (1,24596) 5 2 0 2),(.ay (1,28692) 1 1 0 1),(.ay (1,32788) 1 3 0 3),(.ay (1,57364) 9 5 0 5)])),(4,(.box [(.pure (.int .i64 (2))),(.pure (.int .i64 (1))),(.ay (1,12309) 2 2 0 2),(.ay (1,24597) 5 2 0 2),(.ay (1,28693) 1 1 0 1),(.ay (1,32789) 1 3 0 3),(.ay (1,57365) 9 5 0 5)])),(5,(.box [(.pure (.int .i64 (2))),(.pure (.int .i64 (1))),(.ay (1,12310) 2 2 0 2),(.ay (1,24598) 5 2 0 2),(.ay (1,28694) 1 1 0 1),(.ay (1,32790) 1 3 0 3),(.ay (1,42) 9 6 0 6)])),(6,(.box [(.pure (.slice [])),(.pure (.slice [])),(.pure (.slice []))])),(9,(.box [(.pure (.slice [])),(.pure (.slice [])),(.pure (.slice []))])),(12,(.box [(.pure (.slice [])),(.pure (.slice [])),(.pure (.slice []))])),(42,(.arr 9 [[(.int .i64 (0)),(.int .i64 (0)),(.int .i64 (2)),(.int .i64 (0)),(.int .i64 (0)),(.int .i64 (0)),(.int .i64 (0)),(.int .i64 (0)),(.int .i64 (0))],[(.int .i64 (1)),(.int .i64 (0)),(.int .i64 (2)),(.int .i64 (1)),(.int .i64 (1)),(.int .i64 (0)),(.int .i64 (0)),(.int .i64 (0)),(.int .i64 (0))],[(.int .i64 (1)),(.int .i64 (1)),(.int .i64 (1)),(.int .i64 (0)),(.int .i64 (0)),(.int .i64 (0)),(.int .i64 (0)),(.int .i64 (0)),(.int .i64 (0))],[(.int .i64 (2)),(.int .i64 (0)),(.int .i64 (5)),(.int .i64 (1)),(.int .i64 (0)),(.int .i64 (0)),(.int .i64 (0)),(.int .i64 (0)),(.int .i64 (0))],[(.int .i64 (3)),(.int .i64 (0)),(.int .i64 (3)),(.int .i64 (0)),(.int .i64 (0)),(.int .i64 (0)),(.int .i64 (0)),(.int .i64 (0)),(.int .i64 (0))],[(.int .i64 (4)),(.int .i64 (0)),(.int .i64 (3)),(.int .i64 (1)),(.int .i64 (0)),(.int .i64 (0)),(.int .i64 (0)),(.int .i64 (0)),(.int .i64 (0))]] 0 true)),(12306,(.arr 2 [[(.int .i64 (1)),(.int .i64 (0))],[(.int .i64 (3)),(.int .i64 (1))]] 0 false)),(12307,(.arr 2 [[(.int .i64 (1)),(.int .i64 (0))],[(.int .i64 (3)),(.int .i64 (1))]] 0 false)),(12308,(.arr 2 [[(.int .i64 (1)),(.int .i64 (0))],[(.int .i64 (3)),(.int .i64 (1))]] 0 false)),(12309,(.arr 2 [[(.int .i64 (1)),(.int .i64 (0))],[(.int .i64 (3)),(.int .i64 (1))]] 0 true)),(12310,(.arr 2 [[(.int .i64 (1)),(.int .i64 (0))],[(.int .i64 (3)),(.int .i64 (1))]] 0 true)),(12343,(.arr 2 [[(.int .i64 (1)),(.int .i64 (0))],[(.int .i64 (3)),(.int .i64 (1))]] 0 false)),(12403,(.arr 2 [[(.int .i64 (1)),(.int .i64 (0))],[(.int .i64 (3)),(.int .i64 (1))]] 0 true)),(24594,(.arr 5 [[(.int .i64 (0)),(.int .i64 (0)),(.int .i64 (2)),(.int .i64 (1)),(.bool false)],[(.int .i64 (0)),(.int .i64 (1)),(.int .i64 (0)),(.int .i64 (1)),(.bool true)]] 2 false)),(24595,(.arr 5 [[(.int .i64 (0)),(.int .i64 (0)),(.int .i64 (0)),(.int .i64 (1)),(.bool false)],[(.int .i64 (0)),(.int .i64 (1)),(.int .i64 (0)),(.int .i64 (1)),(.bool true)]] 0 false)),(24596,(.arr 5 [[(.int .i64 (0)),(.int .i64 (0)),(.int .i64 (0)),(.int .i64 (1)),(.bool false)],[(.int .i64 (0)),(.int .i64 (1)),(.int .i64 (0)),(.int .i64 (1)),(.bool true)]] 0 false)),(24597,(.arr 5 [[(.int .i64 (0)),(.int .i64 (0)),(.int .i64 (0)),(.int .i64 (1)),(.bool false)],[(.int .i64 (0)),(.int .i64 (1)),(.int .i64 (0)),(.int .i64 (1)),(.bool true)]] 0 true)),(24598,(.arr 5 [[(.int .i64 (0)),(.int .i64 (0)),(.int .i64 (0)),(.int .i64 (1)),(.bool false)],[(.int .i64 (0)),(.int .i64 (1)),(.int .i64 (0)),(.int .i64 (1)),(.bool true)]] 0 true)),(24631,(.arr 5 [[(.int .i64 (0)),(.int .i64 (0)),(.int .i64 (0)),(.int .i64 (1)),(.bool false)],[(.int .i64 (0)),(.int .i64 (1)),(.int .i64 (0)),(.int .i64 (1)),(.bool true)]] 0 false)),(24691,(.arr 5 [[(.int .i64 (0)),(.int .i64 (0)),(.int .i64 (0)),(.int .i64 (1)),(.bool false)],[(.int .i64 (0)),(.int .i64 (1)),(.int .i64 (0)),(.int .i64 (1)),(.bool true)]] 0 true)),(28690,(.arr 1 [[(.int .i64 (1))]] 0 false)),(28691,(.arr 1 [[(.int .i64 (1))]] 0 false)),(28692,(.arr 1 [[(.int .i64 (1))]] 0 false)),(28693,(.arr 1 [[(.int .i64 (1))]] 0 true)),(28694,(.arr 1 [[(.int .i64 (1))]] 0 true)),(28727,(.arr 1 [[(.int .i64 (1))]] 0 false)),(28787,(.arr 1 [[(.int .i64 (1))]] 0 true)),(32786,(.arr 1 [[(.int .i64 (1))],[(.int .i64 (2))],[(.int .i64 (3))]] 0 false)),(32787,(.arr 1 [[(.int .i64 (1))],[(.int .i64 (2))],[(.int .i64 (3))]] 0 false)),(32788,(.arr 1 [[(.int .i64 (1))],[(.int .i64 (2))],[(.int .i64 (3))]] 0 false)),(32789,(.arr 1 [[(.int .i64 (1))],[(.int .i64 (2))],[(.int .i64 (3))]] 0 true)),(32790,(.arr 1 [[(.int .i64 (1))],[(.int .i64 (2))],[(.int .i64 (3))]] 0 true)),(32823,(.arr 1 [[(.int .i64 (1))],[(.int .i64 (2))],[(.int .i64 (3))]] 0 false)),(32883,(.arr 1 [[(.int .i64 (1))],[(.int .i64 (2))],[(.int .i64 (3))]] 0 true)),(41035,(.arr 9 [[(.int .i64 (0)),(.int .i64 (0)),(.int .i64 (2)),(.int .i64 (0)),(.int .i64 (0)),(.int .i64 (0)),(.int .i64 (0)),(.int .i64 (0)),(.int .i64 (0))],[(.int .i64 (1)),(.int .i64 (0)),(.int .i64 (2)),(.int .i64 (1)),(.int .i64 (1)),(.int .i64 (0)),(.int .i64 (0)),(.int .i64 (0)),(.int .i64 (0))],[(.int .i64 (2)),(.int .i64 (0)),(.int .i64 (5)),(.int .i64 (1)),(.int .i64 (0)),(.int .i64 (0)),(.int .i64 (0)),(.int .i64 (0)),(.int .i64 (0))],[(.int .i64 (3)),(.int .i64 (0)),(.int .i64 (3)),(.int .i64 (0)),(.int .i64 (0)),(.int .i64 (0)),(.int .i64 (0)),(.int .i64 (0)),(.int .i64 (0))]] 0 true)),(57362,(.arr 9 [[(.int .i64 (0)),(.int .i64 (0)),(.int .i64 (2)),(.int .i64 (0)),(.int .i64 (0)),(.int .i64 (0)),(.int .i64 (0)),(.int .i64 (0)),(.int .i64 (0))],[(.int .i64 (1)),(.int .i64 (0)),(.int .i64 (2)),(.int .i64 (1)),(.int .i64 (1)),(.int .i64 (0)),(.int .i64 (0)),(.int .i64 (0)),(.int .i64 (0))],[(.int .i64 (2)),(.int .i64 (0)),(.int .i64 (5)),(.int .i64 (1)),(.int .i64 (0)),(.int .i64 (0)),(.int .i64 (0)),(.int .i64 (0)),(.int .i64 (0))],[(.int .i64 (3)),(.int .i64 (0)),(.int .i64 (3)),(.int .i64 (0)),(.int .i64 (0)),(.int .i64 (0)),(.int .i64 (0)),(.int .i64 (0)),(.int .i64 (0))],[(.int .i64 (4)),(.int .i64 (0)),(.int .i64 (3)),(.int .i64 (1)),(.int .i64 (0)),(.int .i64 (0)),(.int .i64 (0)),(.int .i64 (0)),(.int .i64 (0))]] 0 false)),(57363,(.arr 9 [[(.int .i64 (0)),(.int .i64 (0)),(.int .i64 (1)),(.int .i64 (1)),(.int .i64 (0)),(.int .i64 (0)),(.int .i64 (0)),(.int .i64 (0)),(.int .i64 (0))],[(.int .i64 (1)),(.int .i64 (0)),(.int .i64 (2)),(.int .i64 (1)),(.int .i64 (1)),(.int .i64 (0)),(.int .i64 (0)),(.int .i64 (0)),(.int .i64 (0))],[(.int .i64 (2)),(.int .i64 (0)),(.int .i64 (5)),(.int .i64 (1)),(.int .i64 (0)),(.int .i64 (0)),(.int .i64 (0)),(.int .i64 (0)),(.int .i64 (0))],[(.int .i64 (3)),(.int .i64 (0)),(.int .i64 (3)),(.int .i64 (0)),(.int .i64 (0)),(.int .i64 (0)),(.int .i64 (0)),(.int .i64 (0)),(.int .i64 (0))],[(.int .i64 (4)),(.int .i64 (0)),(.int .i64 (3)),(.int .i64 (1)),(.int .i64 (0)),(.int .i64 (0)),(.int .i64 (0)),(.int .i64 (0)),(.int .i64 (0))]] 5 false)),(57364,(.arr 9 [[(.int .i64 (0)),(.int .i64 (0)),(.int .i64 (2)),(.int .i64 (0)),(.int .i64 (0)),(.int .i64 (0)),(.int .i64 (0)),(.int .i64 (0)),(.int .i64 (0))],[(.int .i64 (0)),(.int .i64 (0)),(.int .i64 (2)),(.int .i64 (1)),(.int .i64 (1)),(.int .i64 (0)),(.int .i64 (0)),(.int .i64 (0)),(.int .i64 (0))],[(.int .i64 (2)),(.int .i64 (0)),(.int .i64 (5)),(.int .i64 (1)),(.int .i64 (0)),(.int .i64 (0)),(.int .i64 (0)),(.int .i64 (0)),(.int .i64 (0))],[(.int .i64 (3)),(.int .i64 (0)),(.int .i64 (3)),(.int .i64 (0)),(.int .i64 (0)),(.int .i64 (0)),(.int .i64 (0)),(.int .i64 (0)),(.int .i64 (0))],[(.int .i64 (4)),(.int .i64 (0)),(.int .i64 (3)),(.int .i64 (1)),(.int .i64 (0)),(.int .i64 (0)),(.int .i64 (0)),(.int .i64 (0)),(.int .i64 (0))]] 5 false)),(57365,(.arr 9 [[(.int .i64 (0)),(.int .i64 (0)),(.int .i64 (2)),(.int .i64 (0)),(.int .i64 (0)),(.int .i64 (0)),(.int .i64 (0)),(.int .i64 (0)),(.int .i64 (0))],[(.int .i64 (1)),(.int .i64 (0)),(.int .i64 (2)),(.int .i64 (1)),(.int .i64 (1)),(.int .i64 (0)),(.int .i64 (0)),(.int .i64 (0)),(.int .i64 (0))],[(.int .i64 (2)),(.int .i64 (0)),(.int .i64 (5)),(.int .i64 (0)),(.int .i64 (0)),(.int .i64 (0)),(.int .i64 (0)),(.int .i64 (0)),(.int .i64 (0))],[(.int .i64 (3)),(.int .i64 (0)),(.int .i64 (3)),(.int .i64 (0)),(.int .i64 (0)),(.int .i64 (0)),(.int .i64 (0)),(.int .i64 (0)),(.int .i64 (0))],[(.int .i64 (4)),(.int .i64 (0)),(.int .i64 (3)),(.int .i64 (1)),(.int .i64 (0)),(.int .i64 (0)),(.int .i64 (0)),(.int .i64 (0)),(.int .i64 (0))]] 5 true)),(57366,(.arr 9 [[(.int .i64 (0)),(.int .i64 (0)),(.int .i64 (2)),(.int .i64 (0)),(.int .i64 (0)),(.int .i64 (0)),(.int .i64 (0)),(.int .i64 (0)),(.int .i64 (0))],[(.int .i64 (1)),(.int .i64 (0)),(.int .i64 (2)),(.int .i64 (1)),(.int .i64 (1)),(.int .i64 (0)),(.int .i64 (0)),(.int .i64 (0)),(.int .i64 (0))],[(.int .i64 (2)),(.int .i64 (0)),(.int .i64 (5)),(.int .i64 (1)),(.int .i64 (0)),(.int .i64 (0)),(.int .i64 (0)),(.int .i64 (0)),(.int .i64 (0))],[(.int .i64 (3)),(.int .i64 (0)),(.int .i64 (3)),(.int .i64 (0)),(.int .i64 (0)),(.int .i64 (0)),(.int .i64 (0)),(.int .i64 (0)),(.int .i64 (0))],[(.int .i64 (4)),(.int .i64 (0)),(.int .i64 (3)),(.int .i64 (1)),(.int .i64 (0)),(.int .i64 (0)),(.int .i64 (0)),(.int .i64 (0)),(.int .i64 (0))]] 0 false)),(57399,(.arr 9 [[(.int .i64 (0)),(.int .i64 (0)),(.int .i64 (2)),(.int .i64 (0)),(.int .i64 (0)),(.int .i64 (0)),(.int .i64 (0)),(.int .i64 (0)),(.int .i64 (0))],[(.int .i64 (1)),(.int .i64 (0)),(.int .i64 (2)),(.int .i64 (1)),(.int .i64 (1)),(.int .i64 (0)),(.int .i64 (0)),(.int .i64 (0)),(.int .i64 (0))],[(.int .i64 (2)),(.int .i64 (0)),(.int .i64 (5)),(.int .i64 (1)),(.int .i64 (0)),(.int .i64 (0)),(.int .i64 (0)),(.int .i64 (0)),(.int .i64 (0))],[(.int .i64 (3)),(.int .i64 (0)),(.int .i64 (3)),(.int .i64 (0)),(.int .i64 (0)),(.int .i64 (0)),(.int .i64 (0)),(.int .i64 (0)),(.int .i64 (0))],[(.int .i64 (4)),(.int .i64 (0)),(.int .i64 (3)),(.int .i64 (1)),(.int .i64 (0)),(.int .i64 (0)),(.int .i64 (0)),(.int .i64 (0)),(.int .i64 (0))]] 0 false)),(57459,(.arr 9 [[(.int .i64 (0)),(.int .i64 (0)),(.int .i64 (2)),(.int .i64 (0)),(.int .i64 (0)),(.int .i64 (0)),(.int .i64 (0)),(.int .i64 (0)),(.int .i64 (0))],[(.int .i64 (1)),(.int .i64 (0)),(.int .i64 (2)),(.int .i64 (1)),(.int .i64 (1)),(.int .i64 (0)),(.int .i64 (0)),(.int .i64 (0)),(.int .i64 (0))],[(.int .i64 (2)),(.int .i64 (0)),(.int .i64 (5)),(.int .i64 (1)),(.int .i64 (0)),(.int .i64 (0)),(.int .i64 (0)),(.int .i64 (0)),(.int .i64 (0))],[(.int .i64 (3)),(.int .i64 (0)),(.int .i64 (3)),(.int .i64 (0)),(.int .i64 (0)),(.int .i64 (0)),(.int .i64 (0)),(.int .i64 (0)),(.int .i64 (0))],[(.int .i64 (4)),(.int .i64 (0)),(.int .i64 (3)),(.int .i64 (1)),(.int .i64 (0)),(.int .i64 (0)),(.int .i64 (0)),(.int .i64 (0)),(.int .i64 (0))]] 0 true)),(50352203,(.arr 2 [[(.int .i64 (1)),(.int .i64 (0))],[(.int .i64 (3)),(.int .i64 (1))]] 0 true)),(100683851,(.arr 5 [[(.int .i64 (0)),(.int .i64 (0)),(.int .i64 (0)),(.int .i64 (1)),(.bool false)],[(.int .i64 (0)),(.int .i64 (1)),(.int .i64 (0)),(.int .i64 (1)),(.bool true)]] 0 true)),(117461067,(.arr 1 [[(.int .i64 (1))]] 0 true)),(134238283,(.arr 1 [[(.int .i64 (1))],[(.int .i64 (2))],[(.int .i64 (3))]] 0 true))]
def zO:bE:=⟨[(16,(.pure (.int .i64 (0)))),(15,(.pure (.slice [[(.slice [[(.int .i64 (0))],[(.int .i64 (1))]]),(.slice [[(.int .i64 (-1)),(.int .i64 (-1))],[(.int .i64 (-1)),(.int .i64 (-1))]]),(.slice [[(.int .i64 (0)),(.int .i64 (0))],[(.int .i64 (0)),(.int .i64 (1))]])],[(.slice [[(.int .i64 (0))],[(.int .i64 (1))]]),(.slice [[(.int .i64 (0)),(.int .i64 (-1))],[(.int .i64 (-1)),(.int .i64 (-1))]]),(.slice [[(.int .i64 (-1)),(.int .i64 (0))],[(.int .i64 (0)),(.int .i64 (1))]])],[(.slice [[(.int .i64 (0))],[(.int .i64 (1))]]),(.slice [[(.int .i64 (0)),(.int .i64 (1))],[(.int .i64 (-1)),(.int .i64 (-1))]]),(.slice [[(.int .i64 (-1)),(.int .i64 (0))],[(.int .i64 (-1)),(.int .i64 (1))]])],[(.slice [[(.int .i64 (0))],[(.int .i64 (1))]]),(.slice [[(.int .i64 (0)),(.int .i64 (1))],[(.int .i64 (-1)),(.int .i64 (-1))]]),(.slice [[(.int .i64 (-1)),(.int .i64 (1))],[(.int .i64 (-1)),(.int .i64 (1))]])],[(.slice [[(.int .i64 (0))],[(.int .i64 (1))]]),(.slice [[(.int .i64 (-1)),(.int .i64 (1))],[(.int .i64 (-1)),(.int .i64 (-1))]]),(.slice [[(.int .i64 (0)),(.int .i64 (1))],[(.int .i64 (-1)),(.int .i64 (1))]])],[(.slice [[(.int .i64 (0))],[(.int .i64 (1))]]),(.slice [[(.int .i64 (-1)),(.int .i64 (-1))],[(.int .i64 (-1)),(.int .i64 (-1))]]),(.slice [[(.int .i64 (0)),(.int .i64 (1))],[(.int .i64 (0)),(.int .i64 (1))]])]]))),(117,(.pure (.int .i64 (0)))),(116,(.pure (.slice [[(.slice [[(.int .i64 (0))],[(.int .i64 (1))]]),(.slice [[(.int .i64 (-1)),(.int .i64 (-1))],[(.int .i64 (-1)),(.int .i64 (-1))]]),(.slice [[(.int .i64 (0)),(.int .i64 (0))],[(.int .i64 (0)),(.int .i64 (1))]])],[(.slice [[(.int .i64 (0))],[(.int .i64 (1))]]),(.slice [[(.int .i64 (0)),(.int .i64 (-1))],[(.int .i64 (-1)),(.int .i64 (-1))]]),(.slice [[(.int .i64 (-1)),(.int .i64 (0))],[(.int .i64 (0)),(.int .i64 (1))]])],[(.slice [[(.int .i64 (0))],[(.int .i64 (1))]]),(.slice [[(.int .i64 (0)),(.int .i64 (1))],[(.int .i64 (-1)),(.int .i64 (-1))]]),(.slice [[(.int .i64 (-1)),(.int .i64 (0))],[(.int .i64 (-1)),(.int .i64 (1))]])],[(.slice [[(.int .i64 (0))],[(.int .i64 (1))]]),(.slice [[(.int .i64 (0)),(.int .i64 (1))],[(.int .i64 (-1)),(.int .i64 (-1))]]),(.slice [[(.int .i64 (-1)),(.int .i64 (1))],[(.int .i64 (-1)),(.int .i64 (1))]])],[(.slice [[(.int .i64 (0))],[(.int .i64 (1))]]),(.slice [[(.int .i64 (-1)),(.int .i64 (1))],[(.int .i64 (-1)),(.int .i64 (-1))]]),(.slice [[(.int .i64 (0)),(.int .i64 (1))],[(.int .i64 (-1)),(.int .i64 (1))]])],[(.slice [[(.int .i64 (0))],[(.int .i64 (1))]]),(.slice [[(.int .i64 (-1)),(.int .i64 (-1))],[(.int .i64 (-1)),(.int .i64 (-1))]]),(.slice [[(.int .i64 (0)),(.int .i64 (1))],[(.int .i64 (0)),(.int .i64 (1))]])]]))),(113,(.pure (.tuple [(.slice [[(.slice [[(.int .i64 (0))],[(.int .i64 (1))]]),(.slice [[(.int .i64 (-1)),(.int .i64 (-1))],[(.int .i64 (-1)),(.int .i64 (-1))]]),(.slice [[(.int .i64 (0)),(.int .i64 (0))],[(.int .i64 (0)),(.int .i64 (1))]])],[(.slice [[(.int .i64 (0))],[(.int .i64 (1))]]),(.slice [[(.int .i64 (0)),(.int .i64 (-1))],[(.int .i64 (-1)),(.int .i64 (-1))]]),(.slice [[(.int .i64 (-1)),(.int .i64 (0))],[(.int .i64 (0)),(.int .i64 (1))]])],[(.slice [[(.int .i64 (0))],[(.int .i64 (1))]]),(.slice [[(.int .i64 (0)),(.int .i64 (1))],[(.int .i64 (-1)),(.int .i64 (-1))]]),(.slice [[(.int .i64 (-1)),(.int .i64 (0))],[(.int .i64 (-1)),(.int .i64 (1))]])],[(.slice [[(.int .i64 (0))],[(.int .i64 (1))]]),(.slice [[(.int .i64 (0)),(.int .i64 (1))],[(.int .i64 (-1)),(.int .i64 (-1))]]),(.slice [[(.int .i64 (-1)),(.int .i64 (1))],[(.int .i64 (-1)),(.int .i64 (1))]])],[(.slice [[(.int .i64 (0))],[(.int .i64 (1))]]),(.slice [[(.int .i64 (-1)),(.int .i64 (1))],[(.int .i64 (-1)),(.int .i64 (-1))]]),(.slice [[(.int .i64 (0)),(.int .i64 (1))],[(.int .i64 (-1)),(.int .i64 (1))]])],[(.slice [[(.int .i64 (0))],[(.int .i64 (1))]]),(.slice [[(.int .i64 (-1)),(.int .i64 (-1))],[(.int .i64 (-1)),(.int .i64 (-1))]]),(.slice [[(.int .i64 (0)),(.int .i64 (1))],[(.int .i64 (0)),(.int .i64 (1))]])]]),(.int .i64 (0))]))),(115,(.pure (.tuple [(.slice [[(.slice [[(.int .i64 (0))],[(.int .i64 (1))]]),(.slice [[(.int .i64 (-1)),(.int .i64 (-1))],[(.int .i64 (-1)),(.int .i64 (-1))]]),(.slice [[(.int .i64 (0)),(.int .i64 (0))],[(.int .i64 (0)),(.int .i64 (1))]])],[(.slice [[(.int .i64 (0))],[(.int .i64 (1))]]),(.slice [[(.int .i64 (0)),(.int .i64 (-1))],[(.int .i64 (-1)),(.int .i64 (-1))]]),(.slice [[(.int .i64 (-1)),(.int .i64 (0))],[(.int .i64 (0)),(.int .i64 (1))]])],[(.slice [[(.int .i64 (0))],[(.int .i64 (1))]]),(.slice [[(.int .i64 (0)),(.int .i64 (1))],[(.int .i64 (-1)),(.int .i64 (-1))]]),(.slice [[(.int .i64 (-1)),(.int .i64 (0))],[(.int .i64 (-1)),(.int .i64 (1))]])],[(.slice [[(.int .i64 (0))],[(.int .i64 (1))]]),(.slice [[(.int .i64 (0)),(.int .i64 (1))],[(.int .i64 (-1)),(.int .i64 (-1))]]),(.slice [[(.int .i64 (-1)),(.int .i64 (1))],[(.int .i64 (-1)),(.int .i64 (1))]])],[(.slice [[(.int .i64 (0))],[(.int .i64 (1))]]),(.slice [[(.int .i64 (-1)),(.int .i64 (1))],[(.int .i64 (-1)),(.int .i64 (-1))]]),(.slice [[(.int .i64 (0)),(.int .i64 (1))],[(.int .i64 (-1)),(.int .i64 (1))]])],[(.slice [[(.int .i64 (0))],[(.int .i64 (1))]]),(.slice [[(.int .i64 (-1)),(.int .i64 (-1))],[(.int .i64 (-1)),(.int .i64 (-1))]]),(.slice [[(.int .i64 (0)),(.int .i64 (1))],[(.int .i64 (0)),(.int .i64 (1))]])]]),(.int .i64 (0))]))),(114,(.agg [(.pure (.int .i64 (2))),(.pure (.int .i64 (1))),(.ay (1,12403) 2 2 0 2),(.ay (1,24691) 5 2 0 2),(.ay (1,28787) 1 1 0 1),(.ay (1,32883) 1 3 0 3),(.ay (1,57459) 9 5 0 5)])),(112,(.pure (.bool false))),(111,(.pure (.bool false))),(110,(.pure (.int .i64 (2)))),(109,(.pure (.bool false))),(108,(.pure (.bool false))),(107,(.pure (.bool false))),(106,(.pure (.int .i64 (2)))),(105,(.pure (.bool false))),(104,(.pure (.bool false))),(103,(.pure (.bool false))),(102,(.pure (.int .i64 (4)))),(101,(.pure (.bool false))),(100,(.pure (.bool false))),(99,(.pure (.bool false))),(98,(.pure (.int .i64 (10)))),(97,(.pure (.bool false))),(96,(.pure (.bool false))),(95,(.pure (.bool false))),(94,(.pure (.int .i64 (10)))),(93,(.pure (.bool false))),(92,(.pure (.bool false))),(91,(.pure (.int .i64 (11)))),(14,(.pure (.int .i64 (10)))),(13,(.pure (.int .i64 (2)))),(12,(.aA (1,12) 0)),(90,(.pure (.int .i64 (10)))),(89,(.pure (.int .i64 (2)))),(88,(.pure (.agg [(.slice []),(.slice []),(.slice [])]))),(85,(.pure (.tuple [(.agg [(.slice []),(.slice []),(.slice [])]),(.int .i64 (2)),(.int .i64 (10))]))),(87,(.pure (.tuple [(.agg [(.slice []),(.slice []),(.slice [])]),(.int .i64 (2)),(.int .i64 (10))]))),(86,(.agg [(.pure (.int .i64 (2))),(.pure (.int .i64 (1))),(.ay (1,12310) 2 2 0 2),(.ay (1,24598) 5 2 0 2),(.ay (1,28694) 1 1 0 1),(.ay (1,32790) 1 3 0 3),(.ay (1,42) 9 6 0 6)])),(11,(.pure (.int .i64 (10)))),(10,(.pure (.int .i64 (2)))),(9,(.aA (1,9) 0)),(84,(.pure (.int .i64 (10)))),(83,(.pure (.int .i64 (2)))),(82,(.pure (.agg [(.slice []),(.slice []),(.slice [])]))),(79,(.pure (.tuple [(.agg [(.slice []),(.slice []),(.slice [])]),(.int .i64 (2)),(.int .i64 (10))]))),(81,(.pure (.tuple [(.agg [(.slice []),(.slice []),(.slice [])]),(.int .i64 (2)),(.int .i64 (10))]))),(80,(.agg [(.pure (.int .i64 (2))),(.pure (.int .i64 (1))),(.ay (1,12309) 2 2 0 2),(.ay (1,24597) 5 2 0 2),(.ay (1,28693) 1 1 0 1),(.ay (1,32789) 1 3 0 3),(.ay (1,57365) 9 5 0 5)])),(8,(.pure (.int .i64 (11)))),(7,(.pure (.int .i64 (4)))),(6,(.aA (1,6) 0)),(78,(.pure (.int .i64 (11)))),(77,(.pure (.int .i64 (4)))),(76,(.pure (.agg [(.slice []),(.slice []),(.slice [])]))),(73,(.pure (.tuple [(.agg [(.slice []),(.slice []),(.slice [])]),(.int .i64 (4)),(.int .i64 (11))]))),(75,(.pure (.tuple [(.agg [(.slice []),(.slice []),(.slice [])]),(.int .i64 (4)),(.int .i64 (11))]))),(74,(.agg [(.pure (.int .i64 (2))),(.pure (.int .i64 (1))),(.ay (1,50352203) 2 2 0 2),(.ay (1,100683851) 5 2 0 2),(.ay (1,117461067) 1 1 0 1),(.ay (1,134238283) 1 3 0 3),(.ay (1,41035) 9 4 0 4)])),(72,(.pure (.bool false))),(71,(.pure (.bool false))),(70,(.pure (.int .i64 (12)))),(69,(.agg [(.pure (.int .i64 (2))),(.pure (.int .i64 (1))),(.ay (1,12308) 2 2 0 2),(.ay (1,24596) 5 2 0 2),(.ay (1,28692) 1 1 0 1),(.ay (1,32788) 1 3 0 3),(.ay (1,57364) 9 5 0 5)])),(68,(.pure (.bool false))),(67,(.pure (.bool false))),(66,(.pure (.bool false))),(65,(.pure (.int .i64 (3)))),(64,(.agg [(.pure (.int .i64 (2))),(.pure (.int .i64 (1))),(.ay (1,12307) 2 2 0 2),(.ay (1,24595) 5 2 0 2),(.ay (1,28691) 1 1 0 1),(.ay (1,32787) 1 3 0 3),(.ay (1,57363) 9 5 0 5)])),(63,(.pure (.bool false))),(62,(.pure (.bool false))),(61,(.pure (.bool false))),(60,(.pure (.int .i64 (7)))),(59,(.agg [(.pure (.int .i64 (2))),(.pure (.int .i64 (1))),(.ay (1,12306) 2 2 0 2),(.ay (1,24594) 5 2 0 2),(.ay (1,28690) 1 1 0 1),(.ay (1,32786) 1 3 0 3),(.ay (1,57362) 9 5 0 5)])),(58,(.pure (.bool false))),(57,(.pure (.bool false))),(56,(.pure (.bool false))),(55,(.pure (.int .i64 (0)))),(54,(.agg [(.pure (.int .i64 (2))),(.pure (.int .i64 (1))),(.ay (1,12343) 2 2 0 2),(.ay (1,24631) 5 2 0 2),(.ay (1,28727) 1 1 0 1),(.ay (1,32823) 1 3 0 3),(.ay (1,57399) 9 5 0 5)])),(53,(.pure (.bool false))),(52,(.pure (.bool false))),(51,(.pure (.bool true))),(50,(.aA (1,5) 6)),(49,(.ay (1,42) 9 6 0 6)),(48,(.ay (1,57366) 9 5 2 3)),(47,(.ay (1,57366) 9 5 0 5)),(46,(.aA (1,5) 6)),(45,(.ay (1,42) 9 3 0 3)),(44,(.pure (.slice [[(.int .i64 (1)),(.int .i64 (1)),(.int .i64 (1)),(.int .i64 (0)),(.int .i64 (0)),(.int .i64 (0)),(.int .i64 (0)),(.int .i64 (0)),(.int .i64 (0))]]))),(43,(.pure (.agg [(.int .i64 (1)),(.int .i64 (1)),(.int .i64 (1)),(.int .i64 (0)),(.int .i64 (0)),(.int .i64 (0)),(.int .i64 (0)),(.int .i64 (0)),(.int .i64 (0))]))),(42,(.ay (1,42) 9 2 0 2)),(41,(.ay (1,57366) 9 5 0 2)),(40,(.ay (1,57366) 9 5 0 5)),(39,(.aA (1,5) 6)),(38, .aO),(37,(.bZ (1,57363) 9 5 0 0)),(36,(.pure (.agg [(.int .i64 (0)),(.int .i64 (0)),(.int .i64 (1)),(.int .i64 (1)),(.int .i64 (0)),(.int .i64 (0)),(.int .i64 (0)),(.int .i64 (0)),(.int .i64 (0))]))),(35,(.ay (1,57363) 9 5 0 5)),(34,(.aA (1,2) 6)),(33,(.bZ (1,57365) 9 5 2 3)),(32,(.bZ (1,57365) 9 5 2 0)),(31,(.bZ (1,57364) 9 5 1 0)),(30,(.bZ (1,57364) 9 5 1 0)),(29,(.bZ (1,24594) 5 2 0 2)),(28,(.bZ (1,24594) 5 2 0 0)),(27,(.ay (1,57365) 9 5 0 5)),(26,(.aA (1,4) 6)),(25,(.ay (1,57364) 9 5 0 5)),(24,(.aA (1,3) 6)),(23,(.ay (1,24594) 5 2 0 2)),(22,(.aA (1,1) 3)),(5,(.aA (1,5) 0)),(4,(.aA (1,4) 0)),(3,(.aA (1,3) 0)),(2,(.aA (1,2) 0)),(1,(.aA (1,1) 0)),(21,(.agg [(.pure (.int .i64 (2))),(.pure (.int .i64 (1))),(.ay (1,12310) 2 2 0 2),(.ay (1,24598) 5 2 0 2),(.ay (1,28694) 1 1 0 1),(.ay (1,32790) 1 3 0 3),(.ay (1,57366) 9 5 0 5)])),(20,(.agg [(.pure (.int .i64 (2))),(.pure (.int .i64 (1))),(.ay (1,12309) 2 2 0 2),(.ay (1,24597) 5 2 0 2),(.ay (1,28693) 1 1 0 1),(.ay (1,32789) 1 3 0 3),(.ay (1,57365) 9 5 0 5)])),(19,(.agg [(.pure (.int .i64 (2))),(.pure (.int .i64 (1))),(.ay (1,12308) 2 2 0 2),(.ay (1,24596) 5 2 0 2),(.ay (1,28692) 1 1 0 1),(.ay (1,32788) 1 3 0 3),(.ay (1,57364) 9 5 0 5)])),(18,(.agg [(.pure (.int .i64 (2))),(.pure (.int .i64 (1))),(.ay (1,12307) 2 2 0 2),(.ay (1,24595) 5 2 0 2),(.ay (1,28691) 1 1 0 1),(.ay (1,32787) 1 3 0 3),(.ay (1,57363) 9 5 0 5)])),(17,(.agg [(.pure (.int .i64 (2))),(.pure (.int .i64 (1))),(.ay (1,12306) 2 2 0 2),(.ay (1,24594) 5 2 0 2),(.ay (1,28690) 1 1 0 1),(.ay (1,32786) 1 3 0 3),(.ay (1,57362) 9 5 0 5)])),(0,(.pure (.bool false)))],[Sj,[]],164⟩
theorem DJ:xq (cC KC 5000) 8 3 (lY 8 (Try.f8.body.getD .skip)) Si=some (lY 11 (Try.f8.body.getD .skip),zO):=by kernel_rfl
theorem Bj {K:Ctx} {f:FuncId} {g:Func} {code:Code} {args:List GV} {c:Nat} {H:ae} {R:GV×ae→Prop} (hf:K.P.funcs[f]? =some g) (hb:g.body=some code)
  (hn:(g.name== "runtime.NumGoroutine")=false) (hl:args.length≤g.ntmps) (hH:0<H.length)
  (h: ∃e st,aE K f code ⟨slotsOf 0 (args.map canon),[]::H,g.ntmps⟩=some (e,st)∧u6 K f g c R e st):j5 (bG K (aE K) f args c H) R:=by
 obtain⟨e,st,h1,h2,rs,h3,x,h4,h5⟩:=h;refine⟨x, ?_,h5⟩;have hnt: ¬g.ntmps<args.length:=(by omega);have hH0: ¬H.length=0:=(by omega);simp only [bG,hf,hb,hn,hnt,hH0,decide_false,Bool.or_self,Bool.false_eq_true,if_false,h1]
 cases e with
 |exit id=>exact h2.elim
 |normal=>
  simp only [h3];rw [←h4];rcases rs with _|⟨r,_|⟨r2,l⟩⟩<;>rfl
 |ret=>
  simp only [h3];rw [←h4];rcases rs with _|⟨r,_|⟨r2,l⟩⟩<;>rfl
theorem Bk:bD KC au 8 (lY 11 (Try.f8.body.getD .skip))=true:=by kernel_rfl
theorem UB: ∃H',aK KC (aE KC) 8 [] 0 [[]]=some (.pure (.bool true),H'):=by
 suffices hs:j5 (aK KC (aE KC) 8 [] 0 [[]]) (fun x=>x.1= .pure (.bool true))by
  obtain⟨⟨v,H'⟩,h1,rfl⟩:=hs;exact⟨H',h1⟩
 rw [pR KC rfl rfl rfl];refine Bj Try.func8 rfl rfl (by simp) (by simp) ?_;have e:aE KC 8 (Try.f8.body.getD .skip) ⟨[],[[],[]],164⟩=aE KC 8 (lY 11 (Try.f8.body.getD .skip)) zO:=by
  rw [j4 Hv,j4 Hw,j4 Hz];exact j4 DJ
 have W:WP KC au 8 (lY 11 (Try.f8.body.getD .skip)) zO (u6 KC 8 Try.f8 0 fun x=>x.1= .pure (.bool true)):=by
  refine eV KC au 8 _ ?_;have R:=fun(H:ae) (hH:0<H.length)=>xp (c:=162) (H:=H) hH;conv=>arg 4;whnf
  unfold zO;simp [R,ah]
 obtain⟨x,st',h1,h2⟩:=W Bk;refine⟨x,st', ?_,h2⟩;exact e.trans h1
section
open Go.ChangeShapes Go.WideShapes Go.RowKit Go.ChangeAt
def zP (P:Program):Nat→TypeId→List PV→Prop
 |0,_,_=>False
 |n+1,t,ps=>
  match P.underlying t with
  |some .bool=> ∃b,ps=[.bool b]
  |some (.int k)=> ∃m,(Lit.int k m).wf=true∧ps=[.int k m]
  |some .string=> ∃l:List UInt8,l.length≤maxLen∧ps=[.str l]
  |some (.slice e)=> ∃rows,rows.length≤maxLen∧(∀r∈rows,r.length=P.cellsOf e∧zP P n e r)∧ps=[.slice rows]
  |some (.struct fs)=>ps.length=P.cellsOf t∧ ∀f∈fs.toList,zP P n f.type ((ps.drop f.offset).take (P.cellsOf f.type))
  |some (.array m e)=>ps.length=P.cellsOf t∧ ∀i,i<m→zP P n e ((ps.drop (i*P.cellsOf e)).take (P.cellsOf e))
  |_=>False
def du (P:Program)(tot:Nat):Nat→List (Nat×TypeId)→Bool
 |o,[]=>o==tot
 |o,(off,t)::r=>off==o && du P tot (o+P.cellsOf t) r
def gN (P:Program):Nat→TypeId→Bool
 |0,_=>false
 |n+1,t=>
  match P.underlying t with
  |some .bool|some (.int _)|some .string=>true
  |some (.slice e)=>decide (0<P.cellsOf e) && gN P n e
  |some (.struct fs)=>du P (P.cellsOf t) 0 (fs.toList.map fun f=>(f.offset,f.type)) && fs.toList.all fun f=>gN P n f.type
  |some (.array m e)=>du P (P.cellsOf t) 0 ((List.range m).map fun i=>(i*P.cellsOf e,e)) && gN P n e
  |_=>false
def S0 (w:World):Nat→Prop:=fun b=>b<w.heap.size
def sr (w:World)(cs:List Value)(ps:List PV):Prop:=ps.length=cs.length∧ ∀j,j<cs.length→(cs.getD j undef).oneCell'=true∧bI w (S0 w) (cs.getD j undef) (ps.getD j .dead)
theorem sr.append {w:World}{a b:List Value}{p q:List PV}(h:sr w a p)(k:sr w b q):sr w (a++b) (p++q):=by
 obtain⟨h1,h2⟩:=h;obtain⟨k1,k2⟩:=k;refine⟨by simp [h1,k1],fun j hj=> ?_⟩;by_cases hja:j<a.length
 ·have e1:(a++b).getD j undef=a.getD j undef:=(by simp [List.getD_eq_getElem?_getD,List.getElem?_append_left hja]);have e2:(p++q).getD j .dead=p.getD j .dead:=by simp [List.getD_eq_getElem?_getD,List.getElem?_append_left (show j<p.length by omega)]
  rw [e1,e2];exact h2 j hja
 ·have e1:(a++b).getD j undef=b.getD (j-a.length) undef:=by simp [List.getD_eq_getElem?_getD,List.getElem?_append_right (show a.length≤j by omega)]
  have e2:(p++q).getD j .dead=q.getD (j-a.length) .dead:=by rw [List.getD_eq_getElem?_getD,List.getElem?_append_right (show p.length≤j by omega),h1,List.getD_eq_getElem?_getD]
  rw [e1,e2];exact k2 _ (by simp at hj;omega)
theorem mq {w : World} {v : Value} {p : PV} (h1 : v.oneCell' = true) (h : bI w (S0 w) v p) : sr w [v] [p] :=
  ⟨rfl, fun j hj => by have : j = 0 := by simpa using hj
                       subst this; exact ⟨h1, h⟩⟩
section
variable {P:Program} {w:World}
theorem nh (n : Nat) {cs : List Value} : ∀ (l : List (Nat × TypeId)) (o : Nat), du P cs.length o l = true →
    (∀ x ∈ l, ∃ ps, sr w ((cs.drop x.1).take (P.cellsOf x.2)) ps ∧ zP P n x.2 ps) →
    o ≤ cs.length ∧ ∃ ps, sr w (cs.drop o) ps ∧ ∀ x ∈ l, o ≤ x.1 ∧ zP P n x.2 ((ps.drop (x.1 - o)).take (P.cellsOf x.2))
  | [], o, hc, h => by
    simp only [du, beq_iff_eq] at hc
    subst hc
    exact ⟨Nat.le_refl _, [], by simp [sr], by simp⟩
  | (off, t) :: r, o, hc, h => by
    simp only [du, Bool.and_eq_true, beq_iff_eq] at hc
    obtain ⟨rfl, hc⟩ := hc
    obtain ⟨hle, ps, h1, h2⟩ := nh n r _ hc (fun x hx => h x (List.mem_cons_of_mem _ hx))
    obtain ⟨p, q1, q2⟩ := h (off, t) (List.mem_cons_self ..)
    simp only at q1 q2
    have hpl : p.length = P.cellsOf t := by rw [q1.1, List.length_take, List.length_drop]; omega
    refine ⟨by omega, p ++ ps, ?_, fun x hx => ?_⟩
    · have := q1.append h1
      rw [← List.drop_drop, List.take_append_drop] at this
      exact this
    · rcases List.mem_cons.1 hx with rfl | hx
      · refine ⟨Nat.le_refl _, ?_⟩
        simp only [Nat.sub_self, List.drop_zero]
        rw [← hpl, List.take_left]
        exact q2
      · obtain ⟨g1, g2⟩ := h2 x hx
        refine ⟨by omega, ?_⟩
        have e : (p ++ ps).drop (x.1 - off) = ps.drop (x.1 - (off + P.cellsOf t)) := by
          rw [List.drop_append, List.drop_of_length_le (by omega), List.nil_append, hpl, Nat.sub_sub]
        rw [e]; exact g2
theorem yM {H:Type}{enc:TypeId×Value→H}: ∀(n:Nat) (t:TypeId) (fuel:Nat) (cs:List Value) (x:DataW H×List MemPlace),gN P n t=true→
    DataW.trod enc P w 0 (fun _=>true) true fuel t cs=some x→ ∃ps,sr w cs ps∧zP P n t ps:=by
  intro n
  induction n with
  |zero=>intro t fuel cs x h;simp [gN]at h
  |succ n ih=>
    intro t fuel cs x h hx;unfold gN at h;unfold zP;split at h
    · rename_i ht
      obtain⟨b,rfl,_⟩:=DataW.trod_bool ht hx;exact⟨[.bool b],mq rfl (.bool b),b,rfl⟩
    · rename_i k ht
      obtain⟨m,rfl,_,hw⟩:=DataW.trod_int ht hx;exact⟨[.int k m],mq rfl (.int k m),m,hw,rfl⟩
    · rename_i ht
      obtain⟨s,rfl,_,hs⟩:=DataW.trod_string ht hx;exact⟨[.str s.data.toList],mq rfl (.str s),_,by simpa using hs,rfl⟩
    · rename_i e ht
      simp only [Bool.and_eq_true,decide_eq_true_eq]at h;obtain⟨he,hp⟩:=h;rcases DataW.trod_slice ht hx with ⟨rfl,_⟩|⟨a,len,cap,elems,rest,m,_,rfl,_,hb,hl,hm,hlen,hel,_,_⟩
      · exact⟨[.slice []],mq rfl (.dJ none 0),[],by simp,by simp,rfl⟩
      · by_cases h0:len=0
        · subst h0
          exact⟨[.slice []],mq rfl (.dJ _ _),[],by simp,by simp,rfl⟩
        · have each: ∀i,i<len→ ∃c ps,w.cells? 0 (a.add (i*P.cellsOf e)) (P.cellsOf e)=some c∧sr w c ps∧zP P n e ps:=by
            intro i hi;have h1:=hel i hi;rw [List.getElem?_eq_getElem (show i<elems.length by omega),Option.bind_eq_some_iff]at h1
            obtain⟨c,h1,h2⟩:=h1;obtain⟨ps,h3,h4⟩:=ih e m c _ hp h2;exact⟨c,ps,h1,h3,h4⟩
          have ch: ∃fc:Nat→List Value,∃fp:Nat→List PV,∀i,i<len→w.cells? 0 (a.add (i*P.cellsOf e)) (P.cellsOf e)=some (fc i)∧sr w (fc i) (fp i)∧zP P n e (fp i):=by
            refine⟨fun i=>if h:i<len then Classical.choose (each i h)else [],fun i=>if h:i<len then Classical.choose (Classical.choose_spec (each i h))else [],fun i hi=> ?_⟩;simp only [hi,↓reduceDIte];exact Classical.choose_spec (Classical.choose_spec (each i hi))
          obtain⟨fc,fp,hf⟩:=ch;have hcell: ∀i j,i<len→j<P.cellsOf e→w.cell? (a.add (i*P.cellsOf e+j))=some ((fc i).getD j undef):=by
            intro i j hi hj;obtain⟨h1,_⟩:=hf i hi;obtain⟨_,g1,g2⟩:=World.cells?_some h1;have:=g2 j hj;rw [List.getElem?_eq_getElem (by omega)]at this;have e1:(a.add (i*P.cellsOf e)).add j=a.add (i*P.cellsOf e+j):=by
              unfold Addr.add;by_cases c1:i*P.cellsOf e=0<;>by_cases c2:j=0<;>simp_all [Nat.add_assoc]
            rw [e1]at this;rw [this,List.getD_eq_getElem?_getD,List.getElem?_eq_getElem (by omega)];rfl
          obtain⟨b,off,spot⟩:=a;have hsp:spot=none:=by
            have:=World.cell?_spot (hcell 0 0 (by omega) he);simpa [Addr.add]using this
          subst hsp;have hcell': ∀i j,i<len→j<P.cellsOf e→w.cell? ⟨b,off+(i*P.cellsOf e+j),none⟩=some ((fc i).getD j undef):=by
            intro i j hi hj;have:=hcell i j hi hj;unfold Addr.add at this;split at this
            · rename_i c;rw [c,Nat.add_zero];exact this
            · exact this
          have hfl: ∀i,i<len→(fp i).length=P.cellsOf e∧(fc i).length=P.cellsOf e:=by
            intro i hi;obtain⟨h1,h2,_⟩:=hf i hi;obtain⟨_,g1,_⟩:=World.cells?_some h1;exact⟨h2.1.trans g1,g1⟩
          have hrows:((List.range len).map fp).length=len:=(by simp);refine⟨[.slice ((List.range len).map fp)],mq rfl ?_,_,by rw [hrows];omega,fun r hr=> ?_,rfl⟩
          · have:=bI.slice (w:=w) (S:=S0 w) b off cap (P.cellsOf e) ((List.range len).map fp) (fun i j=>(fc i).getD j undef) (by
                have:=hcell' 0 0 (by omega) he;unfold S0;refine Classical.byContradiction fun hn=> ?_;have hz:w.heap[b]? =none:=Array.getElem?_eq_none (by omega);simp [World.cell?,hz]at this) he
              (fun r hr=>by obtain⟨i,hi,rfl⟩:=List.mem_map.1 hr;exact(hfl i (by simpa using hi)).1)
              (fun i j hi hj=>hcell' i j (by simpa using hi) hj)
              (fun i j hi hj=>by
                have hi':i<len:=(by simpa using hi);exact((hf i hi').2.1.2 j (by rw [(hfl i hi').2];exact hj)).1)
              (fun i j hi hj=>by
                have hi':i<len:=(by simpa using hi);have e1:((List.range len).map fp).getD i []=fp i:=(by simp [List.getD_eq_getElem?_getD,hi']);rw [e1];exact((hf i hi').2.1.2 j (by rw [(hfl i hi').2];exact hj)).2)
              (by rw [hrows];exact hl)
            rw [hrows]at this;exact this
          · obtain⟨i,hi,rfl⟩:=List.mem_map.1 hr
            have hi':i<len:=(by simpa using hi);exact⟨(hfl i hi').1,(hf i hi').2.2⟩
    · rename_i fs ht
      simp only [Bool.and_eq_true,List.all_eq_true]at h;obtain⟨hc,hp⟩:=h;obtain⟨xs,m,_,_,hl,hlen,hfld⟩:=DataW.trod_struct ht hx;rw [←hl]at hc;obtain⟨_,ps,h1,h2⟩:=nh (w:=w) n _ 0 hc (fun y hy=>by
        obtain⟨f,hf,rfl⟩:=List.mem_map.1 hy;obtain⟨i,hi,e⟩:=List.getElem_of_mem hf;have hi':i<fs.size:=(by simpa using hi);have h3:=hfld i f (by rw [Array.getElem?_eq_getElem hi'];rw [←e];simp);rw [List.getElem?_eq_getElem (by omega)]at h3;obtain⟨p,q1,q2⟩:=ih f.type m _ _ (hp f hf) h3;exact⟨p,q1,q2⟩)
      rw [List.drop_zero]at h1;refine⟨ps,h1,by rw [h1.1,hl],fun f hf=> ?_⟩;exact(h2 (f.offset,f.type) (List.mem_map.2 ⟨f,hf,rfl⟩)).2
    · rename_i k e ht
      simp only [Bool.and_eq_true]at h;obtain⟨hc,hp⟩:=h;obtain⟨xs,m,_,_,hl,hlen,hfld⟩:=DataW.trod_array ht hx;rw [←hl]at hc;obtain⟨_,ps,h1,h2⟩:=nh (w:=w) n _ 0 hc (fun y hy=>by
        obtain⟨i,hi,rfl⟩:=List.mem_map.1 hy;have hi':i<k:=(by simpa using hi);have h3:=hfld i hi';rw [List.getElem?_eq_getElem (by omega)]at h3;obtain⟨p,q1,q2⟩:=ih e m _ _ hp h3;exact⟨p,q1,q2⟩)
      rw [List.drop_zero]at h1;refine⟨ps,h1,by rw [h1.1,hl],fun i hi=> ?_⟩;exact(h2 (i*P.cellsOf e,e) (List.mem_map.2 ⟨i,by simpa using hi,rfl⟩)).2
    · cases h
def M1 (P:Program)(n:Nat)(t:TypeId)(p:PV):Prop:=
 match P.underlying t with
 |some (.struct _)|some (.array _ _)=> ∃ps,p= .agg ps∧zP P n t ps
 |_=>zP P n t [p]
def zA (P:Program)(n:Nat):List TypeId→List PV→Prop
 | [],[]=>True
 |t::ts,p::ps=>M1 P n t p∧zA P n ts ps
 |_,_=>False
def GB:Mu:=fun _ _=>none
theorem HA {n:Nat}{t:TypeId}{ps:List PV}(h:zP P n t ps)(hs: ∀fs,P.underlying t≠some (.struct fs))(ha: ∀m e,P.underlying t≠some (.array m e)): ∃p,ps=[p]:=by
 cases n with
 |zero=>exact h.elim
 |succ n=>
  unfold zP at h;split at h
  ·obtain⟨b,rfl⟩:=h;exact⟨_,rfl⟩
  ·obtain⟨m,_,rfl⟩:=h;exact⟨_,rfl⟩
  ·obtain⟨m,_,rfl⟩:=h;exact⟨_,rfl⟩
  ·obtain⟨m,_,_,rfl⟩:=h;exact⟨_,rfl⟩
  ·rename_i ht;exact absurd ht (hs _)
  ·rename_i ht;exact absurd ht (ha _ _)
  ·exact h.elim
theorem GC {H:Type} {enc:TypeId×Value→H} {n:Nat} {t:TypeId} {v:Value} {d:DataW H} {ps0:List MemPlace} {base:Nat} (hp:gN P n t=true) (hok:Value.okWide P w .any base t v)
  (h:DataW.Trod enc P w 0 (fun _=>true) true t v d ps0): ∃p,ax w (S0 w) GB 0 v (.pure p)∧M1 P n t p:=by
 obtain⟨fuel,hf⟩:=h;obtain⟨ps,h1,h2⟩:=yM n t fuel _ _ hp hf;have agg: ∀cs,v= .agg cs→ ∃p,ax w (S0 w) GB 0 v (.pure p)∧ ∃ps,p= .agg ps∧zP P n t ps:=by
  intro cs e;subst e;simp only [Value.cells]at h1;refine⟨.agg ps, .pure _ _ (.agg cs ps (by simpa using h1.1.symm) (fun j hj=> ?_) (fun j hj=> ?_)),ps,rfl,h2⟩
  ·have:=(h1.2 j (by rw [←h1.1];exact hj)).1;simpa [List.getD_eq_getElem?_getD]using this
  ·have:=(h1.2 j (by rw [←h1.1];exact hj)).2;simpa [List.getD_eq_getElem?_getD]using this
 unfold M1;split
 ·rename_i fs ht;obtain⟨cs,e,_⟩:=okWide_struct ht hok;exact agg cs e
 ·rename_i m e ht;simp only [Value.okWide,ht]at hok;obtain⟨cs,e,_⟩:=hok;exact agg cs e
 ·rename_i hs ha;obtain⟨p,rfl⟩:=HA h2 (fun fs e=>hs fs e) (fun m e e'=>ha m e e');have hv:v.cells.toList=[v]:=by
   have hl:=h1.1;cases v<;>first|rfl|skip
   ·exfalso;rename_i cs
    cases n with
    |zero=>exact h2.elim
    |succ n=>
     unfold gN at hp;simp only [Value.okWide]at hok;split at hp<;>rename_i ht<;>first|(simp [Cell.okWide,Cell.ok,ht]at hok;done)|(exact absurd ht (hs _))|(exact absurd ht (ha _ _))|(cases hp;done)|skip
  rw [hv]at h1;exact⟨p, .pure _ _ (h1.2 0 (by simp)).2,h2⟩
end
end
end Go.Gh
