/- Texts joined: the evaluator over ghost values, its soundness, the walks. Spaces struck and names made short by a program, for the size. -/
import Derived.Test.YtkcmcjohoockcaaGreatGc5l
import Derived.Test.YtkcmcjohoockcaaGreatGc5i
import Derived.Test.YtkcmcjohoockcaaGreatGc5k
import Derived.Test.YtkcmcjohoockcaaGreatGc5e
import Derived.ProofKit
import Derived.OpenShut
import Derived.ChangeOld
import Derived.Below
import Derived.Carry
import Derived.Test.YtkcmcjohoockcaaGreatGc5b
import Derived.ChangeKeysEq
import Derived.Test.YtkcmcjohoockcaaGreatGc5f
namespace Go.Gh
open Go.Proofs
set_option linter.unusedVariables false
set_option linter.unusedSimpArgs false
set_option linter.unnecessarySimpa false
set_option maxRecDepth 100000
set_option maxHeartbeats 8000000
section
variable {c:Nat} {H:aj}
theorem PM (r:aC)(hH:0<H.length): ∃b:Bool,(b=false→Hi r=false∧(cv r=0→r.ai.length≤8))∧
  ∀c,aL KC (aG KC) 32 [.pure (.agg r.row)] c H=some (.pure (.bool b),H):=by
 have B:=fun c (H:aj) (hH:0<H.length)=>X5 (c:=c) (H:=H) r hH
 cases hb:Hi r with
 |true=>
  refine⟨true,(fun h=>nomatch h),fun c=> ?_⟩;refine aM (aW KC au Tryz.func32 rfl rfl De rfl rfl rfl (by simp) hH ?_);rw [hb]at B;rw [cI]at B⊢;simp [B,ae]
 |false=>
  rw [hb]at B;obtain⟨b1,b2,b3,b4,b5⟩:=wD hb;have sh:eL r:=⟨by omega,by omega,by omega,by omega,by omega⟩;have C:=fun c (H:aj) (hH:0<H.length)=>rF (c:=c) (H:=H) (g:= .pure (.agg r.row)) r sh rfl hH;by_cases h0:cv r=0
  ·refine⟨decide (8<r.ai.length)||(decide (9<IntKind.i64.wrap (r.wide*r.deep))||decide (4<r.aa.length)),fun h=>⟨rfl,fun _=> ?_⟩,fun c=> ?_⟩
   ·simp at h;omega
   refine aM (aW KC au Tryz.func32 rfl rfl De rfl rfl rfl (by simp) hH ?_);rw [h0]at C;rw [cI]at B C⊢;by_cases x1:8<r.ai.length
   ·have x1':(8:Int)<r.ai.length:=(by omega);simp [B,C,x1,x1',ae]
   ·have x1': ¬(8:Int)<r.ai.length:=(by omega);by_cases x2:9<IntKind.i64.wrap (r.wide*r.deep)
    ·simp [B,C,x1,x1',x2,ae]
    ·by_cases x3:4<r.aa.length
     ·have x3':(4:Int)<r.aa.length:=(by omega);simp [B,C,x1,x1',x2,x3,x3',ae]
     ·have x3': ¬(4:Int)<r.aa.length:=(by omega);simp [B,C,x1,x1',x2,x3,x3',ae]
  ·refine⟨false,fun _=>⟨rfl,fun e=>absurd e h0⟩,fun c=> ?_⟩;have h0':(cv r==0)=false:=(by simpa using h0);refine aM (aW KC au Tryz.func32 rfl rfl De rfl rfl rfl (by simp) hH ?_);rw [cI]at B C⊢;simp [B,C,h0,h0',ae]
def PN (L k1 k2 k3:Nat)(m:aC)(sn:List Int):dF:= .box [.pure (.int .i64 m.wide), .pure (.int .i64 m.deep),cH (L,k1) 2 (m.ah.map aS.row),cH (L,k2) 5 (m.aa.map aY.row),cH (L,24) 1 (sn.map aE), .pure (.slice (m.aP.map aE)),cH (L,k3) 9 (m.ai.map ak.row)]
theorem Ei {nm:Nm}(hlt:nm.1<H.length){m:aC}{n k1 k2 k3:Nat}(hn:IntKind.i64.wrap (m.wide*m.deep)=n)(hn0:n≤1000){A:Fr}(a24:A.get 24=none)(Q:GX→bN→Prop): ∀(k i:Nat) (sn:List Int) (wd:Int),i+k=n→sn.length≤i→sn.Pairwise (· < ·)→(∀x∈sn,0≤x∧x<i)→
  (∀(sn':List Int) (wd':Int),sn'.length≤n→sn'.Pairwise (· < ·)→(∀x∈sn',0≤x∧x<n)→
   Q (.exit 0) ⟨[(3, .aA (H.length,3) 0),(4, .aA (H.length,4) 0)],eG 24 1 (sn'.map aE) (A.ins 3 (PN H.length k1 k2 k3 m sn'))::H.set nm (bG wd'),27⟩)→
  fM KC au 33 (lp Tryz.f33 0) [0,3,4,5] [3,4] Q
   [(0, .aA nm 0),(3, .aA (H.length,3) 0),(4, .aA (H.length,4) 0),(5, .pure (.int .i64 i))] (eG 24 1 (sn.map aE) (A.ins 3 (PN H.length k1 k2 k3 m sn))::H.set nm (bG wd)) 27:=by
 have hne: ¬nm.1=H.length:=(by omega);have hne2: ¬nm.1=H.length+1:=(by omega);have hle:nm.1≤H.length:=(by omega);have hB:=fun w f0 f1=>DJ hlt w f0 f1;have hW:=fun w f0 f1=>wz hlt w f0 f1;intro k
 induction k with
 |zero=>
  intro i sn wd hi hl hp hb hq;have hq':=hq sn wd (by omega) hp (fun x hx=>by have:=hb x hx;omega);have hnl: ¬(i:Int)<n:=(by omega);apply ax;conv=>arg 4;whnf
  simp [PN,aj.length_set,hn,hnl,bE,Fr.a7];exact hq'
 |succ k ih=>
  intro i sn wd hi hl hp hb hq;have hw:=cU (x:=(i:Int)+1) (by omega) (by omega);have hil:(i:Int)<n:=(by omega);have hbb:(sn.length+1)*8≤1099511627776:=(by omega);obtain⟨on,w1,e1⟩: ∃(on:Bool) (w1:Int),zG wd 4=(on,w1):=⟨_,_,rfl⟩;apply ax;conv=>arg 4;whnf
  cases on with
  |false=>
   have ih2:=ih (i+1) sn w1 (by omega) (by omega) hp (fun x hx=>by have:=hb x hx;omega) hq;simp only [PN]at ih2;simp [PN,hn,hil,hw,aj.length_set,nA,hB,hW,hlt,hne,hne2,aj.dR,hle,e1,bE,Fr.a7];exact ih2
  |true=>
   have ih2:=ih (i+1) (sn++[(i:Int)]) w1 (by omega) (by simp;omega) (List.pairwise_append.2 ⟨hp,by simp,fun a ha b hb'=>by simp at hb';subst hb';exact(hb a ha).2⟩)
    (fun x hx=>by
     rcases List.mem_append.1 hx with hx|hx
     ·have:=hb x hx;omega
     ·simp at hx;subst hx;omega) hq
   have AP:=fun(f0:Fr)=>vR (H:=H.set nm (bG w1)) (l:=H.length) (key:=24) (es:=1) (bytes:=8) (rows:=sn.map aE) (r:=aE i) (fr:=A.ins 3 (PN H.length k1 k2 k3 m sn)) (f0:=f0) (by simp [aj.length_set]) (by rw [Fr.aw _ (by decide)];exact a24) (by simpa using hbb);simp only [PN,aE]at ih2 AP;simp [PN,hn,hil,hw,aj.length_set,nA,hB,hW,hlt,hne,hne2,aj.dR,hle,e1,bE,Fr.a7,Fr.fe,aE,AP];simpa [aE]using ih2
theorem Cq {F:Fr}(r:aC)(sh:eL r)(f6:F.get (ao c 6)=none)(f10:F.get (ao c 10)=none)(f22:F.get (ao c 22)=none):
  ∃F',(∀k,k≠ao c 6→k≠ao c 10→k≠ao c 22→F'.get k=F.get k)∧
   (r.ah.map aS.row≠[]→F'.get (ao c 6)=some (.arr 2 (r.ah.map aS.row) 0 false))∧(r.aa.map aY.row≠[]→F'.get (ao c 10)=some (.arr 5 (r.aa.map aY.row) 0 false))∧(r.ai.map ak.row≠[]→F'.get (ao c 22)=some (.arr 9 (r.ai.map ak.row) 0 false))∧
   aL KC (aG KC) 13 [.pure (.agg r.row)] c (F::H)=some (yi (H.length,ao c 6) (H.length,ao c 10) (H.length,ao c 22) r,F'::H):=by
 have jP:ao c 6≠ao c 10:=(by unfold ao;omega);have kL:ao c 6≠ao c 22:=(by unfold ao;omega);have jZ:ao c 10≠ao c 22:=(by unfold ao;omega);have O:=Ej (c:=c) (H:=F::H) r sh (by simp) (by simpa using f6) (by simpa using f10) (by simpa using f22);simp only [List.length_cons,Nat.add_sub_cancel]at O;have hH:Ki (F::H) (H.length,ao c 6) (H.length,ao c 10) (H.length,ao c 22) r=eG (ao c 22) 9 (r.ai.map ak.row) (eG (ao c 10) 5 (r.aa.map aY.row) (eG (ao c 6) 2 (r.ah.map aS.row) F))::H:=by
  unfold Ki;rw [sQ rfl,sQ rfl,sQ rfl]
 rw [hH]at O;refine⟨_,fun k a b d=> ?_,fun h=> ?_,fun h=> ?_,fun h=> ?_,O⟩
 ·rw [bE d,bE b,bE a]
 ·rw [bE kL,bE jP,dg h]
 ·rw [bE jZ,dg h]
 ·rw [dg h]
theorem Ek {nm:Nm}(hB0:fZ H nm){m:aC}(sh:eL m){n:Nat}(hn:IntKind.i64.wrap (m.wide*m.deep)=n)(hn0:n≤1000):
  ∃sn wd,sn.length≤n∧sn.Pairwise (· < ·)∧(∀x∈sn,0≤x∧x<(n:Int))∧
   aL KC (aG KC) 33 [.aA nm 0, .pure (.agg m.row)] c H=some (.pure (.agg ({m with seen:=sn}:aC).row),H.set nm (bG wd)):=by
 have hlt:=gP hB0;have hset:=jU hB0;have hne: ¬nm.1=H.length:=by omega
 suffices hs:kW (aL KC (aG KC) 33 [.aA nm 0, .pure (.agg m.row)] c H) (fun x=> ∃sn wd,sn.length≤n∧sn.Pairwise (· < ·)∧(∀x∈sn,0≤x∧x<(n:Int))∧x=(.pure (.agg ({m with seen:=sn}:aC).row),H.set nm (bG wd)))by
  obtain⟨x,hx,sn,wd,h1,h2,h3,h4⟩:=hs;exact⟨sn,wd,h1,h2,h3,by rw [hx,h4]⟩
 refine aW KC au Tryz.func33 rfl rfl V9 rfl rfl rfl (by simp) (by omega) ?_;obtain⟨F1,o1,p2,p3,p7,O⟩:=Cq (c:=7) (H:=H) (F:=[(3,aD m),(4,lG)]) m sh (by simp [ao]) (by simp [ao]) (by simp [ao]);have f3:F1.get 3=some (aD m):=(by rw [o1 3 (by decide) (by decide) (by decide)];rfl);have f4:F1.get 4=some lG:=(by rw [o1 4 (by decide) (by decide) (by decide)];rfl);have f24:F1.get 24=none:=(by rw [o1 24 (by decide) (by decide) (by decide)];rfl);obtain⟨w0,hw0⟩: ∃w0,bJ H nm=w0:=⟨_,rfl⟩;rw [hw0]at hset;have L:=fun Q h1=>Ei (H:=H) hlt (m:=m) (k1:=ao 7 6) (k2:=ao 7 10) (k3:=ao 7 22) hn hn0 f24 Q n 0 [] w0 (by omega) (by simp) .nil (by simp) h1;rw [hset]at L;simp only [List.map_nil,ja,PN,ff]at L;simp only [aD]at f3 O;simp only [lG]at O f4;rw [cI]at O⊢;simp only [yi]at O;simp [O,f3,Fr.a7,Fr.fe,lG];refine L _ fun sn wd h1 h2 h3=> ?_;have hls:(H.set nm (bG wd)).length=H.length:=aj.length_set ..;simp [hls,bE,Fr.a7,Fr.aw,f4,aI];generalize hx:dF.box [.pure (.int .i64 m.wide), .pure (.int .i64 m.deep),cH (H.length,ao 7 6) 2 (m.ah.map aS.row),cH (H.length,ao 7 10) 5 (m.aa.map aY.row),cH (H.length,24) 1 (sn.map aE), .pure (.slice (m.aP.map aE)),cH (H.length,ao 7 22) 9 (m.ai.map ak.row)]=x;obtain⟨F,hF⟩: ∃F,eG 24 1 (sn.map aE) (Fr.ins 4 x (Fr.ins 3 x F1))=F:=⟨_,rfl⟩;have gg: ∀k,k≠24→k≠4→k≠3→F.get k=F1.get k:=fun k a b d=>(by rw [←hF,bE a,Fr.aw _ b,Fr.aw _ d]);have g1:m.ah.map aS.row≠[]→F.get (ao 7 6)=some (.arr 2 (m.ah.map aS.row) 0 false):=fun h=>(gg _ (by decide) (by decide) (by decide)).trans (p2 h);have g2:m.aa.map aY.row≠[]→F.get (ao 7 10)=some (.arr 5 (m.aa.map aY.row) 0 false):=fun h=>(gg _ (by decide) (by decide) (by decide)).trans (p3 h);have g3:sn.map aE≠[]→F.get 24=some (.arr 1 (sn.map aE) 0 false):=fun h=>(by rw [←hF,dg h]);have g4:m.ai.map ak.row≠[]→F.get (ao 7 22)=some (.arr 9 (m.ai.map ak.row) 0 false):=fun h=>(gg _ (by decide) (by decide) (by decide)).trans (p7 h);rw [hF,ae (by simp),gS];have lt:(H.set nm (bG wd)).length-1<H.length:=(by omega);rw [qb];refine⟨sn,h1,h2,h3,wd, ?_⟩;have e:canon (dm ([.pure (.int .i64 m.wide), .pure (.int .i64 m.deep),cH (H.length,ao 7 6) 2 (m.ah.map aS.row),cH (H.length,ao 7 10) 5 (m.aa.map aY.row),cH (H.length,24) 1 (sn.map aE), .pure (.slice (m.aP.map aE)),cH (H.length,ao 7 22) 9 (m.ai.map ak.row)].map (cP (F::H.set nm (bG wd)) ((H.set nm (bG wd)).length-1))))= .pure (.agg ({m with seen:=sn}:aC).row):=by
  refine pk ?_;simp only [List.map_cons,List.map_nil,mc,dz hls lt g1,dz hls lt g2,dz hls lt g3,dz hls lt g4,zi];rfl
 rw [e]
end
section
variable {H:aj}
theorem Cr {α:Type}{z xs:List α}(h:z.length=xs.length):aI z 0 xs=xs:=by
 unfold aI;simp [h.symm]
end
section
variable {c:Nat} {H:aj}
theorem Cs (r:aC)(act kind:Int): ∃(l:List ak) (e:Int),qO r act kind= .tuple [.slice (l.map ak.row), .int .i64 e]∧l.length≤3:=by
 unfold qO;by_cases h:El r act kind≠0
 ·rw [if_pos h];exact⟨[],_,rfl,by simp⟩
 ·rw [if_neg h]
  cases ho:jR r act.toNat kind with
  |none=>exact⟨[],7,rfl,by simp⟩
  |some l=>
   refine⟨l,0,rfl, ?_⟩;unfold jR uU at ho;split at ho
   ·cases ho
   ·obtain⟨n,hn,hg⟩:=List.exists_of_findSome?_eq_some ho;have:=(FH _ _ _ _ hg).1;simp at hn;simp at this;omega
theorem Ct (r:aC): ∃x y z:Int,uV r= .tuple [.int .i64 x, .int .i64 y, .int .i64 z]:=by
 unfold uV;split
 ·exact⟨_,_,_,rfl⟩
 ·cases mZ r r.ai.length 0 with
  |none=>exact⟨_,_,_,rfl⟩
  |some p=>exact⟨_,_,_,rfl⟩
theorem Kj (rs:List aC)(xs ys:List Int)(hl:rs.length≤3)(ha:xs.length=rs.length)(hk:ys.length=rs.length)(hall: ∀r∈rs,eL r∧(cv r=0→r.ai.length≤20))(hH:0<H.length)(Q:GX→bN→Prop)(hQ:Q (.exit 0) ⟨[(8,aN)],H,147⟩): ∀k i:Nat,i+k=rs.length→
  fM KC au 5 (lp Tryz.f5 0) [12,13,14,15] [8] Q [(12, .pure (.slice (rs.map aC.row))),(13, .pure (.slice (xs.map aE))),(14, .pure (.slice (ys.map aE))),(15, .pure (.int .i64 i))] H 147:=by
 intro k
 induction k with
 |zero=>
  intro i hi;have hnl: ¬i<rs.length:=(by omega);apply ax;conv=>arg 4;whnf
  simp [hnl,hH];simpa using hQ
 |succ k ih=>
  intro i hi;have hir:i<rs.length:=(by omega);have hia:i<xs.length:=(by omega);have hik:i<ys.length:=(by omega);have hw:=cU (x:=(i:Int)+1) (by omega) (by omega);have ih':=ih (i+1) (by omega);obtain⟨sh,h20⟩:=hall _ (List.getElem_mem hir);obtain⟨r,hr⟩: ∃r,rs[i]=r:=⟨_,rfl⟩;rw [hr]at sh h20;obtain⟨F1,o1,p2,p3,p7,O⟩:=Cq (c:=68) (H:=H) (F:=[]) r sh rfl rfl rfl;have m1:ao 68 6=24645:=(by decide);have m2:ao 68 10=41029:=(by decide);have m3:ao 68 22=90181:=(by decide);rw [m1,m2,m3]at o1 O;rw [m1]at p2;rw [m2]at p3;rw [m3]at p7;obtain⟨o,ho⟩: ∃o:List GV,[.pure (.int .i64 r.wide), .pure (.int .i64 r.deep),cH (H.length,24645) 2 (r.ah.map aS.row),cH (H.length,41029) 5 (r.aa.map aY.row), .pure (.slice (r.seen.map aE)), .pure (.slice (r.aP.map aE)),cH (H.length,90181) 9 (r.ai.map ak.row)]=o:=⟨_,rfl⟩;have hog:yi (H.length,24645) (H.length,41029) (H.length,90181) r= .agg o:=(by rw [←ho];rfl);have hol:o.length=7:=(by rw [←ho];rfl);have hot:Em H.length (.agg o):=by
   rw [←ho];intro x hx;simp only [List.mem_cons,List.not_mem_nil,or_false]at hx;rcases hx with rfl|rfl|rfl|rfl|rfl|rfl|rfl
   ·exact dL
   ·exact dL
   ·exact sR
   ·exact sR
   ·exact dL
   ·exact dL
   ·exact sR
  rw [hog]at O;obtain⟨F2,hF2⟩: ∃F2,F1.ins 16 (.box o)=F2:=⟨_,rfl⟩;have p16:F1.get 16=none:=(o1 16 (by decide) (by decide) (by decide)).trans rfl;have q16:F2.get 16=some (.box o):=(by rw [←hF2,Fr.a7]);have o2: ∀k,k≠16→F2.get k=F1.get k:=fun k h=>(by rw [←hF2,Fr.aw _ h]);have rd2:mC (F2::H) (.agg o) (.agg r.row):=by
   rw [←hog];exact rdO (fun h=>(o2 _ (by decide)).trans (p2 h)) (fun h=>(o2 _ (by decide)).trans (p3 h)) (fun h=>(o2 _ (by decide)).trans (p7 h))
  obtain⟨F3,r3,e3⟩:=m0 (f:=34) rfl rfl rfl [] (F:=F2) (H:=H) (.rd rd2 hot (.rd (g:= .pure (.int .i64 xs[i])) rfl dL (.rd (g:= .pure (.int .i64 ys[i])) rfl dL .nil)));have M:=(e3 79).trans (Kk (c:=79) (H:=[]++F3::H) sh h20 xs[i] ys[i] (by simp));have q16':=r3.box q16;have rd3:mC (F3::H) (.agg o) (.agg r.row):=nO (mm.sim (.cons r3 (mm.refl H))) rd2;have MR:=(ku (f:=35) (c:=95) (H:=F3::H) rfl rfl rfl [.agg r.row, .int .i64 xs[i], .int .i64 ys[i]]).trans (zj (c:=95) (H:=F3::H) sh xs[i] ys[i] (by simp));have FM:=gQ KC (f:=36) (c:=100) (H:=F3::H) (rec:=aG KC) rfl rfl (Pt rd3) rfl (by simp) (fun H hH=>Kl (c:=100) (H:=H) sh h20 hH) (En r);have FR:=Km (c:=109) (H:=F3::H) sh (by simp);obtain⟨l,e,hT,hTl⟩:=Cs r xs[i] ys[i];obtain⟨x,y,z,hFT⟩:=Ct r;rw [hT]at M MR;rw [hFT]at FM FR;have EA:=yK (c:=134) (H:=F3::H) l (by omega) (by simp);have ER:=DN (c:=143) (H:=F3::H) (g1:= .agg o) (g2:= .pure (.agg r.row)) r sh rd3 rfl (by simp);simp only [List.nil_append,List.map_cons,List.map_nil]at M MR;have hmo:XB (bC o) o= .agg o:=by
   rw [←ho];simp
  have hlo: ∀G,c9 G H.length o=(o,G):=fun G=>by
   rw [←ho];simp
  have spo: ∀z:List GV,z.length=7→aI z 0 o=o:=fun z hz=>Cr (by omega);have tko:List.take 7 o=o:=List.take_of_length_le (by omega);have hrow:(rs.map aC.row)[i]'(by simpa using hir)=r.row:=(by rw [List.getElem_map,hr]);have rl:r.row.length=7:=rfl;have tkr:List.take 7 r.row=r.row:=rfl;apply ax;conv=>arg 4;whnf
  simp [hir,hr,hia,hik,aE,rl,tkr,O,p16,Fr.a7,Fr.fe,hF2,q16,q16',hol,hmo,hlo,spo,tko,M,MR,FM,FR,EA,ER,hw,hH];simpa using ih'
end
theorem af4 (r:aC)(act kind:Int)(nums:List Int)(hnums:nums.length≤9223372036854775807):
  ∃H',aL KC (aG KC) 5 [.pure (.agg r.row), .pure (.int .i64 act), .pure (.int .i64 kind), .pure (.slice (nums.map aE))] 0 [[]]=some (.pure (.bool true),H'):=by
 suffices hs:kW (aL KC (aG KC) 5 [.pure (.agg r.row), .pure (.int .i64 act), .pure (.int .i64 kind), .pure (.slice (nums.map aE))] 0 [[]]) (fun x=>x.1= .pure (.bool true))by
  obtain⟨⟨v,H'⟩,h1,rfl⟩:=hs;exact⟨H',h1⟩
 refine aW KC au Tryz.func5 rfl rfl acW rfl rfl rfl (by simp) (by simp) ?_;obtain⟨b,hb,V⟩:=PM (H:=[[(4,aD r)],[]]) r (by simp);simp only [aD]at V;rw [cI]at V⊢
 cases b with
 |true=>
  simp [V,Bh,ae]
 |false=>
  obtain⟨hb1,hb8⟩:=hb rfl;obtain⟨b1,b2,b3,b4,b5⟩:=wD hb1;have sh:eL r:=⟨by omega,by omega,by omega,by omega,by omega⟩;obtain⟨w,eB⟩:=Jg (c:=31) (H:=[[(4,aD r)],[]]) nums hnums (by simp) (by simp [ao]);have k31:ao 31 6=24608:=(by decide);simp only [List.length_cons,List.length_nil,Nat.zero_add,Nat.add_sub_cancel,k31]at eB;have hfin: ∀w,aj.set [[(4,aD r)],[]] (1,24608) (bG w)=[[(4,aD r),(24608,bG w)],[]]:=fun w=>(by simp);rw [hfin]at eB;have hBx: ∀w,fZ [[(4,aD r),(24608,bG w)],[]] (1,24608):=fun w=>⟨w,by simp,by simp⟩;obtain⟨r0,ai,s,wd,hRB,eR⟩:=HT (c:=33) (hBx w) (sd:=2) (N:=4) (by omega) (by omega) (by omega);have hset: ∀w x,aj.set [[(4,aD r),(24608,bG w)],[]] (1,24608) (bG x)=[[(4,aD r),(24608,bG x)],[]]:=fun w x=>(by simp);rw [hset]at eR;change aL KC (aG KC) 11 [.aA (1,24608) 0, .pure (.int .i64 2), .pure (.int .i64 4)] 33 _=_ at eR;obtain⟨m,hm⟩: ∃m,HU r0 ai s=m:=⟨_,rfl⟩;have lnb:m.ah.length≤3∧m.aa.length≤4∧m.aP.length≤3∧m.ai.length≤14∧m.seen=[]∧m.ah≠[]∧1≤m.wide∧m.wide≤3∧1≤m.deep∧m.deep≤3:=by
   rw [←hm];refine⟨hRB.room.p3, ?_,hRB.room.ll,hRB.len,hRB.room.seen,hRB.room.p0,hRB.room.w1,hRB.room.w3,hRB.room.d1,hRB.room.d3⟩;show (oM _ _ _).length≤4;rw [Cu];exact hRB.room.t4
  rw [hm]at eR;obtain⟨l1,l2,l3,l4,l5,l6,l7,l8,l9,l10⟩:=lnb;have mS:eL m:=⟨by omega,by omega,by rw [l5];simp,by omega,by omega⟩;have hwd:1≤m.wide*m.deep∧m.wide*m.deep≤9:=by
   constructor
   ·have:=Int.mul_le_mul l7 l9 (by omega) (by omega);omega
   ·have:=Int.mul_le_mul l8 l10 (by omega) (by omega);omega
  obtain⟨n,hn⟩: ∃n:Nat,m.wide*m.deep=n:=⟨(m.wide*m.deep).toNat,by omega⟩;have hBx2:fZ [[(4,aD r),(10,aD m),(24608,bG wd)],[]] (1,24608):=⟨wd,by simp,by simp⟩;obtain⟨sn,wd2,s1,s2,s3,eW⟩:=Ek (c:=36) hBx2 mS (n:=n) (by rw [hn];exact cU (by omega) (by omega)) (by omega);have hset2: ∀x,aj.set [[(4,aD r),(10,aD m),(24608,bG wd)],[]] (1,24608) (bG x)=[[(4,aD r),(10,aD m),(24608,bG x)],[]]:=fun x=>(by simp);rw [hset2]at eW;obtain⟨wt,hwt⟩: ∃wt:aC,({m with seen:=sn}:aC)=wt:=⟨_,rfl⟩;have wS:eL wt:=by rw [←hwt];exact⟨mS.p,mS.t,by show sn.length≤_;omega,mS.l,mS.a⟩
  have wA:wt.ai.length≤14:=(by rw [←hwt];exact l4);rw [hwt]at eW;have hBx3: ∀x,fZ [[(4,aD r),(10,aD m),(11,aD wt),(24608,bG x)],[]] (1,24608):=fun x=>⟨x,by simp,by simp⟩;have hw3: ∀x,bJ [[(4,aD r),(10,aD m),(11,aD wt),(24608,bG x)],[]] (1,24608)=x:=fun x=>(by simp [bJ,bG]);have hset3: ∀w x,aj.set [[(4,aD r),(10,aD m),(11,aD wt),(24608,bG w)],[]] (1,24608) (bG x)=[[(4,aD r),(10,aD m),(11,aD wt),(24608,bG x)],[]]:=fun w x=>(by simp);have U:=fun c x=>kJ (c:=c) (n:=(m.ai.length:Int)) (hBx3 x) (by omega);have A:=fun c x=>tB (c:=c) (lo:=1) (hi:=3) (hBx3 x);simp only [hw3,hset3]at U A;simp only [aD]at V eB eR eW U A;rw [cI]at eR eW;rw [cI]at eW;simp [V,eB,eR,eW,U,A];have MS:eL m∧(cv m=0→m.ai.length≤20):=⟨mS,fun _=>by omega⟩;have ML:=fun(xs ys:List Int) (h1:xs.length=3) (h2:ys.length=3) (H:aj) (hH:0<H.length) Q hQ=>Kj (H:=H) [r,m,wt] xs ys (Nat.le_refl _) h1 h2 (fun x hx=>by
   simp only [List.mem_cons,List.not_mem_nil,or_false]at hx;rcases hx with rfl|rfl|rfl
   ·exact⟨sh,fun h=>by have:=hb8 h;omega⟩
   ·exact MS
   ·exact⟨wS,fun _=>by omega⟩) hH Q hQ 3 0 rfl
  simp only [List.map_cons,List.map_nil,aE]at ML;rw [cI,cI,cI]at ML;refine ML [act,_,_] [kind,_,kind] rfl rfl _ (by simp) _ ?_;simp [Bh,ae]
section
open Go.ChangeShapes Go.WideShapes Go.RowKit Go.ChangeAt
def qu (P:Program):Nat→TypeId→List PV→Prop
 |0,_,_=>False
 |n+1,t,ps=>
  match P.underlying t with
  |some .bool=> ∃b,ps=[.bool b]
  |some (.int k)=> ∃m,(Lit.int k m).wf=true∧ps=[.int k m]
  |some .string=> ∃l:List UInt8,l.length≤maxLen∧ps=[.str l]
  |some (.slice e)=> ∃rows,rows.length≤maxLen∧(∀r∈rows,r.length=P.cellsOf e∧qu P n e r)∧ps=[.slice rows]
  |some (.struct fs)=>ps.length=P.cellsOf t∧ ∀f∈fs.toList,qu P n f.type ((ps.drop f.offset).take (P.cellsOf f.type))
  |some (.array m e)=>ps.length=P.cellsOf t∧ ∀i,i<m→qu P n e ((ps.drop (i*P.cellsOf e)).take (P.cellsOf e))
  |_=>False
def fA (P:Program)(tot:Nat):Nat→List (Nat×TypeId)→Bool
 |o,[]=>o==tot
 |o,(off,t)::r=>off==o && fA P tot (o+P.cellsOf t) r
def ke (P:Program):Nat→TypeId→Bool
 |0,_=>false
 |n+1,t=>
  match P.underlying t with
  |some .bool|some (.int _)|some .string=>true
  |some (.slice e)=>decide (0<P.cellsOf e) && ke P n e
  |some (.struct fs)=>fA P (P.cellsOf t) 0 (fs.toList.map fun f=>(f.offset,f.type)) && fs.toList.all fun f=>ke P n f.type
  |some (.array m e)=>fA P (P.cellsOf t) 0 ((List.range m).map fun i=>(i*P.cellsOf e,e)) && ke P n e
  |_=>false
def S0 (w:World):Nat→Prop:=fun b=>b<w.heap.size
def xj (w:World)(cs:List Value)(ps:List PV):Prop:=ps.length=cs.length∧ ∀j,j<cs.length→(cs.getD j undef).oneCell'=true∧cb w (S0 w) (cs.getD j undef) (ps.getD j .dead)
theorem xj.append {w:World}{a b:List Value}{p q:List PV}(h:xj w a p)(k:xj w b q):xj w (a++b) (p++q):=by
 obtain⟨h1,h2⟩:=h;obtain⟨k1,k2⟩:=k;refine⟨by simp [h1,k1],fun j hj=> ?_⟩;by_cases hja:j<a.length
 ·have e1:(a++b).getD j undef=a.getD j undef:=(by simp [List.getD_eq_getElem?_getD,List.getElem?_append_left hja]);have e2:(p++q).getD j .dead=p.getD j .dead:=by simp [List.getD_eq_getElem?_getD,List.getElem?_append_left (show j<p.length by omega)]
  rw [e1,e2];exact h2 j hja
 ·have e1:(a++b).getD j undef=b.getD (j-a.length) undef:=by simp [List.getD_eq_getElem?_getD,List.getElem?_append_right (show a.length≤j by omega)]
  have e2:(p++q).getD j .dead=q.getD (j-a.length) .dead:=by rw [List.getD_eq_getElem?_getD,List.getElem?_append_right (show p.length≤j by omega),h1,List.getD_eq_getElem?_getD]
  rw [e1,e2];exact k2 _ (by simp at hj;omega)
theorem qm {w : World} {v : Value} {p : PV} (h1 : v.oneCell' = true) (h : cb w (S0 w) v p) : xj w [v] [p] :=
  ⟨rfl, fun j hj => by have : j = 0 := by simpa using hj
                       subst this; exact ⟨h1, h⟩⟩
section
variable {P:Program} {w:World}
theorem rG (n : Nat) {cs : List Value} : ∀ (l : List (Nat × TypeId)) (o : Nat), fA P cs.length o l = true →
    (∀ x ∈ l, ∃ ps, xj w ((cs.drop x.1).take (P.cellsOf x.2)) ps ∧ qu P n x.2 ps) →
    o ≤ cs.length ∧ ∃ ps, xj w (cs.drop o) ps ∧ ∀ x ∈ l, o ≤ x.1 ∧ qu P n x.2 ((ps.drop (x.1 - o)).take (P.cellsOf x.2))
  | [], o, hc, h => by
    simp only [fA, beq_iff_eq] at hc
    subst hc
    exact ⟨Nat.le_refl _, [], by simp [xj], by simp⟩
  | (off, t) :: r, o, hc, h => by
    simp only [fA, Bool.and_eq_true, beq_iff_eq] at hc
    obtain ⟨rfl, hc⟩ := hc
    obtain ⟨hle, ps, h1, h2⟩ := rG n r _ hc (fun x hx => h x (List.mem_cons_of_mem _ hx))
    obtain ⟨p, q1, q2⟩ := h (off, t) (List.mem_cons_self ..)
    simp only at q1 q2
    have hpl : p.length = P.cellsOf t := by rw [q1.1, List.length_take, List.length_drop]; omega
    refine ⟨by omega, p ++ ps, ?_, fun x hx => ?_⟩
    · have := q1.append h1
      rw [← List.drop_drop, List.take_append_drop] at this
      exact this
    · rcases List.mem_cons.1 hx with rfl | hx
      · refine ⟨Nat.le_refl _, ?_⟩
        simp only [Nat.sub_self, List.drop_zero]
        rw [← hpl, List.take_left]
        exact q2
      · obtain ⟨g1, g2⟩ := h2 x hx
        refine ⟨by omega, ?_⟩
        have e : (p ++ ps).drop (x.1 - off) = ps.drop (x.1 - (off + P.cellsOf t)) := by
          rw [List.drop_append, List.drop_of_length_le (by omega), List.nil_append, hpl, Nat.sub_sub]
        rw [e]; exact g2
theorem Eo {H:Type}{enc:TypeId×Value→H}: ∀(n:Nat) (t:TypeId) (fuel:Nat) (cs:List Value) (x:DataW H×List MemPlace),ke P n t=true→
    DataW.trod enc P w 0 (fun _=>true) true fuel t cs=some x→ ∃ps,xj w cs ps∧qu P n t ps:=by
  intro n
  induction n with
  |zero=>intro t fuel cs x h;simp [ke]at h
  |succ n ih=>
    intro t fuel cs x h hx;unfold ke at h;unfold qu;split at h
    · rename_i ht
      obtain⟨b,rfl,_⟩:=DataW.trod_bool ht hx;exact⟨[.bool b],qm rfl (.bool b),b,rfl⟩
    · rename_i k ht
      obtain⟨m,rfl,_,hw⟩:=DataW.trod_int ht hx;exact⟨[.int k m],qm rfl (.int k m),m,hw,rfl⟩
    · rename_i ht
      obtain⟨s,rfl,_,hs⟩:=DataW.trod_string ht hx;exact⟨[.str s.data.toList],qm rfl (.str s),_,by simpa using hs,rfl⟩
    · rename_i e ht
      simp only [Bool.and_eq_true,decide_eq_true_eq]at h;obtain⟨he,hp⟩:=h;rcases DataW.trod_slice ht hx with ⟨rfl,_⟩|⟨a,len,cap,elems,rest,m,_,rfl,_,hb,hl,hm,hlen,hel,_,_⟩
      · exact⟨[.slice []],qm rfl (.fV none 0),[],by simp,by simp,rfl⟩
      · by_cases h0:len=0
        · subst h0
          exact⟨[.slice []],qm rfl (.fV _ _),[],by simp,by simp,rfl⟩
        · have each: ∀i,i<len→ ∃c ps,w.cells? 0 (a.add (i*P.cellsOf e)) (P.cellsOf e)=some c∧xj w c ps∧qu P n e ps:=by
            intro i hi;have h1:=hel i hi;rw [List.getElem?_eq_getElem (show i<elems.length by omega),Option.bind_eq_some_iff]at h1
            obtain⟨c,h1,h2⟩:=h1;obtain⟨ps,h3,h4⟩:=ih e m c _ hp h2;exact⟨c,ps,h1,h3,h4⟩
          have ch: ∃fc:Nat→List Value,∃fp:Nat→List PV,∀i,i<len→w.cells? 0 (a.add (i*P.cellsOf e)) (P.cellsOf e)=some (fc i)∧xj w (fc i) (fp i)∧qu P n e (fp i):=by
            refine⟨fun i=>if h:i<len then Classical.choose (each i h)else [],fun i=>if h:i<len then Classical.choose (Classical.choose_spec (each i h))else [],fun i hi=> ?_⟩;simp only [hi,↓reduceDIte];exact Classical.choose_spec (Classical.choose_spec (each i hi))
          obtain⟨fc,fp,hf⟩:=ch;have hcell: ∀i j,i<len→j<P.cellsOf e→w.cell? (a.add (i*P.cellsOf e+j))=some ((fc i).getD j undef):=by
            intro i j hi hj;obtain⟨h1,_⟩:=hf i hi;obtain⟨_,g1,g2⟩:=World.cells?_some h1;have:=g2 j hj;rw [List.getElem?_eq_getElem (by omega)]at this;have e1:(a.add (i*P.cellsOf e)).add j=a.add (i*P.cellsOf e+j):=by
              unfold Addr.add;by_cases c1:i*P.cellsOf e=0<;>by_cases c2:j=0<;>simp_all [Nat.add_assoc]
            rw [e1]at this;rw [this,List.getD_eq_getElem?_getD,List.getElem?_eq_getElem (by omega)];rfl
          obtain⟨b,off,spot⟩:=a;have hsp:spot=none:=by
            have:=World.cell?_spot (hcell 0 0 (by omega) he);simpa [Addr.add]using this
          subst hsp;have hcell': ∀i j,i<len→j<P.cellsOf e→w.cell? ⟨b,off+(i*P.cellsOf e+j),none⟩=some ((fc i).getD j undef):=by
            intro i j hi hj;have:=hcell i j hi hj;unfold Addr.add at this;split at this
            · rename_i c;rw [c,Nat.add_zero];exact this
            · exact this
          have hfl: ∀i,i<len→(fp i).length=P.cellsOf e∧(fc i).length=P.cellsOf e:=by
            intro i hi;obtain⟨h1,h2,_⟩:=hf i hi;obtain⟨_,g1,_⟩:=World.cells?_some h1;exact⟨h2.1.trans g1,g1⟩
          have hrows:((List.range len).map fp).length=len:=(by simp);refine⟨[.slice ((List.range len).map fp)],qm rfl ?_,_,by rw [hrows];omega,fun r hr=> ?_,rfl⟩
          · have:=cb.slice (w:=w) (S:=S0 w) b off cap (P.cellsOf e) ((List.range len).map fp) (fun i j=>(fc i).getD j undef) (by
                have:=hcell' 0 0 (by omega) he;unfold S0;refine Classical.byContradiction fun hn=> ?_;have hz:w.heap[b]? =none:=Array.getElem?_eq_none (by omega);simp [World.cell?,hz]at this) he
              (fun r hr=>by obtain⟨i,hi,rfl⟩:=List.mem_map.1 hr;exact(hfl i (by simpa using hi)).1)
              (fun i j hi hj=>hcell' i j (by simpa using hi) hj)
              (fun i j hi hj=>by
                have hi':i<len:=(by simpa using hi);exact((hf i hi').2.1.2 j (by rw [(hfl i hi').2];exact hj)).1)
              (fun i j hi hj=>by
                have hi':i<len:=(by simpa using hi);have e1:((List.range len).map fp).getD i []=fp i:=(by simp [List.getD_eq_getElem?_getD,hi']);rw [e1];exact((hf i hi').2.1.2 j (by rw [(hfl i hi').2];exact hj)).2)
              (by rw [hrows];exact hl)
            rw [hrows]at this;exact this
          · obtain⟨i,hi,rfl⟩:=List.mem_map.1 hr
            have hi':i<len:=(by simpa using hi);exact⟨(hfl i hi').1,(hf i hi').2.2⟩
    · rename_i fs ht
      simp only [Bool.and_eq_true,List.all_eq_true]at h;obtain⟨hc,hp⟩:=h;obtain⟨xs,m,_,_,hl,hlen,hfld⟩:=DataW.trod_struct ht hx;rw [←hl]at hc;obtain⟨_,ps,h1,h2⟩:=rG (w:=w) n _ 0 hc (fun y hy=>by
        obtain⟨f,hf,rfl⟩:=List.mem_map.1 hy;obtain⟨i,hi,e⟩:=List.getElem_of_mem hf;have hi':i<fs.size:=(by simpa using hi);have h3:=hfld i f (by rw [Array.getElem?_eq_getElem hi'];rw [←e];simp);rw [List.getElem?_eq_getElem (by omega)]at h3;obtain⟨p,q1,q2⟩:=ih f.type m _ _ (hp f hf) h3;exact⟨p,q1,q2⟩)
      rw [List.drop_zero]at h1;refine⟨ps,h1,by rw [h1.1,hl],fun f hf=> ?_⟩;exact(h2 (f.offset,f.type) (List.mem_map.2 ⟨f,hf,rfl⟩)).2
    · rename_i k e ht
      simp only [Bool.and_eq_true]at h;obtain⟨hc,hp⟩:=h;obtain⟨xs,m,_,_,hl,hlen,hfld⟩:=DataW.trod_array ht hx;rw [←hl]at hc;obtain⟨_,ps,h1,h2⟩:=rG (w:=w) n _ 0 hc (fun y hy=>by
        obtain⟨i,hi,rfl⟩:=List.mem_map.1 hy;have hi':i<k:=(by simpa using hi);have h3:=hfld i hi';rw [List.getElem?_eq_getElem (by omega)]at h3;obtain⟨p,q1,q2⟩:=ih e m _ _ hp h3;exact⟨p,q1,q2⟩)
      rw [List.drop_zero]at h1;refine⟨ps,h1,by rw [h1.1,hl],fun i hi=> ?_⟩;exact(h2 (i*P.cellsOf e,e) (List.mem_map.2 ⟨i,by simpa using hi,rfl⟩)).2
    · cases h
def ya (P:Program)(n:Nat)(t:TypeId)(p:PV):Prop:=
 match P.underlying t with
 |some (.struct _)|some (.array _ _)=> ∃ps,p= .agg ps∧qu P n t ps
 |_=>qu P n t [p]
def yG (P:Program)(n:Nat):List TypeId→List PV→Prop
 | [],[]=>True
 |t::ts,p::ps=>ya P n t p∧yG P n ts ps
 |_,_=>False
def PO:Mu:=fun _ _=>none
theorem PQ {n:Nat}{t:TypeId}{ps:List PV}(h:qu P n t ps)(hs: ∀fs,P.underlying t≠some (.struct fs))(ha: ∀m e,P.underlying t≠some (.array m e)): ∃p,ps=[p]:=by
 cases n with
 |zero=>exact h.elim
 |succ n=>
  unfold qu at h;split at h
  ·obtain⟨b,rfl⟩:=h;exact⟨_,rfl⟩
  ·obtain⟨m,_,rfl⟩:=h;exact⟨_,rfl⟩
  ·obtain⟨m,_,rfl⟩:=h;exact⟨_,rfl⟩
  ·obtain⟨m,_,_,rfl⟩:=h;exact⟨_,rfl⟩
  ·rename_i ht;exact absurd ht (hs _)
  ·rename_i ht;exact absurd ht (ha _ _)
  ·exact h.elim
theorem PR {H:Type} {enc:TypeId×Value→H} {n:Nat} {t:TypeId} {v:Value} {d:DataW H} {ps0:List MemPlace} {base:Nat} (hp:ke P n t=true) (hok:Value.okWide P w .any base t v)
  (h:DataW.Trod enc P w 0 (fun _=>true) true t v d ps0): ∃p,aJ w (S0 w) PO 0 v (.pure p)∧ya P n t p:=by
 obtain⟨fuel,hf⟩:=h;obtain⟨ps,h1,h2⟩:=Eo n t fuel _ _ hp hf;have agg: ∀cs,v= .agg cs→ ∃p,aJ w (S0 w) PO 0 v (.pure p)∧ ∃ps,p= .agg ps∧qu P n t ps:=by
  intro cs e;subst e;simp only [Value.cells]at h1;refine⟨.agg ps, .pure _ _ (.agg cs ps (by simpa using h1.1.symm) (fun j hj=> ?_) (fun j hj=> ?_)),ps,rfl,h2⟩
  ·have:=(h1.2 j (by rw [←h1.1];exact hj)).1;simpa [List.getD_eq_getElem?_getD]using this
  ·have:=(h1.2 j (by rw [←h1.1];exact hj)).2;simpa [List.getD_eq_getElem?_getD]using this
 unfold ya;split
 ·rename_i fs ht;obtain⟨cs,e,_⟩:=okWide_struct ht hok;exact agg cs e
 ·rename_i m e ht;simp only [Value.okWide,ht]at hok;obtain⟨cs,e,_⟩:=hok;exact agg cs e
 ·rename_i hs ha;obtain⟨p,rfl⟩:=PQ h2 (fun fs e=>hs fs e) (fun m e e'=>ha m e e');have hv:v.cells.toList=[v]:=by
   have hl:=h1.1;cases v<;>first|rfl|skip
   ·exfalso;rename_i cs
    cases n with
    |zero=>exact h2.elim
    |succ n=>
     unfold ke at hp;simp only [Value.okWide]at hok;split at hp<;>rename_i ht<;>first|(simp [Cell.okWide,Cell.ok,ht]at hok;done)|(exact absurd ht (hs _))|(exact absurd ht (ha _ _))|(cases hp;done)|skip
  rw [hv]at h1;exact⟨p, .pure _ _ (h1.2 0 (by simp)).2,h2⟩
end
end
section
open Go.WideShapes
def mo (f:TypeId→Option (List SK)):List TypeId→Option (List SK)
 | []=>some []
 |t::r=>match f t,mo f r with|some a,some b=>some (a++b)|_,_=>none
def ij (P:Program):Nat→TypeId→Option (List SK)
 |0,_=>none
 |n+1,t=>
  match P.underlying t with
  |some .bool=>if P.cellsOf t=1 then some [.bool]else none
  |some (.int k)=>if P.cellsOf t=1 then some [.int k]else none
  |some .string=>if P.cellsOf t=1 then some [.str]else none
  |some (.struct fs)=>if fA P (P.cellsOf t) 0 (fs.toList.map fun f=>(f.offset,f.type)) && fs.toList.all (·.name != "_") && !P.stoodInHeld t then mo (ij P n) (fs.toList.map (·.type))else none
  |some (.array m e)=>if decide (0<m) && fA P (P.cellsOf t) 0 ((List.range m).map fun i=>(i*P.cellsOf e,e))then mo (ij P n) ((List.range m).map fun _=>e)else none
  |_=>none
def valOf (P:Program)(t:TypeId)(l:List Value):Value:=
 match P.underlying t with
 |some (.struct _)|some (.array _ _)=> .agg l.toArray
 |_=>l.headD undef
theorem od: ∀(k1 k2:List SK) (a b:List PV) (q:Bool),b9 (k1++k2) a b=some q→
  ∃q1 q2,b9 k1 (a.take k1.length) (b.take k1.length)=some q1∧b9 k2 (a.drop k1.length) (b.drop k1.length)=some q2∧q=(q1 && q2)
 | [],k2,a,b,q,h=>⟨true,q,rfl,h,by simp⟩
 |s::ks,k2,[],b,q,h=>by cases s<;>cases b<;>simp [b9]at h
 |s::ks,k2,x::a,[],q,h=>by cases s<;>cases x<;>simp [b9]at h
 |s::ks,k2,x::a,y::b,q,h=>by
  have key: ∀q',b9 (ks++k2) a b=some q'→ ∃q1 q2,b9 ks (a.take ks.length) (b.take ks.length)=some q1∧b9 k2 (a.drop ks.length) (b.drop ks.length)=some q2∧q'=(q1 && q2):=
   fun q' h=>od ks k2 a b q' h
  cases s with
  |int k=>
   cases x<;>cases y<;>simp only [List.cons_append,b9]at h
   all_goals first|(cases h;done)|skip
   split at h
   ·rename_i hk;split at h
    ·rename_i q' hq';obtain⟨q1,q2,e1,e2,rfl⟩:=key q' hq';simp only [Option.some.injEq]at h;exact⟨_,q2,by simp only [List.length_cons,List.take_succ_cons,b9,hk,and_self,if_true,e1];rfl,by simpa using e2,by rw [←h,Bool.and_assoc]⟩
    ·cases h
   ·cases h
  |bool=>
   cases x<;>cases y<;>simp only [List.cons_append,b9]at h
   all_goals first|(cases h;done)|skip
   split at h
   ·rename_i q' hq';obtain⟨q1,q2,e1,e2,rfl⟩:=key q' hq';simp only [Option.some.injEq]at h;exact⟨_,q2,by simp only [List.length_cons,List.take_succ_cons,b9,e1];rfl,by simpa using e2,by rw [←h,Bool.and_assoc]⟩
   ·cases h
  |str=>
   cases x<;>cases y<;>simp only [List.cons_append,b9]at h
   all_goals first|(cases h;done)|skip
   split at h
   ·rename_i q' hq';obtain⟨q1,q2,e1,e2,rfl⟩:=key q' hq';simp only [Option.some.injEq]at h;exact⟨_,q2,by simp only [List.length_cons,List.take_succ_cons,b9,e1];rfl,by simpa using e2,by rw [←h,Bool.and_assoc]⟩
   ·cases h
theorem j3: ∀(k:List SK) (a b:List PV) (q:Bool),b9 k a b=some q→a.length=k.length∧b.length=k.length
 | [],a,b,q,h=>by cases a<;>cases b<;>simp_all [b9]
 |s::ks,[],b,q,h=>by cases s<;>cases b<;>simp [b9]at h
 |s::ks,x::a,[],q,h=>by cases s<;>cases x<;>simp [b9]at h
 |s::ks,x::a,y::b,q,h=>by
  have key: ∀q',b9 ks a b=some q'→(x::a).length=(s::ks).length∧(y::b).length=(s::ks).length:=fun q' h=>by
   have:=j3 ks a b q' h;simp [this.1,this.2]
  cases s with
  |int k=>
   cases x<;>cases y<;>simp only [b9]at h
   all_goals first|(cases h;done)|skip
   split at h
   ·split at h
    ·rename_i q' hq';exact key q' hq'
    ·cases h
   ·cases h
  |bool=>
   cases x<;>cases y<;>simp only [b9]at h
   all_goals first|(cases h;done)|skip
   split at h
   ·rename_i q' hq';exact key q' hq'
   ·cases h
  |str=>
   cases x<;>cases y<;>simp only [b9]at h
   all_goals first|(cases h;done)|skip
   split at h
   ·rename_i q' hq';exact key q' hq'
   ·cases h
section
variable {P:Program}
theorem jm {f:TypeId→Option (List SK)}{t:TypeId}{r:List TypeId}{ks:List SK}(h:mo f (t::r)=some ks): ∃a b,f t=some a∧mo f r=some b∧ks=a++b:=by
 simp only [mo]at h;split at h
 ·rename_i a b h1 h2;simp only [Option.some.injEq]at h;exact⟨a,b,h1,h2,h.symm⟩
 ·cases h
theorem rH {n : Nat} (hf : ∀ t ks, ij P n t = some ks → ks.length = P.cellsOf t) : ∀ (l : List (Nat × TypeId)) (o tot : Nat) (ks : List SK), fA P tot o l = true → mo (ij P n) (l.map (·.2)) = some ks → o + ks.length = tot
  | [], o, tot, ks, h, hk => by
    simp only [List.map_nil, mo, Option.some.injEq] at hk
    subst hk
    simpa [fA] using h
  | (off, t) :: r, o, tot, ks, h, hk => by
    simp only [fA, Bool.and_eq_true, beq_iff_eq] at h
    obtain ⟨a, b, h1, h2, rfl⟩ := jm (by simpa using hk)
    have := rH hf r _ _ _ h.2 h2
    rw [List.length_append, hf t a h1]
    omega
theorem na : ∀ (l : List (Nat × TypeId)) (o tot : Nat), fA P tot o l = true → o ≤ tot
  | [], o, tot, h => by simp only [fA, beq_iff_eq] at h; omega
  | (off, t) :: r, o, tot, h => by
    simp only [fA, Bool.and_eq_true, beq_iff_eq] at h
    have := na r _ _ h.2
    omega
theorem jw: ∀(n:Nat) (t:TypeId) (ks:List SK),ij P n t=some ks→ks.length=P.cellsOf t
 |0,t,ks,h=>by simp [ij]at h
 |n+1,t,ks,h=>by
  unfold ij at h;split at h
  ·split at h
   ·rename_i e;simp at h;subst h;simp [e]
   ·cases h
  ·split at h
   ·rename_i e;simp at h;subst h;simp [e]
   ·cases h
  ·split at h
   ·rename_i e;simp at h;subst h;simp [e]
   ·cases h
  ·split at h
   ·rename_i hc;simp only [Bool.and_eq_true]at hc;have:=rH (jw n) _ 0 _ ks hc.1.1 (by rw [List.map_map];exact h);omega
   ·cases h
  ·split at h
   ·rename_i hc;simp only [Bool.and_eq_true]at hc;have:=rH (jw n) _ 0 _ ks hc.2 (by rw [List.map_map];exact h);omega
   ·cases h
  ·cases h
theorem zk {n:Nat}{t:TypeId}{ks:List SK}(h:ij P n t=some ks): ∃kd,P.underlying t=some kd:=by
 cases n with
 |zero=>simp [ij]at h
 |succ n=>
  cases hu:P.underlying t with
  |none=>simp [ij,hu]at h
  |some kd=>exact⟨kd,rfl⟩
theorem iK (w:World){n:Nat}{t:TypeId}{ks:List SK}(h:ij P n t=some ks)(xs:List Value)(off:Nat)(hlen:off+P.cellsOf t≤xs.length):
  (part t xs.toArray off).run P w= .ok (valOf P t ((xs.drop off).take (P.cellsOf t))) w:=by
 cases n with
 |zero=>simp [ij]at h
 |succ n=>
  unfold ij at h;have hone:P.cellsOf t=1→((xs.drop off).take (P.cellsOf t)).headD undef=xs.getD off undef∧off<xs.length:=by
   intro e;rw [e]at hlen⊢;refine⟨?_,by omega⟩;simp [List.headD_eq_head?_getD,List.head?_take,List.head?_drop,List.getD_eq_getElem?_getD]
  have hagg: ∀kd,P.underlying t=some kd→(∃fs,kd= .struct fs)∨(∃m e,kd= .array m e)→(part t xs.toArray off).run P w= .ok (.agg ((xs.drop off).take (P.cellsOf t)).toArray) w:=by
   intro kd hu hk;obtain⟨i,hi⟩:=info_of_underlying hu;have e:xs.toArray.extract off (off+P.cellsOf t)=((xs.drop off).take (P.cellsOf t)).toArray:=by
    apply Array.toList_inj.1;simp [Array.toList_extract,List.extract]
   rcases hk with ⟨fs,rfl⟩|⟨m,e',rfl⟩<;>simp [part,isAgg,run_underlying hu,run_sizeOf w hi,e]
  unfold valOf;split at h
  ·rename_i ht;split at h
   ·rename_i e;rw [(hone e).1];have:=(hone e).2;simp [part,isAgg,run_underlying ht,this,List.getD_eq_getElem?_getD,ht]
   ·cases h
  ·rename_i ht;split at h
   ·rename_i e;rw [(hone e).1];have:=(hone e).2;simp [part,isAgg,run_underlying ht,this,List.getD_eq_getElem?_getD,ht]
   ·cases h
  ·rename_i ht;split at h
   ·rename_i e;rw [(hone e).1];have:=(hone e).2;simp [part,isAgg,run_underlying ht,this,List.getD_eq_getElem?_getD,ht]
   ·cases h
  ·rename_i fs ht;simp only [ht];exact hagg _ ht (.inl ⟨_,rfl⟩)
  ·rename_i m e ht;simp only [ht];exact hagg _ ht (.inr ⟨_,_,rfl⟩)
  ·cases h
def Ko (P:Program)(n d:Nat)(t:TypeId):Prop:= ∀ks,ij P n t=some ks→ ∀(a b:List PV) (q:Bool),b9 ks a b=some q→
 ∀w,(Op.equalIn d t (valOf P t (a.map cz)) (valOf P t (b.map cz))).run P w= .ok q w
def af5 (P:Program)(n d:Nat)(t:TypeId):Prop:= ∀ks,ij P n t=some ks→ ∀(a:List PV),a.length=ks.length→ ∀e w,(Instr.checkKey e d t (valOf P t (a.map cz))).run P w= .ok () w
theorem mq {n d:Nat}(ih: ∀t,Ko P n d t): ∀(fs:List Field) (o:Nat) (ks:List SK) (a b:List PV) (q:Bool),fA P a.length o (fs.map fun f=>(f.offset,f.type))=true→(fs.all (·.name != "_"))=true→
  mo (ij P n) (fs.map (·.type))=some ks→a.length=b.length→b9 ks (a.drop o) (b.drop o)=some q→ ∀w,(Op.eqFields d (a.map cz).toArray (b.map cz).toArray fs).run P w= .ok q w
 | [],o,ks,a,b,q,hc,hn,hk,hl,he,w=>by
  simp only [List.map_nil,mo,Option.some.injEq]at hk;subst hk;have hl1:=j3 _ _ _ _ he;have e1:a.drop o=[]:=List.length_eq_zero_iff.1 hl1.1;have e2:b.drop o=[]:=List.length_eq_zero_iff.1 hl1.2;rw [e1,e2]at he;simp only [b9,Option.some.injEq]at he;subst he;simp [Op.eqFields]
 |f::fs,o,ks,a,b,q,hc,hn,hk,hl,he,w=>by
  simp only [List.map_cons,fA,Bool.and_eq_true,beq_iff_eq]at hc;obtain⟨rfl,hc⟩:=hc;simp only [List.all_cons,Bool.and_eq_true,bne_iff_ne,ne_eq]at hn;obtain⟨k1,k2,h1,h2,rfl⟩:=jm (by simpa using hk);obtain⟨q1,q2,g1,g2,rfl⟩:=od k1 k2 _ _ q he;have hk1:=jw n _ _ h1;have hle:=na _ _ _ hc;have hkl:=j3 _ _ _ _ he;simp only [List.length_drop,List.length_append]at hkl;rw [List.drop_drop,List.drop_drop]at g2;rw [hk1]at g1 g2;have p1:=iK w h1 (a.map cz) f.offset (by simp;omega);have p2:=iK w h1 (b.map cz) f.offset (by simp;omega);rw [←List.map_drop,←List.map_take]at p1 p2;have p3:=ih f.type k1 h1 _ _ q1 g1 w;have rest:=mq ih fs _ k2 a b q2 hc (by simpa using hn.2) h2 hl g2 w;simp only [Op.eqFields,hn.1,ne_eq,not_false_eq_true,if_true,Sem.run_bind,p1,p2,p3,Result.andThen_ok];cases q1
  ·simp
  ·simpa using rest
theorem nb {n d:Nat}{e:TypeId}(ih: ∀t,Ko P n d t): ∀(is:List Nat) (o:Nat) (ks:List SK) (a b:List PV) (q:Bool),fA P a.length o (is.map fun i=>(i*P.cellsOf e,e))=true→
  mo (ij P n) (is.map fun _=>e)=some ks→a.length=b.length→b9 ks (a.drop o) (b.drop o)=some q→ ∀w,(Op.eqItems d e (P.cellsOf e) (a.map cz).toArray (b.map cz).toArray is).run P w= .ok q w
 | [],o,ks,a,b,q,hc,hk,hl,he,w=>by
  simp only [List.map_nil,mo,Option.some.injEq]at hk;subst hk;have hl1:=j3 _ _ _ _ he;have e1:a.drop o=[]:=List.length_eq_zero_iff.1 hl1.1;have e2:b.drop o=[]:=List.length_eq_zero_iff.1 hl1.2;rw [e1,e2]at he;simp only [b9,Option.some.injEq]at he;subst he;simp [Op.eqItems]
 |i::is,o,ks,a,b,q,hc,hk,hl,he,w=>by
  simp only [List.map_cons,fA,Bool.and_eq_true,beq_iff_eq]at hc;obtain⟨rfl,hc⟩:=hc;obtain⟨k1,k2,h1,h2,rfl⟩:=jm (by simpa using hk);obtain⟨q1,q2,g1,g2,rfl⟩:=od k1 k2 _ _ q he;have hk1:=jw n _ _ h1;have hle:=na _ _ _ hc;have hkl:=j3 _ _ _ _ he;simp only [List.length_drop,List.length_append]at hkl;rw [List.drop_drop,List.drop_drop]at g2;rw [hk1]at g1 g2;have p1:=iK w h1 (a.map cz) (i*P.cellsOf e) (by simp;omega);have p2:=iK w h1 (b.map cz) (i*P.cellsOf e) (by simp;omega);rw [←List.map_drop,←List.map_take]at p1 p2;have p3:=ih e k1 h1 _ _ q1 g1 w;have rest:=nb ih is _ k2 a b q2 hc h2 hl g2 w;simp only [Op.eqItems,Sem.run_bind,p1,p2,p3,Result.andThen_ok];cases q1
  ·simp
  ·simpa using rest
theorem zl (d:Nat): ∀(n:Nat) (t:TypeId),Ko P n (d+n) t
 |0,t=>fun ks h=>by simp [ij]at h
 |n+1,t=>fun ks h a b q he w=>by
  have ih:=fun t=>zl d n t;have hl:=jw _ _ _ h;have hl2:=j3 _ _ _ _ he;unfold ij at h;unfold valOf;rw [show d+(n+1)=(d+n)+1 from rfl]
  split at h
  ·rename_i ht;split at h
   ·simp only [Option.some.injEq]at h;subst h
    match a,b,he with
    | [.bool x],[.bool y],he=>
     simp only [b9,Option.some.injEq,Bool.and_true]at he;simp only [List.map_cons,List.map_nil,List.headD_cons,cz,ht];rw [run_equalIn_bool' w _ _ _ _ ht,he]
   ·cases h
  ·rename_i k ht;split at h
   ·simp only [Option.some.injEq]at h;subst h
    match a,b,he with
    | [.int k1 x],[.int k2 y],he=>
     simp only [b9]at he;split at he
     ·rename_i hk;simp only [Option.some.injEq,Bool.and_true]at he;obtain⟨rfl,rfl⟩:=hk;simp only [List.map_cons,List.map_nil,List.headD_cons,cz,ht];rw [run_equalIn_int w _ _ _ _ _ _ ht,‹(x==y)=q›]
     ·cases he
   ·cases h
  ·rename_i ht;split at h
   ·simp only [Option.some.injEq]at h;subst h
    match a,b,he with
    | [.str x],[.str y],he=>
     simp only [b9,Option.some.injEq,Bool.and_true]at he;simp only [List.map_cons,List.map_nil,List.headD_cons,cz,ht];rw [run_equalIn_string w _ _ _ _ ht];simp [ByteArray.toList_eq,he]
   ·cases h
  ·rename_i fs ht;split at h
   ·rename_i hc;simp only [Bool.and_eq_true,Bool.not_eq_true']at hc;have hfo:P.fieldsOf t=fs:=(by simp [Program.fieldsOf,ht]);simp only [ht];rw [run_equalIn_struct w _ _ _ _ (by rw [hfo];exact ht) hc.2,hfo];exact mq ih fs.toList 0 ks a b q (by rw [hl2.1,hl];exact hc.1.1) hc.1.2 h (by omega) (by simpa using he) w
   ·cases h
  ·rename_i m e ht;split at h
   ·rename_i hc;simp only [Bool.and_eq_true,decide_eq_true_eq]at hc;have hinf: ∃i,P.info? e=some i:=by
     obtain⟨m,rfl⟩: ∃m',m=m'+1:=⟨m-1,by omega⟩;rw [List.range_succ_eq_map,List.map_cons]at h;obtain⟨k1,_,h1,_⟩:=jm h;obtain⟨kd,hu⟩:=zk h1;exact info_of_underlying hu
    obtain⟨i,hi⟩:=hinf;simp only [ht];rw [run_equalIn_array w _ _ _ ht hi];exact nb ih (List.range m) 0 ks a b q (by rw [hl2.1,hl];exact hc.2) h (by omega) (by simpa using he) w
   ·cases h
  ·cases h
theorem zm (d:Nat): ∀(n:Nat) (t:TypeId),af5 P n (d+n) t
 |0,t=>fun ks h=>by simp [ij]at h
 |n+1,t=>fun ks h a hal e w=>by
  have ih:=fun t=>zm d n t;have hl:=jw _ _ _ h;unfold ij at h;unfold valOf;rw [show d+(n+1)=(d+n)+1 from rfl,Instr.checkKey]
  split at h
  ·rename_i ht;simp only [ht,Sem.run_bind,run_underlying ht,Result.andThen_ok,Sem.run_pure]
  ·rename_i k ht;simp only [ht,Sem.run_bind,run_underlying ht,Result.andThen_ok,Sem.run_pure]
  ·rename_i ht;simp only [ht,Sem.run_bind,run_underlying ht,Result.andThen_ok,Sem.run_pure]
  ·rename_i fs ht;split at h
   ·rename_i hc;simp only [Bool.and_eq_true,Bool.not_eq_true']at hc;simp only [ht,Sem.run_bind,run_underlying ht,Result.andThen_ok];rw [←Array.forIn_toList]
    have key: ∀(L:List Field) (o:Nat) (ks:List SK),fA P a.length o (L.map fun f=>(f.offset,f.type))=true→(L.all (·.name != "_"))=true→mo (ij P n) (L.map (·.type))=some ks→
      (forIn L PUnit.unit (fun f (_:PUnit)=>if f.name≠ "_" then (do
       let p←part f.type (a.map cz).toArray f.offset
       Instr.checkKey e (d+n) f.type p
       pure (ForInStep.yield PUnit.unit))else pure (ForInStep.yield PUnit.unit)):Sem PUnit).run P w= .ok PUnit.unit w:=by
     intro L
     induction L with
     |nil=>intro o ks _ _ _;simp
     |cons f L ihL=>
      intro o ks hc hn hk;simp only [List.map_cons,fA,Bool.and_eq_true,beq_iff_eq]at hc;obtain⟨rfl,hc⟩:=hc;simp only [List.all_cons,Bool.and_eq_true,bne_iff_ne,ne_eq]at hn;obtain⟨k1,k2,h1,h2,rfl⟩:=jm (by simpa using hk);have hk1:=jw n _ _ h1;have hle:=na _ _ _ hc;have p1:=iK w h1 (a.map cz) f.offset (by simp;omega);rw [←List.map_drop,←List.map_take]at p1;have p2:=ih f.type k1 h1 ((a.drop f.offset).take (P.cellsOf f.type)) (by simp;omega) e w;have:=ihL _ _ hc (by simpa using hn.2) h2;simp only [List.forIn_cons,Sem.run_bind,hn.1,ne_eq,not_false_eq_true,if_true,p1,p2,Result.andThen_ok,Sem.run_pure];exact this
    have:=key fs.toList 0 ks (by rw [hal,hl];exact hc.1.1) hc.1.2 h;rw [this];rfl
   ·cases h
  ·rename_i m el ht;split at h
   ·rename_i hc;simp only [Bool.and_eq_true,decide_eq_true_eq]at hc;have hinf: ∃i,P.info? el=some i:=by
     obtain⟨m,rfl⟩: ∃m',m=m'+1:=⟨m-1,by omega⟩;rw [List.range_succ_eq_map,List.map_cons]at h;obtain⟨k1,_,h1,_⟩:=jm h;obtain⟨kd,hu⟩:=zk h1;exact info_of_underlying hu
    obtain⟨i,hi⟩:=hinf;simp only [ht,Sem.run_bind,run_underlying ht,Result.andThen_ok];simp only [Std.Legacy.Range.forIn_eq_forIn_range',Std.Legacy.Range.size,Nat.sub_zero,Nat.add_one_sub_one,Nat.div_one];rw [←List.range_eq_range']
    have key: ∀(L:List Nat) (o:Nat) (ks:List SK),fA P a.length o (L.map fun i=>(i*P.cellsOf el,el))=true→mo (ij P n) (L.map fun _=>el)=some ks→
      (forIn L PUnit.unit (fun i (_:PUnit)=>do
       Instr.checkKey e (d+n) el (←part el (a.map cz).toArray (i*(←sizeOf el)))
       pure (ForInStep.yield PUnit.unit)):Sem PUnit).run P w= .ok PUnit.unit w:=by
     intro L
     induction L with
     |nil=>intro o ks _ _;simp
     |cons j L ihL=>
      intro o ks hc hk;simp only [List.map_cons,fA,Bool.and_eq_true,beq_iff_eq]at hc;obtain⟨rfl,hc⟩:=hc;obtain⟨k1,k2,h1,h2,rfl⟩:=jm (by simpa using hk);have hk1:=jw n _ _ h1;have hle:=na _ _ _ hc;have p1:=iK w h1 (a.map cz) (j*P.cellsOf el) (by simp;omega);rw [←List.map_drop,←List.map_take]at p1;have p2:=ih el k1 h1 ((a.drop (j*P.cellsOf el)).take (P.cellsOf el)) (by simp;omega) e w;have:=ihL _ _ hc h2;simp only [List.forIn_cons,Sem.run_bind,run_sizeOf w hi,p1,p2,Result.andThen_ok,Sem.run_pure];exact this
    have:=key (List.range m) 0 ks (by rw [hal,hl];exact hc.2) h;rw [this];rfl
   ·cases h
  ·cases h
theorem PS {t:TypeId}{ks:List SK}(n:Nat)(hn:n≤10000)(hg:P.eqGuardType P.depth t=false)(hk:ij P n t=some ks)(ha:fj P t=some true):Yc P t ks:=by
 refine⟨hg,fun a b q h w=>⟨?_,fun e=> ?_⟩⟩
 ·have h1:=zl (P:=P) (10000-n) n t ks hk a b q h w;rw [Nat.sub_add_cancel hn]at h1;unfold valOf at h1;unfold fj at ha;split at ha<;>rename_i hu<;>first|(rw [hu]at h1;exact h1)|(cases ha)
 ·have h1:=zm (P:=P) (10000-n) n t ks hk a (j3 _ _ _ _ h).1 e w;rw [Nat.sub_add_cancel hn]at h1;unfold valOf at h1;unfold fj at ha;split at ha<;>rename_i hu<;>first|(rw [hu]at h1;exact h1)|(cases ha)
end
end
section
theorem xk (P:Program)(w:World)(d:Nat){t e:TypeId}{b:Option Addr}{len cap:Nat}(hu:P.underlying t=some (.slice e)):(Op.equalIn (d+1) t (.slice b len cap) (.slice none 0 0)).run P w= .ok b.isNone w:=by
 cases b<;>simp [Op.equalIn,aO w hu]
theorem Kp (P:Program)(w:World){t e:TypeId}{b:Option Addr}{len cap:Nat}(hu:P.underlying t=some (.slice e)):(binOp .eql t (.slice b len cap) (.slice none 0 0)).run P w= .ok (.bool b.isNone) w:=by
 have:=xk P w 9999 (b:=b) (len:=len) (cap:=cap) hu;simp only [binOp];simp only [Op.equal,Op.maxDepth,Sem.run_bind,this,Result.andThen_ok,Sem.run_pure]
section
variable {w:World}
theorem Kq (K:Ctx) (hK:iV K) {n id:Nat} {f:FuncId} {g:Func} {A X D:Code} {t0 t1 t2:TypeId} {p3 p4:String} {a3 a4:Array Edge} {t t' e:TypeId} {st1 stX stD:bN}
  (hf:K.P.funcs[f]? =some g)
  (hb:g.body=some (.seq A (.seq (.seq (.region id #[⟨some 3, .move (.tmp 0),t0,p3,a3,none⟩,⟨some 4, .binOp .eql t (.tmp 3) (.const (.slice none 0 0)) t',t1,p4,a4,none⟩] false) (.cond (.tmp 4) X .skip)) D)))
  (hname:(g.name== "runtime.NumGoroutine")=false) (hnt:g.ntmps=8) (ht:K.P.underlying t=some (.slice e))
  (hA:dB K n f A ⟨[(0, .pure (.slice []))],[[],[]],8⟩=some (.normal,st1)) (h0:look st1.s 0= .pure (.slice []))
  (hX:dB K n f X ⟨(4, .pure (.bool true))::(3, .pure (.slice []))::st1.s,st1.h,8⟩=some (.ret,stX)) (hD:dB K n f D ⟨(4, .pure (.bool false))::(3, .pure (.slice []))::st1.s,st1.h,8⟩=some (.ret,stD))
  (rX:fJ K g stX=some [.aR]) (rD:fJ K g stD=some [.aR]):Ax K.P f:=by
 intro w av cap;have hS:bj w (fun b=>b<w.heap.size) (fun _ _=>none) ([[],[]]:aj):=⟨fun nm x hx t b hb=>by simp at hb,fun nm t b hb=>by simp at hb,fun nm nm' t t' b h1 h2=>by simp at h1,fun nm t b hb=>by simp at hb,fun b hb=>hb⟩;have hst:kR w.heap.size none w (fun b=>b<w.heap.size) (fun _ _=>none) ⟨[(0, .pure (.slice []))],[[],[]],8⟩ {tmps:= #[.slice av 0 cap]++Array.replicate 7 undef,defers:=[]}:=by
  refine⟨hS,fun q=> ?_,by simp,by simp,Nat.le_refl _,⟨fun d hd=>by simp at hd, .nil⟩,fun l hl=>by cases hl⟩;rw [yZ];simp only [look];split
  ·rename_i e;subst e;exact .pure _ _ (.fV _ _)
  ·exact eA _
 refine⟨by simp only [callFunc,Sem.run_bind,run_program,Result.andThen,hf,hname,hb];rfl, ?_⟩
 have fin: ∀(st:bN),fJ K g st=some [.aR]→ ∀(e':Exit) (a':Act) (w':World),lW w.heap.size none ⟨[(0, .pure (.slice []))],[[],[]],8⟩ w (fun b=>b<w.heap.size) (fun _ _=>none) .ret st e' a' w'→
   e'= .ret∧LeavesInM (Fw none) 0 K.P g a'.tmps (fun e w'=>(∃a',e= .returned (.slice a' 0 0))∧w'.os=w.os∧w'.tape=w.tape∧w'.output=w.output∧w.heap.size≤w'.heap.size∧ ∀b,b<w.heap.size→w'.heap[b]? =w.heap[b]?) a'.defers .returning w':=by
  intro st hres e' a' w' hq;obtain⟨q1,q2,q3,S',μ',q4,q5⟩:=hq;refine⟨q1,w8 (s:=st.s) (k:=st.h.length-1) a'.defers w' q4.defs q4.heap q5 (Nat.le_refl _) q4.eK fun w2 h2 e2 s2=> ?_⟩;obtain⟨u,u1,u2⟩:=uM K h2 s2 hres;refine⟨u,u1, ?_,e2.os,e2.tape,e2.out,e2.size,fun b hb=>e2.same b hb (.inl hb)⟩;have u3:aJ w2 S' μ' (st.h.length-1) u .aR:=u2
  cases u3 with
  |aR a=>exact⟨a,rfl⟩
 have hn8:g.ntmps-(#[Value.slice av 0 cap]:Array Value).size=7:=(by rw [hnt];rfl);refine callsIn_of_wp_marks hf hb trivial ?_;rw [hn8];refine wpIn_seq (wpIn_mono (kj K hK n f A _ _ _ hA _ none w _ _ _ hst) fun e' a1 w1 hq1=> ?_);obtain⟨q1,q2,q3,S1,μ1,q4,q5⟩:=hq1;simp only [eT]at q1;subst q1;simp only [Exit.then];have hv:=q4.eK 0;rw [h0]at hv;obtain⟨base,cap1,hbase,_⟩:=hv.pv.kZ;have hlen:st1.h.length=2:=q2;refine wpIn_seq (wpIn_seq (wpIn_region ?_));have hsz:a1.tmps.size=8:=q4.nt.trans q3;have hr:List.range (#[(⟨some 3, .move (.tmp 0),t0,p3,a3,none⟩:Oper),⟨some 4, .binOp .eql t (.tmp 3) (.const (.slice none 0 0)) t',t1,p4,a4,none⟩]:Array Oper).size=[0,1]:=rfl;rw [hr];simp only [wpOpsIn];simp only [List.getElem?_toArray,List.getElem?_cons_zero,List.getElem?_cons_succ,Region.wanted,if_true];refine vD K hK (kj K hK n) q4.heap q4.pos q4.eK (v:= .pure (.slice [])) (H':=st1.h) (fn:=f) (o:=⟨some 3, .move (.tmp 0),t0,p3,a3,none⟩) (s:=st1.s) (by simp [cR,ib,eN,ev,h0]) fun u3 w2 S2 μ2 hv3 hh3 he3 hl3=> ?_;obtain⟨base3,cap3,hu3,_⟩:=hv3.pv.kZ;have hu3:u3= .slice base3 0 cap3:=hu3;subst hu3;have hs1: ∀q,aJ w2 S2 μ2 (st1.h.length-1) (a1.tmps.getD q undef) (look st1.s q):=pf q4.eK q4.heap he3 (Nat.le_refl _) (Nat.le_refl _);obtain⟨z1,z2,z3,z4,z5⟩:=qf (st:=⟨st1.s,st1.h,8⟩) (st':=⟨(3, .pure (.slice []))::st1.s,st1.h,8⟩) hs1 hsz hv3 rfl rfl (dst:=some 3) (by simp [bN.put]);refine⟨fun _ _=>trivial, ?_⟩;rw [Oper.semAt_eq _ _ _ (fun c e=>by cases e)];have he0:(a1.put (some 3) (.slice base3 0 cap3)).eval (.tmp 3)= .slice base3 0 cap3:=by
  show (a1.put (some 3) (.slice base3 0 cap3)).tmps.getD 3 undef=_
  rw [kh _ _ _ _ (by omega)];simp
 have hrun:(execOp (a1.put (some 3) (.slice base3 0 cap3)).eval ⟨some 4, .binOp .eql t (.tmp 3) (.const (.slice none 0 0)) t',t1,p4,a4,none⟩).run K.P w2= .ok (.value (.bool base3.isNone)) w2:=by
  have hc:(a1.put (some 3) (.slice base3 0 cap3)).eval (.const (.slice none 0 0))= .slice none 0 0:=rfl;have hg:(eqGuard .eql t (.tmp 3) (.const (.slice none 0 0)) (.slice base3 0 cap3) (.slice none 0 0)).run K.P w2= .ok () w2:=(by simp [eqGuard]);simp only [execOp,he0,hc,Sem.run_bind,hg,Result.andThen_ok,Kp K.P w2 ht,Sem.run_pure]
 rw [hrun,Oper.uponIn_value];simp only;have hb4:aJ w2 S2 μ2 (st1.h.length-1) (.bool base3.isNone) (.pure (.bool base3.isNone)):= .pure _ _ (.bool _);obtain⟨y1,y2,y3,y4,y5⟩:=qf (st:=⟨(3, .pure (.slice []))::st1.s,st1.h,8⟩) (st':=⟨(4, .pure (.bool base3.isNone))::(3, .pure (.slice []))::st1.s,st1.h,8⟩) z1 (z2.trans rfl) hb4 rfl rfl (dst:=some 4) (by simp [bN.put])
 have hst2:kR w.heap.size none w2 S2 μ2 ⟨(4, .pure (.bool base3.isNone))::(3, .pure (.slice []))::st1.s,st1.h,8⟩ ((a1.put (some 3) (.slice base3 0 cap3)).put (some 4) (.bool base3.isNone)):=
  ⟨hh3,y1,y2.trans rfl,q4.pos,Nat.le_trans q4.low he3.size,by rw [y5,z5];exact q4.defs.ev he3,fun l hl=>by cases hl⟩
 have hc4:((a1.put (some 3) (.slice base3 0 cap3)).put (some 4) (.bool base3.isNone)).eval (.tmp 4)= .bool base3.isNone:=by
  show ((a1.put (some 3) (.slice base3 0 cap3)).put (some 4) (.bool base3.isNone)).tmps.getD 4 undef=_
  rw [kh _ _ _ _ (by rw [z2];simp)];simp
 have hE:=q5.trans (he3.level (by simp [hlen]));simp only [Exit.then];refine wpIn_cond hc4 ?_
 have out: ∀(st:bN) (e':Exit) (a':Act) (w':World),lW w.heap.size none ⟨(4, .pure (.bool base3.isNone))::(3, .pure (.slice []))::st1.s,st1.h,8⟩ w2 S2 μ2 .ret st e' a' w'→
   lW w.heap.size none ⟨[(0, .pure (.slice []))],[[],[]],8⟩ w (fun b=>b<w.heap.size) (fun _ _=>none) .ret st e' a' w':=fun st e' a' w' hq=>by
  obtain⟨k1,k2,k3,S',μ',k4,k5⟩:=hq;exact⟨k1,k2.trans hlen,k3,S',μ',k4,hE.trans (k5.level (by simp [hlen]))⟩
 cases hbn:base3.isNone with
 |true=>
  simp only [if_true];rw [hbn]at hst2 out;refine wpIn_mono (kj K hK n f X _ _ _ hX _ none w2 _ _ _ hst2) fun e' a' w' hq=> ?_;obtain⟨k1,k2⟩:=fin stX rX e' a' w' (out _ _ _ _ hq);subst k1;exact k2
 |false=>
  simp only [Bool.false_eq_true,if_false];rw [hbn]at hst2 out;refine wpIn_skip ?_;simp only [Exit.then];refine wpIn_mono (kj K hK n f D _ _ _ hD _ none w2 _ _ _ hst2) fun e' a' w' hq=> ?_;obtain⟨k1,k2⟩:=fin stD rD e' a' w' (out _ _ _ _ hq);subst k1;exact k2
def vG:Option (List GV)→Bool
 |some [.aR]=>true
 |_=>false
def isE:GV→Bool
 | .pure (.slice [])=>true
 |_=>false
def Kr (K:Ctx)(n:Nat)(f:FuncId)(g:Func)(A X D:Code)(t:TypeId):Bool:=
 match dB K n f A ⟨[(0, .pure (.slice []))],[[],[]],8⟩with
 |some (.normal,st1)=>
  isE (look st1.s 0) && (dY K.P t).isSome &&
  (match dB K n f X ⟨(4, .pure (.bool true))::(3, .pure (.slice []))::st1.s,st1.h,8⟩with|some (.ret,st)=>vG (fJ K g st)|_=>false) &&
  (match dB K n f D ⟨(4, .pure (.bool false))::(3, .pure (.slice []))::st1.s,st1.h,8⟩with|some (.ret,st)=>vG (fJ K g st)|_=>false)
 |_=>false
theorem xl {x:Option (List GV)}(h:vG x=true):x=some [.aR]:=by
 unfold vG at h;split at h
 ·rfl
 ·cases h
theorem lk (K:Ctx) (hK:iV K) {n id:Nat} {f:FuncId} {g:Func} {A X D:Code} {t0 t1:TypeId} {p3 p4:String} {a3 a4:Array Edge} {t t':TypeId}
  (hf:K.P.funcs[f]? =some g)
  (hb:g.body=some (.seq A (.seq (.seq (.region id #[⟨some 3, .move (.tmp 0),t0,p3,a3,none⟩,⟨some 4, .binOp .eql t (.tmp 3) (.const (.slice none 0 0)) t',t1,p4,a4,none⟩] false) (.cond (.tmp 4) X .skip)) D)))
  (hname:(g.name== "runtime.NumGoroutine")=false) (hnt:g.ntmps=8) (h:Kr K n f g A X D t=true):Ax K.P f:=by
 unfold Kr at h;split at h
 ·rename_i st1 hA;simp only [Bool.and_eq_true]at h;obtain⟨⟨⟨h0,ht⟩,hX⟩,hD⟩:=h;obtain⟨e,he⟩:=Option.isSome_iff_exists.1 ht;have h0':look st1.s 0= .pure (.slice []):=by
   unfold isE at h0;split at h0
   ·assumption
   ·cases h0
  split at hX
  ·rename_i stX eX;split at hD
   ·rename_i stD eD;exact Kq K hK (t2:=0) hf hb hname hnt (dE he) hA h0' eX eD (xl hX) (xl hD)
   ·cases hD
  ·cases hX
 ·cases h
end
end
section
open Go.ChangeShapes Go.WideShapes Go.RowKit Go.ChangeAt
section
variable {P:Program} {H:Type} {enc:TypeId×Value→H}
theorem qP (hl:laidOutB P=true){W W':World}(hb:Below W.heap.size W W'): ∀(ts:List TypeId) (vs:List Value) (ds:List (DataW H)) (ps:List MemPlace),(∀t∈ts,P.readableRec t=true∧t<P.types.size)→
  DataW.TrodAll enc P W 0 (fun _=>true) true ts vs ds ps→DataW.TrodAll enc P W' 0 (fun b=>decide (b<W.heap.size)) true ts vs ds ps
 | [],vs,ds,ps,_,h=>by
  obtain⟨rfl,rfl,rfl⟩:=trodAll_nil h;exact trodAll_mk0
 |t::ts,vs,ds,ps,ht,h=>by
  obtain⟨v,vs',d,ds',p,q,rfl,rfl,rfl,h1,h2⟩:=trodAll_cons h;obtain⟨a1,a2⟩:=ht t (List.mem_cons_self ..);have hlt: ∀x∈p,x.block<W.heap.size:=(by obtain⟨m,hm⟩:=h1;exact DataW.trod_lt m _ _ _ hm);exact trodAll_cons_mk (Below.trod hl a1 a2 h1 hb hlt) (qP hl hb ts vs' ds' q (fun t ht'=>ht t (List.mem_cons_of_mem _ ht')) h2)
theorem Cv {w:World}{base:Nat}{n:Nat}: ∀(ts:List TypeId) (vs:List Value) (ds:List (DataW H)) (ps:List MemPlace),(∀t∈ts,ke P n t=true)→
  (∀(j:Nat) t v,ts[j]? =some t→vs[j]? =some v→Value.okWide P w .any base t v)→
  DataW.TrodAll enc P w 0 (fun _=>true) true ts vs ds ps→ds.length=ts.length∧ ∃pvs,yG P n ts pvs∧pvs.length=vs.length∧ ∀j,j<vs.length→aJ w (S0 w) PO 0 (vs.getD j undef) (.pure (pvs.getD j .dead))
 | [],vs,ds,ps,_,_,h=>by
  obtain⟨rfl,rfl,rfl⟩:=trodAll_nil h;exact⟨rfl,[],trivial,rfl,by simp⟩
 |t::ts,vs,ds,ps,ht,hok,h=>by
  obtain⟨v,vs',d,ds',p,q,rfl,rfl,rfl,h1,h2⟩:=trodAll_cons h;obtain⟨hl,pvs,a1,a2,a3⟩:=Cv ts vs' ds' q (fun t ht'=>ht t (List.mem_cons_of_mem _ ht')) (fun j t v h1 h2=>hok (j+1) t v (by simpa using h1) (by simpa using h2)) h2;obtain⟨pv,b1,b2⟩:=PR (ht t (List.mem_cons_self ..)) (hok 0 t v rfl rfl) h1;refine⟨by simp [hl],pv::pvs,⟨b2,a1⟩,by simp [a2],fun j hj=> ?_⟩
  cases j with
  |zero=>exact b1
  |succ j=>exact a3 j (by simpa using hj)
end
theorem ad3 (w:World):bj w (S0 w) PO [[]]:=
 ⟨fun nm x hx=>by simp [aj.get,Fr.get]at hx,fun nm t b h=>by simp [PO]at h,fun nm nm' t t' b h=>by simp [PO]at h,fun nm t b h=>by simp [PO]at h,fun b h=>h⟩
theorem Cw {w w':World}{S':Nat→Prop}{μ':Mu}{l:Nat}(h:Ev l w (S0 w) PO w' S' μ'):Below w.heap.size w w':=
 ⟨h.os,h.tape,h.out,h.size,fun k hk=>h.same k hk (.inl hk)⟩
theorem HV {K:Ctx} (hK:iV K) {f:FuncId} {pvs:List PV} {H':aj} (h:aL K (aG K) f (pvs.map .pure) 0 [[]]=some (.pure (.bool true),H')) {w:World} {vs:Array Value}
  (hl:pvs.length=vs.size) (hrel: ∀j,j<vs.size→aJ w (S0 w) PO 0 (vs.getD j undef) (.pure (pvs.getD j .dead))):
  Calls K.P f vs w fun e w'=>e= .returned (.bool true)∧Below w.heap.size w w':=by
 obtain⟨_,h2⟩:=Au K hK (Bw K hK) h (ad3 w) (vs:=vs) (by simp [hl]) (fun j hj=>by
  have hj':j<pvs.length:=(by simpa using hj);have e:(pvs.map GV.pure).getD j aN= .pure (pvs.getD j .dead):=(by simp [List.getD_eq_getElem?_getD,hj']);rw [e];exact hrel j (by omega))
 refine(callsIn_wide (n:=0).1 h2).mono fun e w' hd=> ?_;obtain⟨u,S',μ',rfl,hv,_,hev,_⟩:=hd
 cases hv with
 |pure _ _ hp=>
  cases hp;exact⟨rfl,Cw hev⟩
theorem Ep {H:Type} {enc:TypeId×Value→H} {C:Checked} {os:Os} {f:FuncId} {fn:Func} {s:ChangeSpec} {conds:List PathCond} {K:Ctx} (hK:iV K) (hP:K.P=C.prog) (n:Nat)
  (own:ownKnob C.prog.godebug=none) (started:os.Started) (noInit:C.prog.inits.idxOf? f=none) (hlaid:laidOutB C.prog=true) (hfn:C.prog.funcs[f]? =some fn)
  (hv:s.vars=[]) (hs: ∀ds:List (DataW H),ds.length=fn.params.toList.length→s.fn H ds={results:=[.lit (.bool true)],args:=ds})
  {tb:TypeId} (hr:fn.resultTypes= #[tb]) (htb:C.prog.underlying tb=some .bool)
  (hpl:(fn.params.toList.all fun t=>ke C.prog n t && C.prog.readableRec t && decide (t<C.prog.types.size))=true)
  (witness: ∃(w:World) (tape:Tape) (i:Input),w.os=os∧(w.forCall tape i).Shaped C.prog∧i.vars=[]∧Input.okWide C.prog (w.forCall tape i) .any w.heap.size f i∧
   s.pre6 enc C.prog fn conds false (w.forCall tape i).memory i.args∧({}:Assume).holds C.prog (lone (Frame.enter C.prog f i.args .normal) [] (w.forCall tape i)))
  (hlaw: ∀pvs:List PV,yG C.prog n fn.params.toList pvs→ ∃H',aL K (aG K) f (pvs.map .pure) 0 [[]]=some (.pure (.bool true),H')):
  ReturnsInHanded {} C os f .any (s.pre6 enc C.prog fn conds false) (s.post enc C.prog fn false true false false):=by
 refine returnsInHanded_of_change own started noInit hfn witness ?_;intro W base args ds gs before hval hW hcnd _;have hW':=hW;obtain⟨p,q,hA,hV,rfl,hfz,hnd⟩:=hW;simp only [List.all_eq_true,Bool.and_eq_true,decide_eq_true_eq]at hpl;rw [hv]at hV;obtain⟨rfl,rfl⟩:=trodVars_none hV;obtain⟨hdl,pvs,a1,a2,a3⟩:=Cv fn.params.toList args.toList ds p (fun t ht=>(hpl t ht).1.1) (fun j t v h1 h2=>hval j t v (by simpa using h1) (by simpa using h2)) hA;obtain⟨H',hg⟩:=hlaw pvs a1;have hc:=HV hK hg (w:=W) (vs:=args) (by simpa using a2) (fun j hj=>by
  have:=a3 j (by simpa using hj);simpa [List.getD_eq_getElem?_getD]using this)
 rw [hP]at hc;refine hc.mono fun e W' ⟨he,bel⟩=> ?_;subst he;have hfn':s.fn H (ds++[])={results:=[.lit (.bool true)],args:=ds}:=(by rw [List.append_nil];exact hs ds hdl);refine⟨_,rfl,ds,[],p++[],[],p,[],hW', ?_, ?_, ?_,bel.frame _,fun h=>by cases h⟩
 ·rw [hfn',hr];exact trodAll_mk1 (shut_bool htb _)
 ·rw [hfn'];exact qP hlaid bel _ _ _ _ (fun t ht=>⟨(hpl t ht).1.2,(hpl t ht).2⟩) hA
 ·rw [hfn',hv];rfl
end
theorem T5 (cl:List Nat)(t:Nat)(ks:List SK)(h:(LR cl).eqs t=some ks):Yc Tryz.prog t ks:=by
 have h':r7 t=some ks:=h;unfold r7 at h';split at h';all_goals first|(cases h';exact PS (P:=Tryz.prog) 5 (by omega) (by kernel_rfl) (by kernel_rfl) (by kernel_rfl))|cases h'
theorem uc:iV (LR []) where
 xS:=fun f h=>by
  have:([]:List Nat).contains f=true:=h;simp at this
 eqs:=T5 []
 mixed:=by kernel_rfl
theorem ad4:iV KC where
 xS:=fun f h=>by
  have h1:LQ.contains f=true:=h;simp only [LQ,List.contains_cons,List.contains_nil,Bool.or_false,Bool.or_eq_true,beq_iff_eq]at h1;rcases h1 with rfl|rfl|rfl|rfl|rfl|rfl
  ·exact lk (LR []) uc (n:=20) (g:=Tryz.f99) Tryz.func99 rfl rfl rfl (by kernel_rfl)
  ·exact lk (LR []) uc (n:=20) (g:=Tryz.f100) Tryz.func100 rfl rfl rfl (by kernel_rfl)
  ·exact lk (LR []) uc (n:=20) (g:=Tryz.f101) Tryz.func101 rfl rfl rfl (by kernel_rfl)
  ·exact lk (LR []) uc (n:=20) (g:=Tryz.f102) Tryz.func102 rfl rfl rfl (by kernel_rfl)
  ·exact lk (LR []) uc (n:=20) (g:=Tryz.f103) Tryz.func103 rfl rfl rfl (by kernel_rfl)
  ·exact lk (LR []) uc (n:=20) (g:=Tryz.f75) Tryz.func75 rfl rfl rfl (by kernel_rfl)
 eqs:=T5 LQ
 mixed:=by kernel_rfl
end Go.Gh
