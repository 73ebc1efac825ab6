/- Texts joined: the evaluator over ghost values, its soundness, the walks. Spaces struck and names made short by a program, for the size. -/
import Derived.Test.YtkcmcjohoockcaaGreatGc4k
import Derived.Test.YtkcmcjohoockcaaGreatGc4i
import Derived.Test.YtkcmcjohoockcaaGreatGc4j
import Derived.Test.YtkcmcjohoockcaaGreatGc4f
namespace Go.Gh
open Go.Proofs
set_option linter.unusedVariables false
set_option linter.unusedSimpArgs false
set_option linter.unnecessarySimpa false
set_option maxRecDepth 100000
set_option maxHeartbeats 8000000
section
variable {c:Nat} {H:aj}
theorem xi {r:aH}: ∀(k:Nat) (s:ay) (ai:List ak) (i:Nat),(cj r k s ai i).1.length≤k
 |0,s,_,_=>Nat.le_refl _
 |_+1,s,[],_=>Nat.zero_le _
 |k+1,s,a::rest,i=>by
  unfold cj;simp only;split
  ·exact Nat.zero_le _
  ·have:=xi (r:=r) k (cC r s ((a::rest).takeWhile (bh a)) [] s 0).1 ((a::rest).drop ((a::rest).takeWhile (bh a)).length) (i+((a::rest).takeWhile (bh a)).length);simp only [List.length_cons];omega
theorem Po {r:aH}(h:yx r)(ht0:r.ae≠[])(hH:0<H.length):
  aI KC (aC KC) 61 [.pure (.agg r.row)] c H=
   some (.pure (.tuple (if (eE r).2.2.2=0 then [.slice ((eE r).1.map ay.row), .int .i64 (-1), .int .i64 0]else [.slice [], .int .i64 (eE r).2.2.1, .int .i64 (eE r).2.2.2])),H):=by
 refine aN (bj KC au Tryz.func61 rfl rfl I8 rfl rfl rfl (by simp) hH ?_);have k1:aq 10 22=90123:=(by decide);have k2:aq 10 27=110603:=(by decide);have k3:aq 10 53=217099:=(by decide);have C:=xW (c:=10) (H:=[(1,aA r)]::H) r (rg:= .pure (.agg r.row)) rfl h.p0 ht0 h.w.pl h.w.tl (by simp) (by simp [k1]) (by simp [k2]) (by simp [k3]);simp only [List.length_cons,Nat.add_sub_cancel,k1,k2,k3]at C;have hC:cr ([(1,aA r)]::H) (H.length,90123) (H.length,110603) (H.length,217099) 0 0 0 (az r)=[(1,aA r),(90123, .arr 1 ((az r).ah.map aG) 0 false),(110603, .arr 2 ((az r).ao.map aF.row) 0 false),(217099, .arr 2 ((az r).ae.map br.row) 0 false)]::H:=by
  simp [cr]
 rw [hC]at C;have S:=fun c=>DY (c:=c) (H:=H) h;have PC:=Hb (H:=H) (r:=r) (ro:=true);have hlast:=tr (r:=r) r.ai.length (az r) r.ai 0;have hsn:=oU r.ai.length (az r) r.ai 0 h.snd h.ab;obtain⟨q,hq⟩: ∃q,cj r r.ai.length (az r) r.ai 0=q:=⟨_,rfl⟩;have ha:eE r=(az r::q.1,q.2.1,if q.2.2.2=0∧mK r q.2.1=false then ((r.ai.length:Int),11)else q.2.2):=(by unfold eE;simp only [hq]);rw [hq]at S hlast hsn;rw [ha];have hll:q.1.length≤1000000:=(by rw [←hq];exact Nat.le_trans (xi ..) h.al);obtain⟨l,s,aR,e⟩:=q;simp only [Ha]at S hlast hsn hll⊢;have OR:=fun c (H:aj) (hH:0<H.length)=>uz (c:=c) (H:=H) r s h.w.tl (by rw [hsn.1.hl];exact h.w.pl) hsn.1.tl hH;rw [cQ]at C S OR⊢;simp only [kv,aA,OK]at C S PC⊢;generalize az r=fi at C S PC hlast⊢;by_cases he:e=0
 ·subst he;simp only [if_true]at S;have hg:((fi::l).map ay.row)[l.length]'(by simp)=s.row:=by
   rw [List.getElem_map];congr 1;rw [←hlast];simp [List.getD_eq_getElem?_getD]
  simp only [List.map_cons]at hg;by_cases hl:l=[]
  ·subst hl;have hfs:fi=s:=(by simpa using hlast);subst hfs;unfold ay.row at OR
   cases ho:mK r fi with
   |true=>
    rw [ho]at OR;simp [C,S,PC,OR];rw [aa (by simp)];have hnl: ¬H.length≤H.length-1:=(by omega);simp [hnl,ay.row]
   |false=>
    rw [ho]at OR;simp [C,S,PC,OR];rw [aa (by simp)];simp
  ·have hb:(l.length+1)*72≤1099511627776:=(by omega);have hb2:(1+l.length)*72≤1099511627776:=(by omega);have hall: ∀x:ay,x.row.length=3:=fun _=>rfl;have hw:IntKind.i64.wrap ((1:Int)+(l.length:Int)-1)=(l.length:Int):=by
    rw [show (1:Int)+(l.length:Int)-1=(l.length:Int)by omega]
    exact cu (by omega) (by omega)
   have hlt:(l.length:Int)<1+(l.length:Int):=(by omega);have hlt2:l.length<l.length+1:=(by omega);have hle:1+l.length≤l.length+1:=(by omega);have hg':([PV.slice (fi.ah.map aG),PV.slice (fi.ao.map aF.row),PV.slice (fi.ae.map br.row)]::l.map ay.row)[l.length]'(by simp)=s.row:=hg;have tk3:List.take 3 s.row=s.row:=rfl;have hs3:3≤s.row.length:=Nat.le_refl _;have hnl: ¬H.length≤H.length-1:=(by omega);have tka:List.take (1+l.length) ([PV.slice (fi.ah.map aG),PV.slice (fi.ao.map aF.row),PV.slice (fi.ae.map br.row)]::l.map ay.row)=[PV.slice (fi.ah.map aG),PV.slice (fi.ao.map aF.row),PV.slice (fi.ae.map br.row)]::l.map ay.row:=List.take_of_length_le (by simp;omega)
   cases ho:mK r s with
   |true=>
    rw [ho]at OR;simp [C,S,PC,hl,hb,hb2,hall,hw,hlt,hlt2,hle,hg',tk3,OR];rw [aa (by simp)];simp [hnl,hle,tka];rfl
   |false=>
    rw [ho]at OR;simp [C,S,PC,hl,hb,hb2,hall,hw,hlt,hlt2,hle,hg',tk3,OR];rw [aa (by simp)];simp
 ·have he':(e==0)=false:=(by simpa using he);simp only [he,if_false]at S;simp [C,S,he,he'];rw [aa (by simp)];simp
end
section
variable {c:Nat} {H:aj}
def Pp (r:aH)(L:Nat)(ro:Bool):Fr:=[(1,aA r),(5, .box [.aW (L,90123) 1 (az r).ah.length 0 (az r).ah.length, .aW (L,110603) 2 (az r).ao.length 0 (az r).ao.length, .aS]),(90123, .arr 1 ((az r).ah.map aG) 0 ro),(110603, .arr 2 ((az r).ao.map aF.row) 0 ro)]
theorem HF {r:aH}{ro:Bool}:bI (Pp r H.length ro::H) [.aW (H.length,90123) 1 (az r).ah.length 0 (az r).ah.length, .aW (H.length,110603) 2 (az r).ao.length 0 (az r).ao.length, .aS]=
  ([.slice ((az r).ah.map aG), .slice ((az r).ao.map aF.row), .slice []],Pp r H.length true::H):=by
 have t1:List.take (az r).ah.length ((az r).ah.map aG)=(az r).ah.map aG:=List.take_of_length_le (by simp);have t2:List.take (az r).ao.length ((az r).ao.map aF.row)=(az r).ao.map aF.row:=List.take_of_length_le (by simp);simp [bI,Pp,t1,t2]
theorem Em {r:aH}(h:yx r)(ht0:r.ae=[]):aI KC (aC KC) 80 [.pure (.agg r.row), .agg [.aW (H.length,90123) 1 (az r).ah.length 0 (az r).ah.length, .aW (H.length,110603) 2 (az r).ao.length 0 (az r).ao.length, .aS], .pure (.slice (r.ai.map ak.row))] c (Pp r H.length false::H)=
  some (.pure (Ha (cj r r.ai.length (az r) r.ai 0)),Pp r H.length true::H):=by
 rw [gR rfl rfl rfl];have t1:List.take (az r).ah.length ((az r).ah.map aG)=(az r).ah.map aG:=List.take_of_length_le (by simp);have t2:List.take (az r).ao.length ((az r).ao.map aF.row)=(az r).ao.map aF.row:=List.take_of_length_le (by simp);have e:bm (Pp r H.length false::H) [.pure (.agg r.row), .agg [.aW (H.length,90123) 1 (az r).ah.length 0 (az r).ah.length, .aW (H.length,110603) 2 (az r).ao.length 0 (az r).ao.length, .aS], .pure (.slice (r.ai.map ak.row))]=([.pure (.agg r.row), .agg [.pure (.slice ((az r).ah.map aG)), .pure (.slice ((az r).ao.map aF.row)), .aS], .pure (.slice (r.ai.map ak.row))],Pp r H.length true::H):=by
  simp [bm,dt,fF,dH,Pp,t1,t2]
 have e2:(az r).row=[.slice ((az r).ah.map aG), .slice ((az r).ao.map aF.row), .slice []]:=(by simp [ay.row,az,ht0]);rw [e,mm (b:=[.pure (.agg r.row), .pure (.agg (az r).row), .pure (.slice (r.ai.map ak.row))]) (by rw [e2];rfl)];exact uB h.w r.ai h.al h.ab h.snd ⟨by simpa [az]using h.p0,by simpa [az]using h.p0,by simp [az];exact h.w.pl,by simp [az];exact h.w.pl,by simp [az];exact h.w.tl⟩ (by simp)
theorem Pq {r:aH}(h:yx r)(ht0:r.ae=[])(hH:0<H.length):
  aI KC (aC KC) 61 [.pure (.agg r.row)] c H=
   some (.pure (.tuple (if (eE r).2.2.2=0 then [.slice ((eE r).1.map ay.row), .int .i64 (-1), .int .i64 0]else [.slice [], .int .i64 (eE r).2.2.1, .int .i64 (eE r).2.2.2])),H):=by
 refine aN (bj KC au Tryz.func61 rfl rfl I8 rfl rfl rfl (by simp) hH ?_);have k1:aq 10 22=90123:=(by decide);have k2:aq 10 27=110603:=(by decide);have C:=DW (c:=10) (H:=[(1,aA r)]::H) r (rg:= .pure (.agg r.row)) rfl h.p0 ht0 h.w.pl h.w.tl (by simp) (by simp [k1]) (by simp [k2]);simp only [List.length_cons,Nat.add_sub_cancel,k1,k2]at C;have hC:aj.set (aj.set ([(1,aA r)]::H) (H.length,90123) (.arr 1 ((az r).ah.map aG) 0 false)) (H.length,110603) (.arr 2 ((az r).ao.map aF.row) 0 false)=[(1,aA r),(90123, .arr 1 ((az r).ah.map aG) 0 false),(110603, .arr 2 ((az r).ao.map aF.row) 0 false)]::H:=by
  simp
 rw [hC]at C;have S:=fun c=>Em (c:=c) (H:=H) h ht0;have PC:=HF (H:=H) (r:=r) (ro:=true);have hlast:=tr (r:=r) r.ai.length (az r) r.ai 0;have hsn:=oU r.ai.length (az r) r.ai 0 h.snd h.ab;obtain⟨q,hq⟩: ∃q,cj r r.ai.length (az r) r.ai 0=q:=⟨_,rfl⟩;have ha:eE r=(az r::q.1,q.2.1,if q.2.2.2=0∧mK r q.2.1=false then ((r.ai.length:Int),11)else q.2.2):=(by unfold eE;simp only [hq]);rw [hq]at S hlast hsn;rw [ha];have hll:q.1.length≤1000000:=(by rw [←hq];exact Nat.le_trans (xi ..) h.al);obtain⟨l,s,aR,e⟩:=q;simp only [Ha]at S hlast hsn hll⊢;have OR:=fun c (H:aj) (hH:0<H.length)=>uz (c:=c) (H:=H) r s h.w.tl (by rw [hsn.1.hl];exact h.w.pl) hsn.1.tl hH;rw [cQ]at C S OR⊢;simp only [kv,aA,Pp]at C S PC⊢;have hft:(az r).ae=[]:=(by simp [az,ht0]);generalize az r=fi at C S PC hlast hft⊢;by_cases he:e=0
 ·subst he;simp only [if_true]at S;have hg:((fi::l).map ay.row)[l.length]'(by simp)=s.row:=by
   rw [List.getElem_map];congr 1;rw [←hlast];simp [List.getD_eq_getElem?_getD]
  simp only [List.map_cons]at hg;by_cases hl:l=[]
  ·subst hl;have hfs:fi=s:=(by simpa using hlast);subst hfs;unfold ay.row at OR;simp only [hft,List.map_nil]at OR
   cases ho:mK r fi with
   |true=>
    rw [ho]at OR;simp [C,S,PC,OR];rw [aa (by simp)];have hnl: ¬H.length≤H.length-1:=(by omega);simp [hnl,ay.row,hft]
   |false=>
    rw [ho]at OR;simp [C,S,PC,OR];rw [aa (by simp)];simp
  ·have hb:(l.length+1)*72≤1099511627776:=(by omega);have hb2:(1+l.length)*72≤1099511627776:=(by omega);have hall: ∀x:ay,x.row.length=3:=fun _=>rfl;have hw:IntKind.i64.wrap ((1:Int)+(l.length:Int)-1)=(l.length:Int):=by
    rw [show (1:Int)+(l.length:Int)-1=(l.length:Int)by omega]
    exact cu (by omega) (by omega)
   have hlt:(l.length:Int)<1+(l.length:Int):=(by omega);have hlt2:l.length<l.length+1:=(by omega);have hle:1+l.length≤l.length+1:=(by omega);have e3:fi.row=[PV.slice (fi.ah.map aG),PV.slice (fi.ao.map aF.row),PV.slice []]:=(by simp [ay.row,hft]);simp only [e3]at hg;have hg':([PV.slice (fi.ah.map aG),PV.slice (fi.ao.map aF.row),PV.slice []]::l.map ay.row)[l.length]'(by simp)=s.row:=hg;have tk3:List.take 3 s.row=s.row:=rfl;have hs3:3≤s.row.length:=Nat.le_refl _;have hnl: ¬H.length≤H.length-1:=(by omega);have tka:List.take (1+l.length) ([PV.slice (fi.ah.map aG),PV.slice (fi.ao.map aF.row),PV.slice []]::l.map ay.row)=[PV.slice (fi.ah.map aG),PV.slice (fi.ao.map aF.row),PV.slice []]::l.map ay.row:=List.take_of_length_le (by simp;omega)
   cases ho:mK r s with
   |true=>
    rw [ho]at OR;simp [C,S,PC,hl,hb,hb2,hall,hw,hlt,hlt2,hle,hg',tk3,OR];rw [aa (by simp)];simp [hnl,hle,tka,e3]
   |false=>
    rw [ho]at OR;simp [C,S,PC,hl,hb,hb2,hall,hw,hlt,hlt2,hle,hg',tk3,OR];rw [aa (by simp)];simp
 ·have he':(e==0)=false:=(by simpa using he);simp only [he,if_false]at S;simp [C,S,he,he'];rw [aa (by simp)];simp
theorem Pr {r:aH}(h:yx r)(hH:0<H.length):
  aI KC (aC KC) 61 [.pure (.agg r.row)] c H=
   some (.pure (.tuple (if (eE r).2.2.2=0 then [.slice ((eE r).1.map ay.row), .int .i64 (-1), .int .i64 0]else [.slice [], .int .i64 (eE r).2.2.1, .int .i64 (eE r).2.2.2])),H):=by
 by_cases t0:r.ae=[]
 ·exact Pq h t0 hH
 ·exact Po h t0 hH
end
section
variable {c:Nat} {H:aj}
noncomputable def Ps (r:aH):PV:= .tuple (if dG r=0 then (if (eE r).2.2.2=0 then [.agg (eE r).2.1.row, .int .i64 (-1), .int .i64 0]else [.agg [.slice [], .slice [], .slice []], .int .i64 (eE r).2.2.1, .int .i64 (eE r).2.2.2])else [.agg [.slice [], .slice [], .slice []], .int .i64 0, .int .i64 (dG r)])
noncomputable def Pt (r:aH):PV:= .tuple (if dG r=0 then (if (eE r).2.2.2=0 then [.slice ((eE r).1.map ay.row), .int .i64 0]else [.slice [], .int .i64 (eE r).2.2.2])else [.slice [], .int .i64 (dG r)])
theorem Kd {r:aH}(sh:eN r)(hH:0<H.length):bM KC (aC KC) 15 [.pure (.agg r.row)] c H=some (.pure (Ps r),H):=by
 unfold Ps;by_cases h0:dG r=0
 ·rw [if_pos h0];exact LW (z8 h0 sh) hH
 ·rw [if_neg h0];refine aN (aJ KC au Tryz.func15 rfl rfl IG (by simp) hH ?_);have C:=fun c (H:aj) (hH:0<H.length)=>BB (c:=c) (H:=H) r sh.s sh.l sh.p sh.t sh.a hH;have he':(dG r !=0)=true:=(by simpa using h0);rw [cQ]at C⊢;simp [C,he',aE];rw [aa (by simp)];simp
theorem Ck {r:aH}(sh:eN r)(hH:0<H.length):aI KC (aC KC) 18 [.pure (.agg r.row)] c H=some (.pure (Pt r),H):=by
 unfold Pt;refine aN (bj KC au Tryz.func18 rfl rfl Ve rfl rfl rfl (by simp) hH ?_);have C:=fun c (H:aj) (hH:0<H.length)=>D9 (c:=c) (H:=H) (g:= .pure (.agg r.row)) r sh rfl hH;by_cases h0:dG r=0
 ·rw [if_pos h0];have R:=fun c (H:aj) (hH:0<H.length)=>Pr (c:=c) (H:=H) (z8 h0 sh).toyx hH;rw [h0]at C;generalize eE r=q at R⊢;obtain⟨l,s,aR,e⟩:=q;simp only at R⊢;rw [cQ]at C R⊢;by_cases he:e=0
  ·subst he;simp only [if_true]at R;simp [C,R];rw [aa (by simp)];simp
  ·simp only [he,if_false]at R;simp [C,R,he];rw [aa (by simp)];simp
 ·rw [if_neg h0];have he':(dG r !=0)=true:=(by simpa using h0);rw [cQ]at C⊢;simp [C,he'];rw [aa (by simp)];simp
end
section
variable {c:Nat} {H:aj}
theorem y8 {rows:List (List PV)}:cK (if rows=[]then .aS else .pure (.slice rows))= .pure (.slice rows):=by
 split
 ·rename_i h;subst h;rfl
 ·rfl
theorem Fl (r:aH)(h:eN r)(ai:List ak)(hal:ai.length≤1000000)(hH:0<H.length):
  aI KC (aC KC) 67 [.pure (.agg r.row), .pure (.slice (ai.map ak.row))] c H=some (.pure (.agg ({r with ai:=ai}:aH).row),H):=by
 refine aN (bj KC au Tryz.func67 rfl rfl Vx rfl rfl rfl (by simp) hH ?_);rw [cQ];have h1:=h.p;have h2:=h.t;have h4:=h.s;have h5:=h.l;have b1:r.ah.length*16≤1099511627776:=(by omega);have b2:r.ae.length*40≤1099511627776:=(by omega);have b3:r.seen.length*8≤1099511627776:=(by omega);have b4:r.aY.length*8≤1099511627776:=(by omega);have b5:ai.length*72≤1099511627776:=(by omega);have l1: ∀x:aQ,x.row.length=2:=fun x=>rfl;have l2: ∀x:aV,x.row.length=5:=fun x=>rfl;have l3: ∀x:ak,x.row.length=9:=fun x=>rfl;have l4: ∀x:Int,(aG x).length=1:=fun x=>rfl;have A1:=fun fr hf=>iQ (H:=H) (l:=H.length) (key:=8) (es:=2) (bytes:=16) (rows:=r.ah.map aQ.row) (fr:=fr) rfl hf (by simpa using b1);have A2:=fun fr hf=>iQ (H:=H) (l:=H.length) (key:=12) (es:=5) (bytes:=40) (rows:=r.ae.map aV.row) (fr:=fr) rfl hf (by simpa using b2);have A3:=fun fr hf=>iQ (H:=H) (l:=H.length) (key:=18) (es:=1) (bytes:=8) (rows:=r.seen.map aG) (fr:=fr) rfl hf (by simpa using b3);have A4:=fun fr hf=>iQ (H:=H) (l:=H.length) (key:=22) (es:=1) (bytes:=8) (rows:=r.aY.map aG) (fr:=fr) rfl hf (by simpa using b4);have A5:=fun fr hf=>iQ (H:=H) (l:=H.length) (key:=27) (es:=9) (bytes:=72) (rows:=ai.map ak.row) (fr:=fr) rfl hf (by simpa using b5);simp [A1,A2,A3,A4,A5,l1,l2,l3,l4,aE];generalize hx:dM.box [.pure (.int .i64 r.wide), .pure (.int .i64 r.deep),cv (H.length,8) 2 (r.ah.map aQ.row),cv (H.length,12) 5 (r.ae.map aV.row),cv (H.length,18) 1 (r.seen.map aG),cv (H.length,22) 1 (r.aY.map aG),cv (H.length,27) 9 (ai.map ak.row)]=x;obtain⟨F,hF⟩: ∃F,dS 27 9 (ai.map ak.row) (dS 22 1 (r.aY.map aG) (dS 18 1 (r.seen.map aG) (dS 12 5 (r.ae.map aV.row) (dS 8 2 (r.ah.map aQ.row) [(2,x),(4,x)]))))=F:=⟨_,rfl⟩;have g1:r.ah.map aQ.row≠[]→F.get 8=some (.arr 2 (r.ah.map aQ.row) 0 false):=fun h=>by
  rw [←hF,bu (by decide),bu (by decide),bu (by decide),bu (by decide),cw h]
 have g2:r.ae.map aV.row≠[]→F.get 12=some (.arr 5 (r.ae.map aV.row) 0 false):=fun h=>by
  rw [←hF,bu (by decide),bu (by decide),bu (by decide),cw h]
 have g3:r.seen.map aG≠[]→F.get 18=some (.arr 1 (r.seen.map aG) 0 false):=fun h=>by
  rw [←hF,bu (by decide),bu (by decide),cw h]
 have g4:r.aY.map aG≠[]→F.get 22=some (.arr 1 (r.aY.map aG) 0 false):=fun h=>by
  rw [←hF,bu (by decide),cw h]
 have g5:ai.map ak.row≠[]→F.get 27=some (.arr 9 (ai.map ak.row) 0 false):=fun h=>by
  rw [←hF,cw h]
 rw [hF,aa (by simp),gK];have lt:H.length-1<H.length:=(by omega);rw [pR];have e:canon (dm ([.pure (.int .i64 r.wide), .pure (.int .i64 r.deep),cv (H.length,8) 2 (r.ah.map aQ.row),cv (H.length,12) 5 (r.ae.map aV.row),cv (H.length,18) 1 (r.seen.map aG),cv (H.length,22) 1 (r.aY.map aG),cv (H.length,27) 9 (ai.map ak.row)].map (cL (F::H) (H.length-1))))= .pure (.agg ({r with ai:=ai}:aH).row):=by
  refine oo ?_;simp only [List.map_cons,List.map_nil,lZ,dp rfl lt g1,dp rfl lt g2,dp rfl lt g3,dp rfl lt g4,dp rfl lt g5,y8];rfl
 rw [e]
end
section
variable {c:Nat} {H:aj}
theorem Ke (l:List aQ)(hn:l.length≤1000000){F:Fr}(hf:F.get (aq c 7)=none):
  aI KC (aC KC) 102 [.pure (.slice (l.map aQ.row))] c (F::H)=some (cv (H.length,aq c 7) 2 (l.map aQ.row),dS (aq c 7) 2 (l.map aQ.row) F::H):=by
 by_cases h:l=[]
 ·subst h;unfold aI;rw [show KC.tG 102=true from rfl]
  simp [jv,dZ,gW]
 ·have h':l.map aQ.row≠[]:=(by simpa using h);rw [wY (c:=c) (H:=F::H) l h hn (by simp) (by simpa using hf)];unfold cv dS;rw [if_neg h',if_neg h'];simp
theorem Kf (l:List aV)(hn:l.length≤1000000){F:Fr}(hf:F.get (aq c 7)=none):
  aI KC (aC KC) 103 [.pure (.slice (l.map aV.row))] c (F::H)=some (cv (H.length,aq c 7) 5 (l.map aV.row),dS (aq c 7) 5 (l.map aV.row) F::H):=by
 by_cases h:l=[]
 ·subst h;unfold aI;rw [show KC.tG 103=true from rfl]
  simp [jv,dZ,gW]
 ·have h':l.map aV.row≠[]:=(by simpa using h);rw [xJ (c:=c) (H:=F::H) l h hn (by simp) (by simpa using hf)];unfold cv dS;rw [if_neg h',if_neg h'];simp
theorem Cl (l:List Int)(hn:l.length≤1000000){F:Fr}(hf:F.get (aq c 7)=none):
  aI KC (aC KC) 99 [.pure (.slice (l.map aG))] c (F::H)=some (cv (H.length,aq c 7) 1 (l.map aG),dS (aq c 7) 1 (l.map aG) F::H):=by
 by_cases h:l=[]
 ·subst h;unfold aI;rw [show KC.tG 99=true from rfl]
  simp [jv,dZ,gW]
 ·have h':l.map aG≠[]:=(by simpa using h);rw [pg (c:=c) (H:=F::H) l h hn (by simp) (by simpa using hf)];unfold cv dS;rw [if_neg h',if_neg h'];simp
theorem Cm (l:List ak)(hn:l.length≤1000000){F:Fr}(hf:F.get (aq c 7)=none):
  aI KC (aC KC) 75 [.pure (.slice (l.map ak.row))] c (F::H)=some (cv (H.length,aq c 7) 9 (l.map ak.row),dS (aq c 7) 9 (l.map ak.row) F::H):=by
 by_cases h:l=[]
 ·subst h;unfold aI;rw [show KC.tG 75=true from rfl]
  simp [jv,dZ,gW]
 ·have h':l.map ak.row≠[]:=(by simpa using h);rw [ux (c:=c) (H:=F::H) l h hn (by simp) (by simpa using hf)];unfold cv dS;rw [if_neg h',if_neg h'];simp
theorem Fm (r:aH)(h:eN r)(ai:List ak)(hal:ai.length≤1000000)(hH:0<H.length):
  aI KC (aC KC) 65 [.pure (.agg r.row), .pure (.slice (ai.map ak.row))] c H=some (.pure (.agg ({r with ai:=ai}:aH).row),H):=by
 refine aN (bj KC au Tryz.func65 rfl rfl Vv rfl rfl rfl (by simp) hH ?_);rw [cQ];have h1:=h.p;have h2:=h.t;have h4:=h.s;have h5:=h.l;have m1:aq 7 7=28680:=(by decide);have m2:aq 10 7=28683:=(by decide);have m3:aq 13 7=28686:=(by decide);have m4:aq 16 7=28689:=(by decide);have m5:aq 18 7=28691:=(by decide);have C1:=fun(F:Fr) hf=>Ke (c:=7) (H:=H) (F:=F) r.ah h1 hf;have C2:=fun(F:Fr) hf=>Kf (c:=10) (H:=H) (F:=F) r.ae h2 hf;have C3:=fun(F:Fr) hf=>Cl (c:=13) (H:=H) (F:=F) r.seen h4 hf;have C4:=fun(F:Fr) hf=>Cl (c:=16) (H:=H) (F:=F) r.aY h5 hf;have C5:=fun(F:Fr) hf=>Cm (c:=18) (H:=H) (F:=F) ai hal hf;rw [m1]at C1;rw [m2]at C2;rw [m3]at C3;rw [m4]at C4;rw [m5]at C5;simp [C1,C2,C3,C4,C5,aE];generalize hx:dM.box [.pure (.int .i64 r.wide), .pure (.int .i64 r.deep),cv (H.length,28680) 2 (r.ah.map aQ.row),cv (H.length,28683) 5 (r.ae.map aV.row),cv (H.length,28686) 1 (r.seen.map aG),cv (H.length,28689) 1 (r.aY.map aG),cv (H.length,28691) 9 (ai.map ak.row)]=x;obtain⟨F,hF⟩: ∃F,dS 28691 9 (ai.map ak.row) (dS 28689 1 (r.aY.map aG) (dS 28686 1 (r.seen.map aG) (dS 28683 5 (r.ae.map aV.row) (dS 28680 2 (r.ah.map aQ.row) [(2,x),(4,x)]))))=F:=⟨_,rfl⟩;have g1:r.ah.map aQ.row≠[]→F.get 28680=some (.arr 2 (r.ah.map aQ.row) 0 false):=fun h=>by
  rw [←hF,bu (by decide),bu (by decide),bu (by decide),bu (by decide),cw h]
 have g2:r.ae.map aV.row≠[]→F.get 28683=some (.arr 5 (r.ae.map aV.row) 0 false):=fun h=>by
  rw [←hF,bu (by decide),bu (by decide),bu (by decide),cw h]
 have g3:r.seen.map aG≠[]→F.get 28686=some (.arr 1 (r.seen.map aG) 0 false):=fun h=>by
  rw [←hF,bu (by decide),bu (by decide),cw h]
 have g4:r.aY.map aG≠[]→F.get 28689=some (.arr 1 (r.aY.map aG) 0 false):=fun h=>by
  rw [←hF,bu (by decide),cw h]
 have g5:ai.map ak.row≠[]→F.get 28691=some (.arr 9 (ai.map ak.row) 0 false):=fun h=>by
  rw [←hF,cw h]
 rw [hF,aa (by simp),gK];have lt:H.length-1<H.length:=(by omega);rw [pR];have e:canon (dm ([.pure (.int .i64 r.wide), .pure (.int .i64 r.deep),cv (H.length,28680) 2 (r.ah.map aQ.row),cv (H.length,28683) 5 (r.ae.map aV.row),cv (H.length,28686) 1 (r.seen.map aG),cv (H.length,28689) 1 (r.aY.map aG),cv (H.length,28691) 9 (ai.map ak.row)].map (cL (F::H) (H.length-1))))= .pure (.agg ({r with ai:=ai}:aH).row):=by
  refine oo ?_;simp only [List.map_cons,List.map_nil,lZ,dp rfl lt g1,dp rfl lt g2,dp rfl lt g3,dp rfl lt g4,dp rfl lt g5,y8];rfl
 rw [e]
end
section
variable {c:Nat} {H:aj}
end
section
variable {c:Nat} {H:aj}
end
section
variable {c:Nat} {H:aj}
end
theorem rdO {F:Fr} {H:aj} {n2 n3 n7:Nat} {r:aH} (h2:r.ah.map aQ.row≠[]→F.get n2=some (.arr 2 (r.ah.map aQ.row) 0 false)) (h3:r.ae.map aV.row≠[]→F.get n3=some (.arr 5 (r.ae.map aV.row) 0 false))
  (h7:r.ai.map ak.row≠[]→F.get n7=some (.arr 9 (r.ai.map ak.row) 0 false)):nd (F::H) (Ae (H.length,n2) (H.length,n3) (H.length,n7) r) (.agg r.row):=by
 have g: ∀k,aj.get (F::H) (H.length,k)=F.get k:=fun k=>(by simp);rw [cQ];unfold Ae;rw [rB];simp only [om,rA,og,and_true,true_and];exact⟨kB fun h=>(g _).trans (h2 h),kB fun h=>(g _).trans (h3 h),kB fun h=>(g _).trans (h7 h)⟩
section
variable {c:Nat} {H:aj}
def ql (f f':Fr):Prop:=(f.ia→f'.ia)∧ ∀k,f'.get k=f.get k∨ ∃es rows v ro,f.get k=some (.arr es rows v ro)∧f'.get k=some (.arr es rows v true)
theorem ql.refl (f:Fr):ql f f:=⟨id,fun _=> .inl rfl⟩
theorem ql.trans {a b d:Fr}(h1:ql a b)(h2:ql b d):ql a d:=by
 refine⟨fun h=>h2.1 (h1.1 h),fun k=> ?_⟩;rcases h1.2 k with e1|⟨es,rows,v,ro,x1,y1⟩
 ·rcases h2.2 k with e2|⟨es,rows,v,ro,x2,y2⟩
  ·exact .inl (e2.trans e1)
  ·exact .inr ⟨es,rows,v,ro,e1▸x2,y2⟩
 ·rcases h2.2 k with e2|⟨es',rows',v',ro',x2,y2⟩
  ·exact .inr ⟨es,rows,v,ro,x1,e2.trans y1⟩
  ·rw [y1]at x2;cases x2;exact .inr ⟨es,rows,v,ro,x1,y2⟩
theorem ql.box {f f':Fr}(h:ql f f'){k:Nat}{cs:List GV}(hk:f.get k=some (.box cs)):f'.get k=some (.box cs):=by
 rcases h.2 k with e|⟨es,rows,v,ro,x,y⟩
 ·rw [e,hk]
 ·rw [hk]at x;cases x
theorem ql.none {f f':Fr}(h:ql f f'){k:Nat}(hk:f.get k=none):f'.get k=none:=by
 rcases h.2 k with e|⟨es,rows,v,ro,x,y⟩
 ·rw [e,hk]
 ·rw [hk]at x;cases x
theorem ql.empty {f':Fr}(h:ql [] f'):f'=[]:=by
 cases f' with
 |nil=>rfl
 |cons x r=>
  obtain⟨k,b⟩:=x;have:=h.none (k:=k) rfl;simp at this
inductive kL:aj→aj→Prop
 |nil:kL [] []
 |cons {f f':Fr} {H H':aj} (h:ql f f') (t:kL H H'):kL (f::H) (f'::H')
theorem kL.refl: ∀H:aj,kL H H
 | []=> .nil
 |f::H=> .cons (ql.refl f) (kL.refl H)
theorem kL.trans {A B D:aj}(h1:kL A B)(h2:kL B D):kL A D:=by
 induction h1 generalizing D with
 |nil=>exact h2
 |cons h t ih=>cases h2 with|cons h' t'=>exact .cons (h.trans h') (ih t')
theorem kL.len {A B:aj}(h:kL A B):B.length=A.length:=by
 induction h with
 |nil=>rfl
 |cons _ _ ih=>simp [ih]
theorem kL.get {A B:aj}(h:kL A B)(nm:Nm):B.get nm=A.get nm∨ ∃es rows v ro,A.get nm=some (.arr es rows v ro)∧B.get nm=some (.arr es rows v true):=by
 induction h with
 |nil=>exact .inl rfl
 | @cons f f' H H' h t ih=>
  have hl:=t.len;rw [aj.mU,aj.mU,hl];by_cases e:nm.1=H.length
  ·rw [if_pos e,if_pos e];exact h.2 nm.2
  ·rw [if_neg e,if_neg e];exact ih
theorem kL.HG {A B:aj}(h:kL A B):fE A B:=fun nm es rows v ro hg=>by
 rcases h.get nm with e|⟨es',rows',v',ro',x,y⟩
 ·exact⟨ro,e.trans hg⟩
 ·rw [hg]at x;cases x;exact⟨true,y⟩
theorem ql.ins {f:Fr}{k es:Nat}{rows:List (List PV)}{v:Nat}{ro:Bool}(h:f.get k=some (.arr es rows v ro)):ql f (f.ins k (.arr es rows v true)):=by
 refine⟨fun hs=>Fr.cW hs,fun j=> ?_⟩;by_cases e:j=k
 ·subst e;exact .inr ⟨es,rows,v,ro,h,Fr.bp ..⟩
 ·exact .inl (Fr.ax _ e _)
theorem kL.set {nm:Nm}{es:Nat}{rows:List (List PV)}{v:Nat}{ro:Bool}: ∀{H:aj},H.get nm=some (.arr es rows v ro)→kL H (H.set nm (.arr es rows v true))
 | [],h=>by simp [aj.get]at h
 |f::H,h=>by
  rw [aj.mU]at h;simp only [aj.set];by_cases e:nm.1=H.length
  ·rw [if_pos e]at h⊢;exact .cons (ql.ins h) (kL.refl H)
  ·rw [if_neg e]at h⊢;exact .cons (ql.refl f) (kL.set h)
theorem xj (H:aj)(g:GV):kL H (dH H g).2:=by
 cases g with
 |aW nm es top lo len=>
  simp only [dH,dI]
  cases hg:H.get nm with
  |none=>exact kL.refl H
  |some b=>
   cases b with
   |arr es' elems vf ro=>
    simp only;split
    ·exact kL.set hg
    ·exact kL.refl H
   |_=>exact kL.refl H
 |_=>exact kL.refl H
theorem uJ: ∀(l:List GV) (H:aj),kL H (fF H l).2
 | [],H=>kL.refl H
 |g::l,H=>(xj H g).trans (uJ l _)
theorem mV (H:aj)(g:GV):kL H (dt H g).2:=by
 cases g with
 |agg l=>exact uJ l H
 |_=>exact xj H _
theorem xk: ∀(l:List GV) (H:aj),kL H (bm H l).2
 | [],H=>kL.refl H
 |g::l,H=>(mV H g).trans (xk l _)
theorem sB: ∀(l:List PV) (H:aj),bm H (l.map .pure)=(l.map .pure,H)
 | [],H=>rfl
 |p::l,H=>by
  rw [List.map_cons];simp only [bm];have e:dt H (.pure p)=(.pure p,H):=rfl;rw [e];simp only [sB l H]
end
section
variable {c:Nat} {H:aj}
theorem mW {f:FuncId}(h1:KC.tG f=false)(h2:KC.Aw f=false)(h3:KC.Gs f=true)(ps:List PV):aI KC (aC KC) f (ps.map .pure) c H=bM KC (aC KC) f (ps.map .pure) c H:=by
 rw [gR h1 h2 h3,sB]
end
section
variable {c:Nat} {H:aj}
noncomputable def tE:aH→Int:=na fun r=>if dG r=0 then (eE r).2.2.2 else dG r
theorem xl (r:aH):tE r=if dG r=0 then (eE r).2.2.2 else dG r:=by rw [tE,cO]
theorem Xf {r:aH}: ∃(s:ay) (n:Int),Ps r= .tuple [.agg s.row, .int .i64 n, .int .i64 (tE r)]:=by
 unfold Ps;rw [xl];by_cases h0:dG r=0
 ·rw [if_pos h0,if_pos h0];by_cases he:(eE r).2.2.2=0
  ·rw [if_pos he,he];exact⟨_,_,rfl⟩
  ·rw [if_neg he];exact⟨⟨[],[],[]⟩,_,rfl⟩
 ·rw [if_neg h0,if_neg h0];exact⟨⟨[],[],[]⟩,0,rfl⟩
theorem Xg {r:aH}:Pt r= .tuple [.slice (if tE r=0 then (eE r).1.map ay.row else []), .int .i64 (tE r)]:=by
 unfold Pt;rw [xl];by_cases h0:dG r=0
 ·rw [if_pos h0,if_pos h0];by_cases he:(eE r).2.2.2=0
  ·rw [if_pos he,if_pos he,he]
  ·rw [if_neg he,if_neg he]
 ·rw [if_neg h0,if_neg h0,if_neg h0]
noncomputable def uX:aH→Int→Int→Int:=na fun r act kind=>
 if tE r≠0 then tE r else if cE act 0 ((r.ai.length:Int)-1)=false then 7 else if cE kind 1 3=false then 4 else if kind=2∧(r.ai.getD act.toNat cn).kind=1 then 3 else 0
theorem Au (r:aH)(act kind:Int):uX r act kind=if tE r≠0 then tE r else if cE act 0 ((r.ai.length:Int)-1)=false then 7 else if cE kind 1 3=false then 4 else if kind=2∧(r.ai.getD act.toNat cn).kind=1 then 3 else 0:=by rw [uX,cO]
theorem xm {r:aH}(sh:eN r)(act kind:Int)(hH:0<H.length):
  bM KC (aC KC) 69 [.pure (.agg r.row), .pure (.int .i64 act), .pure (.int .i64 kind)] c H=some (.pure (.int .i64 (uX r act kind)),H):=by
 refine aN (aJ KC au Tryz.func69 rfl rfl Vy (by simp) hH ?_);have R:=fun(c:Nat) (H:aj) (hH:0<H.length)=>(mW (f:=15) (c:=c) (H:=H) rfl rfl rfl [.agg r.row]).trans (Kd (c:=c) sh hH);obtain⟨s,n,hs⟩:=Xf (r:=r);rw [hs]at R;have I:=fun(c:Nat) (x lo hi:Int) (H:aj) (hH:0<H.length)=>dx (c:=c) (x:=x) (lo:=lo) (hi:=hi) (H:=H) hH;have ha:=sh.a;have hw:IntKind.i64.wrap ((r.ai.length:Int)-1)=(r.ai.length:Int)-1:=cu (by omega) (by omega);simp only [List.map_cons,List.map_nil]at R;rw [cQ]at R⊢;rw [Au];unfold ay.row at R;by_cases he:tE r=0
 ·rw [he]at R⊢;by_cases h1:cE act 0 ((r.ai.length:Int)-1)=true
  ·obtain⟨a1,a2⟩:=sk.1 h1;obtain⟨k,rfl⟩:=Int.eq_ofNat_of_zero_le a1;have hk:k<r.ai.length:=(by omega);have hg:r.ai.getD k cn=r.ai[k]:=bc hk;by_cases h2:cE kind 1 3=true
   ·by_cases h3:kind=2
    ·subst h3;have h2':cE 2 1 3=true:=(by decide);by_cases h4:r.ai[k].kind=1
     ·simp [R,I,hw,h1,h2',hk,ak.row,h4,aa,aE,hg]
     ·have h4':(r.ai[k].kind==1)=false:=(by simpa using h4);simp [R,I,hw,h1,h2',hk,ak.row,h4,h4',aa,aE,hg]
    ·have h3':(kind==2)=false:=(by simpa using h3);simp [R,I,hw,h1,h2,h3,h3',aa,aE]
   ·have h2':cE kind 1 3=false:=(by simpa using h2);simp [R,I,hw,h1,h2',aa,aE]
  ·have h1':cE act 0 ((r.ai.length:Int)-1)=false:=(by simpa using h1);simp [R,I,hw,h1',aa,aE]
 ·have he':(tE r !=0)=true:=(by simpa using he);simp [R,he,he',aa,aE]
end
section
variable {c:Nat} {H:aj}
theorem Fo (l:List ak): ∀n,jw l n≤n
 |0=>Nat.le_refl _
 |n+1=>by
  have:=Fo l n;unfold jw;split<;>omega
def Pu:dM:= .box [.aS, .aS, .aS]
theorem HH (r:aH) {act:Nat} (l:PV) (h:act<r.ai.length) (hn:r.ai.length≤1000000) (Q:GX→bP→Prop)
  (h1:Q (.exit 0) ⟨[(1, .pure l),(6, .aD (H.length,6) 0),(7, .pure (.int .i64 (jw r.ai act)))],[(3,aA r),(6,Pu)]::H,34⟩): ∀(k n:Nat),n+k=act→
  fL KC au 110 (lp Tryz.f110 0) [1,2,3,6,7,8] [1,6,7] Q [(1, .pure l),(2, .pure (.int .i64 act)),(3, .aD (H.length,3) 0),(6, .aD (H.length,6) 0),(7, .pure (.int .i64 (jw r.ai n))),(8, .pure (.int .i64 ((n:Int)+1)))] ([(3,aA r),(6,Pu)]::H) 34:=by
 intro k
 induction k with
 |zero=>
  intro n hk;obtain rfl:n=act:=(by omega);have hlt: ¬(n:Int)+1≤n:=(by omega);apply aw;conv=>arg 4;whnf
  simp [hlt,aA,Pu];simpa [aA,Pu]using h1
 |succ k ih=>
  intro n hk;have hle:(n:Int)+1≤act:=(by omega);have h0:n<r.ai.length:=(by omega);have h2:n+1<r.ai.length:=(by omega);have g0:=bc (d:=cn) h0;have g2:=bc (d:=cn) h2;have jt:Int.toNat ((n:Int)+1)=n+1:=(by omega);have jn: ¬(n:Int)+1<0:=(by omega);have jl:(n:Int)+1<r.ai.length:=(by omega);have w2:=cu (x:=(n:Int)) (by omega) (by omega);have w3:=cu (x:=(n:Int)+1+1) (by omega) (by omega);have cl:=Fo r.ai n;have w4:=cu (x:=(jw r.ai n:Int)+1) (by omega) (by omega);have ih':=ih (n+1) (by omega);by_cases hne:r.ai[n+1].aR=r.ai[n].aR
  ·have e:jw r.ai (n+1)=jw r.ai n:=by
    rw [jw,g0,g2,if_neg (by simpa using hne)];rfl
   rw [e]at ih';have hb:(r.ai[n+1].aR !=r.ai[n].aR)=false:=(by simpa using hne);apply aw;conv=>arg 4;whnf
   simp [hle,aA,Pu,jt,jn,jl,h0,h2,w2,w3,ak.row,hb];simpa [aA,Pu]using ih'
  ·have e:jw r.ai (n+1)=jw r.ai n+1:=by
    rw [jw,g0,g2,if_pos hne]
   rw [e]at ih';have hb:(r.ai[n+1].aR !=r.ai[n].aR)=true:=(by simpa using hne);apply aw;conv=>arg 4;whnf
   simp [hle,aA,Pu,jt,jn,jl,h0,h2,w2,w3,w4,ak.row,hb];simpa [aA,Pu]using ih'
theorem En {r:aH}{act:Nat}(h:act<r.ai.length)(hn:r.ai.length≤1000000)(l:List ay){s:ay}(hs:l[jw r.ai act]? =some s)(hH:0<H.length):
  aI KC (aC KC) 110 [.pure (.agg r.row), .pure (.slice (l.map ay.row)), .pure (.int .i64 act)] c H=some (.pure (.agg s.row),H):=by
 refine aN (bj KC au Tryz.func110 rfl rfl Oa rfl rfl rfl (by simp) hH ?_);have L:=fun Q h1=>HH (H:=H) r (.slice (l.map ay.row)) h hn Q h1 act 0 (by omega);have c0:jw r.ai 0=0:=rfl;rw [c0]at L;rw [cQ];simp [aA,Pu]at L;have hl:jw r.ai act<l.length:=by
  rcases Nat.lt_or_ge (jw r.ai act) l.length with h|h
  ·exact h
  ·rw [List.getElem?_eq_none h]at hs;cases hs
 have hg:l[jw r.ai act]=s:=(by rw [List.getElem?_eq_getElem hl]at hs;simpa using hs);simp;refine L _ ?_;simp [hl,hg,ay.row,aE];rw [aa (by simp)];simp [ay.row]
end
section
variable {c:Nat} {H:aj}
theorem Cn (hH:0<H.length):aI KC (aC KC) 111 [.aS] c H=some (.pure (.slice []),H):=by
 rw [gR rfl rfl rfl];exact(mw (K:=KC) (b:=[.pure (.slice (([]:List ak).map ak.row))]) rfl).trans (uy (c:=c) [] (by simp) hH)
theorem Eo (l:List ak)(hn:l.length≤1000000){nm:Nm}{v:Nat}(hg:H.get nm=some (.arr 9 (l.map ak.row) v false))(hv:v≤l.length)(hH:0<H.length):
  aI KC (aC KC) 111 [.aW nm 9 l.length 0 l.length] c H=some (.pure (.slice ((a7 l).map ak.row)),H.set nm (.arr 9 (l.map ak.row) v true)):=by
 rw [gR rfl rfl rfl];have e:bm H [.aW nm 9 l.length 0 l.length]=([.pure (.slice (l.map ak.row))],H.set nm (.arr 9 (l.map ak.row) v true)):=by
  have tl:List.take l.length (l.map ak.row)=l.map ak.row:=List.take_of_length_le (by simp);simp [bm,dt,dH,dI,hg,hv,tl]
 rw [e];exact uy (c:=c) l hn (by simpa using hH)
def pt (H:aj)(fr:Fr)(g:GV)(A:List ak):Prop:=
 (g= .aS∧A=[])∨(A≠[]∧ ∃key v,g= .aW (H.length,key) 9 A.length 0 A.length∧fr.get key=some (.arr 9 (A.map ak.row) v false)∧v≤A.length)
theorem pt.el {fr:Fr}{g:GV}{A:List ak}(h:pt H fr g A): ∃H',gn (fr::H) g=some (A.map ak.row,H')∧H'=fr::H:=by
 rcases h with ⟨rfl,rfl⟩|⟨hne,key,v,rfl,hg,hv⟩
 ·exact⟨_,by simp,rfl⟩
 ·have tl:List.take A.length (A.map ak.row)=A.map ak.row:=List.take_of_length_le (by simp);refine⟨_, ?_,rfl⟩;simp [hg,hv,tl]
theorem sC {fr:Fr}{gA:GV}{A B:List ak}(hA:pt H fr gA A)(hf:fr.get 83=none)(hn:A.length+B.length≤1000000)(R:GV×aj→Prop)(h: ∀fr',R (.pure (.slice ((a7 (A++B)).map ak.row)),fr'::H)):
  ku (vo H.length 83 gA 9 72 (B.map ak.row) (fr::H)) fun x=>ku (aI KC (aC KC) 111 [x.1] 84 x.2) R:=by
 have N:=fun fr=>Cn (c:=84) (H:=fr::H) (by simp);have S:=fun l hn fr nm v hg hv=>Eo (c:=84) (H:=fr::H) l hn (nm:=nm) (v:=v) hg hv (by simp);rcases hA with ⟨rfl,rfl⟩|⟨hne,key,v,rfl,hg,hv⟩
 ·by_cases hB:B=[]
  ·subst hB;have h':=h fr;have e:a7 ([]++[])=[]:=rfl;rw [e]at h';simp [N];exact h'
  ·have hm: ¬H.length+1≤H.length:=(by omega);have hb:B.length*72≤1099511627776:=(by simp at hn;omega);have S':=fun fr hg=>S B (by simpa using hn) fr (H.length,83) 0 hg (Nat.zero_le _);simp at S';simp [hB,hf,hm,hb];rw [S' _ (Fr.bp _ _ _)];simpa using h _
 ·by_cases hB:B=[]
  ·subst hB;have S':=S A (by simpa using hn) fr (H.length,key) v (by simpa using hg) hv;have hb:A.length*72≤1099511627776:=(by simp at hn;omega);simp [hg,hv,hb,S'];simpa using h _
  ·have hb:(A.length+B.length)*72≤1099511627776:=(by omega);have S':=fun fr hg=>S (A++B) (by simpa using hn) fr (H.length,key) v hg (by simp;omega);simp at S';simp [hB,hg,hv,hb];rw [S' _ (Fr.bp _ _ _)];simpa using h _
theorem mX {key:Nat} {fr:Fr} (A:List ak) (hf:fr.get key=none) (hn:A.length≤1000000) (R:GV×aj→Prop)
  (h: ∀g fr',pt H fr' g A→(∀q top,g= .aW (H.length,q) 9 top 0 top→q=key)→(∀k,k≠key→fr'.get k=fr.get k)→R (g,fr'::H)):
  ku (vo H.length key .aS 9 72 (A.map ak.row) (fr::H)) R:=by
 by_cases hA:A=[]
 ·subst hA;have:=h .aS fr (Or.inl ⟨rfl,rfl⟩) (fun q top e=>by cases e) (fun _ _=>rfl);simpa using this
 ·have hm: ¬H.length+1≤H.length:=(by omega);have hb:A.length*72≤1099511627776:=(by omega);have:=h (.aW (H.length,key) 9 A.length 0 A.length) (fr.ins key (.arr 9 (A.map ak.row) 0 false)) (Or.inr ⟨hA,key,0,rfl,Fr.bp _ _ _,Nat.zero_le _⟩) (fun q top e=>by cases e;rfl) (fun k hk=>Fr.ax _ hk _);simp [hA,hf,hm,hb];exact this
theorem pt.frame {fr fr':Fr}{g:GV}{A:List ak}(h:pt H fr g A){k:Nat}(hk: ∀key top,g= .aW (H.length,key) 9 top 0 top→key≠k)(hf: ∀q,q≠k→fr'.get q=fr.get q):pt H fr' g A:=by
 rcases h with h|⟨hne,key,v,rfl,hg,hv⟩
 ·exact Or.inl h
 ·exact Or.inr ⟨hne,key,v,rfl,by rw [hf _ (hk _ _ rfl)];exact hg,hv⟩
theorem Co {key:Nat} {fr:Fr} {g:GV} {A:List ak} (a:ak) (L:pt H fr g A) (hf:fr.get key=none) (hn:A.length+1≤1000000) (R:GV×aj→Prop)
  (h: ∀g' fr',pt H fr' g' (A++[a])→(∀q top,g'= .aW (H.length,q) 9 top 0 top→q=key∨ ∃top,g= .aW (H.length,q) 9 top 0 top)→(∀k,k≠key→(∀top,g≠ .aW (H.length,k) 9 top 0 top)→fr'.get k=fr.get k)→R (g',fr'::H)):
  ku (vo H.length key g 9 72 [a.row] (fr::H)) R:=by
 rcases L with ⟨rfl,rfl⟩|⟨hne,dw,v,rfl,hg,hv⟩
 ·have hm: ¬H.length+1≤H.length:=(by omega);have:=h (.aW (H.length,key) 9 1 0 1) (fr.ins key (.arr 9 [a.row] 0 false)) (Or.inr ⟨by simp,key,0,rfl,Fr.bp _ _ _,Nat.zero_le _⟩) (fun q top e=>by cases e;exact Or.inl rfl) (fun k hk _=>Fr.ax _ hk _);simp [hf,hm];exact this
 ·have hb:(A.length+1)*72≤1099511627776:=(by omega);have:=h (.aW (H.length,dw) 9 (A.length+1) 0 (A.length+1)) (fr.ins dw (.arr 9 (A.map ak.row++[a.row]) v false)) (Or.inr ⟨by simp,dw,v,by simp,by rw [Fr.bp];simp,by simp;omega⟩) (fun q top e=>by cases e;exact Or.inr ⟨_,rfl⟩) (fun k _ hk=>Fr.ax _ (fun e=>by subst e;exact hk _ rfl) _);simp [hg,hv,hb];exact this
theorem Pv (B:List ak)(aO:Int):kz B 0 aO=B.map (late aO):=by simp [kz]
theorem pt.cl {fr:Fr}{g:GV}{A:List ak}(h:pt H fr g A)(X:aj):clean X H.length g=g:=by
 rcases h with ⟨rfl,rfl⟩|⟨hne,key,v,rfl,hg,hv⟩<;>simp
theorem HI {g3:GV} (hc: ∀X,clean X H.length g3=g3) {a:ak} {B:List ak} (hB:B≠[]) (hn:B.length≤1000000) (tm: ∀b∈B,0≤b.aR∧b.aR≤1000000) {fr0:Fr} (g9:fr0.get 9=some (.box (a.row.map .pure))) (Q:GX→bP→Prop)
  (h1: ∀fr g,pt H fr g (B.map (late a.aO))→(∀k,k≠30→fr.get k=fr0.get k)→Q (.exit 1) ⟨[(10,g3),(11,g)],fr::H,85⟩): ∀(k i v:Nat) (fr:Fr),i+k=B.length→v≤B.length→fr.get 30=some (.arr 9 ((gB B 0 a.aO i).map ak.row) v false)→(∀k,k≠30→fr.get k=fr0.get k)→
  fL KC au 72 (lp Tryz.f72 0) [9,10,11,12] [10,11] Q [(9, .aD (H.length,9) 0),(10,g3),(11, .aW (H.length,30) 9 B.length 0 B.length),(12, .pure (.int .i64 i))] (fr::H) 85:=by
 intro k
 induction k with
 |zero=>
  intro i v fr hi hv hf hk;have e:i=B.length:=(by omega);subst e;rw [EZ _ _ _ (by omega),Pv]at hf;have h1':=h1 fr (.aW (H.length,30) 9 B.length 0 B.length) (Or.inr ⟨by simpa using hB,30,v,by simp,hf,by simpa using hv⟩) hk;apply aw;conv=>arg 4;whnf
  simp [hc];exact h1'
 |succ k ih=>
  intro i v fr hi hv hf hk;have hia:i<B.length:=(by omega);have hw:=cu (x:=(i:Int)+1) (by omega) (by omega);have hml:=yG B 0 a.aO (by omega) i (by omega);have g:=yH B 0 a.aO (by omega) hia;have gs:=wP B 0 a.aO (by omega) (Nat.zero_le _) hia;have tmi:=tm _ (List.getElem_mem hia);have hwt:=cu (x:=B[i].aR+1) (by omega) (by omega);have G: ∀h,(gB B 0 a.aO i)[i]'h=B[i]:=fun h=>(by rw [List.getElem?_eq_getElem h]at g;simpa using g);have g9':fr.get 9=some (.box (a.row.map .pure)):=(by rw [hk 9 (by decide)];exact g9);simp only [ak.row,List.map_cons,List.map_nil]at g9';by_cases hwho:B[i].aO=a.aO
  ·have ih':=ih (i+1) B.length (fr.ins 30 (.arr 9 ((gB B 0 a.aO (i+1)).map ak.row) B.length false)) (by omega) (Nat.le_refl _) (Fr.bp _ _ _) (fun q hq=>by rw [Fr.ax _ hq];exact hk q hq);rw [←gs]at ih';have el:late a.aO B[i]={B[i]with aR:=B[i].aR+1}:=(by unfold late;rw [if_pos hwho]);rw [el]at ih';generalize gB B 0 a.aO i=R at G hml ih' hf⊢;have hwb:(B[i].aO==a.aO)=true:=(by simpa using hwho);have gi: ∀(q:Nat) (x:dM) (f:Fr),(f.ins q x).get q=some x:=fun q x f=>Fr.bp q x f;apply aw;conv=>arg 4;whnf
   simp [hia,hml,hv,G,hw,hwt,hwb,hwho,ak.row,aE,hf,g9',gi,hc];simpa [ak.row,hwho,List.map_set]using ih'
  ·have ih':=ih (i+1) v fr (by omega) hv (by
    rw [←gs];have el:late a.aO B[i]=B[i]:=(by unfold late;rw [if_neg hwho]);rw [el];have es:(gB B 0 a.aO i).set i B[i]=gB B 0 a.aO i:=by
     have hil:i<(gB B 0 a.aO i).length:=(by omega);conv=>lhs;rw [←G hil]
     exact List.set_getElem_self hil
    rw [es];exact hf) hk
   generalize gB B 0 a.aO i=R at G hml hf⊢;have hwb:(B[i].aO==a.aO)=false:=(by simpa using hwho);apply aw;conv=>arg 4;whnf
   simp [hia,hml,hv,G,hw,hwb,ak.row,hf,g9',hc];simpa using ih'
theorem xn {r:aH}(hr:Dv r){act:Nat}(h:act<r.ai.length)(hp:r.ai.Pairwise fun a b=>a.aR≤b.aR)(tm: ∀a∈r.ai,0≤a.aR∧a.aR≤1000000)(hn:r.ai.length≤1000000){kind:Int}(hk2:kind=2→r.ai[act].kind≠1)(sc:List ay)(hs:sc[jw r.ai act]? =some (xG r r.ai[act]))(hH:0<H.length):
  aI KC (aC KC) 72 [.pure (.agg r.row), .pure (.slice (sc.map ay.row)), .pure (.int .i64 act), .pure (.int .i64 kind)] c H=some (.pure (.slice ((iO r act kind).map ak.row)),H):=by
 have hne:r.ai≠[]:=fun e=>(by rw [e]at h;simp at h);have hg:r.ai.getD act cn=r.ai[act]:=bc h;refine aN (bj KC au Tryz.func72 rfl rfl VB rfl rfl rfl (by simp) hH ?_);have hw:=cu (x:=(act:Int)+1) (by omega) (by omega);have hnl: ¬H.length≤H.length-1:=(by omega);have B:=fun(c:Nat) (H:aj) (hH:0<H.length)=>En (c:=c) (H:=H) h hn sc hs hH;rw [cQ]at B⊢;unfold iO;rw [hg];by_cases e2:kind=2
 ·have t1:List.take act (r.ai.map ak.row)=(r.ai.take act).map ak.row:=(by rw [List.map_take]);have t2:List.drop (act+1) (r.ai.map ak.row)=(r.ai.drop (act+1)).map ak.row:=(by rw [List.map_drop]);have r9: ∀l:List ak,(∀x:ak,x∈l→x.row.length=9)=True:=fun l=>eq_true fun x _=>rfl;have t3:List.drop (act+1) (List.take r.ai.length (r.ai.map ak.row))=(r.ai.drop (act+1)).map ak.row:=(by rw [List.take_of_length_le (by simp),t2]);have jn: ¬(act:Int)+1<0:=(by omega);have jl:act+1≤r.ai.length:=h;subst e2;rw [if_pos rfl];have hab:=hr.ab _ (List.getElem_mem h);have hfl:=hab.flip (hk2 rfl);have hhand:(r.ai[act]'h).hand=0∨(r.ai[act]'h).hand=1:=hab.hand;have hwh:IntKind.i64.wrap (1-(r.ai[act]'h).hand)=1-(r.ai[act]'h).hand:=cu (by omega) (by omega);simp [hw,h,ak.row,Nat.le_of_lt h,-List.map_take,-List.map_drop,t1,-c8];refine mX (key:=23) (r.ai.take act) (by simp) (by simp;omega) _ fun g1 fr1 L1 k1 f1=> ?_;have g4:fr1.get 4=some (aA r):=(by rw [f1 4 (by decide)];simp [aA]);have g30:fr1.get 30=none:=(by rw [f1 30 (by decide)];simp);simp [g4,aA,hw,-List.map_take,-List.map_drop,-c8,jn,jl,h,t3,r9];refine mX (key:=30) (r.ai.drop (act+1)) g30 (by simp;omega) _ fun g2 fr2 L2 k2 f2=> ?_;have L1':=L1.frame (k:=30) (fun q top e=>by rw [k1 q top e];decide) f2;have g9:fr2.get 9=some (.box ((r.ai[act]'h).row.map .pure)):=(by rw [f2 9 (by decide),f1 9 (by decide)];simp [ak.row]);have g4':fr2.get 4=some (aA r):=(by rw [f2 4 (by decide)];exact g4);have gi: ∀(q:Nat) (x:dM) (f:Fr),(f.ins q x).get q=some x:=fun q x f=>Fr.bp q x f;have go: ∀(x:dM) (f:Fr),(f.ins 9 x).get 4=f.get 4:=fun x f=>Fr.ax x (by decide) f;obtain⟨a',ha'⟩: ∃a':ak,{(r.ai[act]'h)with hand:=1-(r.ai[act]'h).hand}=a':=⟨_,rfl⟩;have hpW:=hr.w.w1;have hww:r.wide≠0:=(by omega);have P:=fun(c:Nat) (H:aj) (hH:0<H.length)=>kK (c:=c) (H:=H) (BT hr (r.ai[act]'h)).toFF hfl.wl hr.w.pl hww (DR hfl) hH;have hrow:[PV.int .i64 (r.ai[act]'h).aR, .int .i64 (r.ai[act]'h).aO, .int .i64 (r.ai[act]'h).kind, .int .i64 (1-(r.ai[act]'h).hand), .int .i64 (r.ai[act]'h).a9, .int .i64 (r.ai[act]'h).cell, .int .i64 (r.ai[act]'h).other, .int .i64 (r.ai[act]'h).cd, .int .i64 (r.ai[act]'h).iv]=a'.row:=(by rw [←ha'];rfl);have hbox:[GV.pure (.int .i64 (r.ai[act]'h).aR), .pure (.int .i64 (r.ai[act]'h).aO), .pure (.int .i64 (r.ai[act]'h).kind), .pure (.int .i64 (1-(r.ai[act]'h).hand)), .pure (.int .i64 (r.ai[act]'h).a9), .pure (.int .i64 (r.ai[act]'h).cell), .pure (.int .i64 (r.ai[act]'h).other), .pure (.int .i64 (r.ai[act]'h).cd), .pure (.int .i64 (r.ai[act]'h).iv)]=a'.row.map .pure:=(by rw [←ha'];rfl);rw [cQ,ha']at P;rw [←hrow]at P;have g83:fr2.get 83=none:=(by rw [f2 83 (by decide),f1 83 (by decide)];simp);have g48:fr2.get 48=none:=(by rw [f2 48 (by decide),f1 48 (by decide)];simp);have L1'':=L1'.frame (fr':=fr2.ins 9 (.box (a'.row.map .pure))) (k:=9) (fun q top e=>by rw [k1 q top e];decide) (fun q hq=>Fr.ax _ hq _);have L2':=L2.frame (fr':=fr2.ins 9 (.box (a'.row.map .pure))) (k:=9) (fun q top e=>by rw [k2 q top e];decide) (fun q hq=>Fr.ax _ hq _);simp only [ha']
  cases hpos:dy r (xG r r.ai[act]) r.ai[act].aO.toNat a' with
  |true=>
   rw [hpos]at P;simp [g9,g4',aA,ak.row,hwh,-List.map_take,-List.map_drop,-c8,gi,go,B,P];rw [hbox,hrow];refine Co (key:=48) a' L1'' (by rw [Fr.ax _ (by decide)];exact g48) (by simp;omega) _ fun g3 fr3 L3 k3 f3=> ?_;have L2'':pt H fr3 g2 (r.ai.drop (act+1)):=by
    rcases L2' with h0|⟨hne,key,v,rfl,hg,hv⟩
    ·exact Or.inl h0
    ·have:=k2 key _ rfl;subst this;exact Or.inr ⟨hne,_,v,rfl,by rw [f3 _ (by decide) (fun top e=>absurd (k1 _ top e) (by decide))];exact hg,hv⟩
   obtain⟨H',he,rfl⟩:=L2''.el;simp [he,-List.map_take,-List.map_drop,-c8,r9];refine sC L3 (by rw [f3 83 (by decide) (fun top e=>absurd (k1 _ top e) (by decide)),Fr.ax _ (by decide)];exact g83) (by simp;omega) _ fun fr4=> ?_;have es:r.ai.set act a'=(r.ai.take act++[a'])++r.ai.drop (act+1):=by
    rw [List.set_eq_take_append_cons_drop,if_pos h];simp
   have hps:(r.ai.set act a').Pairwise fun a b=>a.aR≤b.aR:=by
    have e1:(r.ai.set act a').map ak.aR=r.ai.map ak.aR:=by
     rw [List.map_set,←ha'];have e2:(r.ai.map ak.aR)[act]'(by simpa using h)=(r.ai[act]'h).aR:=(by simp);rw [show ({(r.ai[act]'h)with hand:=1-(r.ai[act]'h).hand}:ak).aR=(r.ai.map ak.aR)[act]'(by simpa using h)from e2.symm]
     exact List.set_getElem_self _
    have e3:=List.pairwise_map.2 hp;rw [←e1]at e3;exact List.pairwise_map.1 e3
   rw [←es,dD hps];rw [aa (by simp)];simp;rfl
  |false=>
   rw [hpos]at P;simp [g9,g4',aA,ak.row,hwh,-List.map_take,-List.map_drop,-c8,gi,go,B,P];rw [hbox];obtain⟨H',he,rfl⟩:=L2'.el;simp [he,-List.map_take,-List.map_drop,-c8,r9];refine sC L1'' (by rw [Fr.ax _ (by decide)];exact g83) (by simp;omega) _ fun fr3=> ?_;have ee:r.ai.eraseIdx act=r.ai.take act++r.ai.drop (act+1):=List.eraseIdx_eq_take_drop_succ ..;rw [←ee,dD (hp.sublist (List.eraseIdx_sublist ..))];rw [aa (by simp)];simp
 ·have e2':(kind==2)=false:=(by simpa using e2);rw [if_neg e2];by_cases e3:kind=3
  ·have t1:List.take act (r.ai.map ak.row)=(r.ai.take act).map ak.row:=(by rw [List.map_take]);have t2:List.drop (act+1) (r.ai.map ak.row)=(r.ai.drop (act+1)).map ak.row:=(by rw [List.map_drop]);have r9: ∀l:List ak,(∀x:ak,x∈l→x.row.length=9)=True:=fun l=>eq_true fun x _=>rfl;have t3:List.drop (act+1) (List.take r.ai.length (r.ai.map ak.row))=(r.ai.drop (act+1)).map ak.row:=(by rw [List.take_of_length_le (by simp),t2]);have jn: ¬(act:Int)+1<0:=(by omega);have jl:act+1≤r.ai.length:=h;have wa:=cu (x:=(r.ai[act]'h).aR+1) (by have:=tm _ (List.getElem_mem h);omega) (by have:=tm _ (List.getElem_mem h);omega);subst e3;rw [if_pos rfl];simp [hw,h,ak.row,Nat.le_of_lt h,-List.map_take,-List.map_drop,t1,-c8];refine mX (key:=23) (r.ai.take act) (by simp) (by simp;omega) _ fun g1 fr1 L1 k1 f1=> ?_;have g4:fr1.get 4=some (aA r):=(by rw [f1 4 (by decide)];simp [aA]);have g30:fr1.get 30=none:=(by rw [f1 30 (by decide)];simp);simp [g4,aA,hw,-List.map_take,-List.map_drop,-c8,jn,jl,h,t3,r9];refine mX (key:=30) (r.ai.drop (act+1)) g30 (by simp;omega) _ fun g2 fr2 L2 k2 f2=> ?_;have L1':=L1.frame (k:=30) (fun q top e=>by rw [k1 q top e];decide) f2;have g9:fr2.get 9=some (.box ((r.ai[act]'h).row.map .pure)):=(by rw [f2 9 (by decide),f1 9 (by decide)];simp [ak.row]);have gi: ∀(q:Nat) (x:dM) (f:Fr),(f.ins q x).get q=some x:=fun q x f=>Fr.bp q x f;have L2':=L2.frame (fr':=fr2.ins 9 (.box (({(r.ai[act]'h)with aR:=(r.ai[act]'h).aR+1}:ak).row.map .pure))) (k:=9) (fun q top e=>by rw [k2 q top e];decide) (fun q hq=>Fr.ax _ hq _);have L1'':=L1'.frame (fr':=fr2.ins 9 (.box (({(r.ai[act]'h)with aR:=(r.ai[act]'h).aR+1}:ak).row.map .pure))) (k:=9) (fun q top e=>by rw [k1 q top e];decide) (fun q hq=>Fr.ax _ hq _);simp [ak.row]at L1'' L2';simp [g9,ak.row,wa,-List.map_take,-List.map_drop,-c8,gi];have g58:fr2.get 58=none:=(by rw [f2 58 (by decide),f1 58 (by decide)];simp);have g83:fr2.get 83=none:=(by rw [f2 83 (by decide),f1 83 (by decide)];simp);have hlt:late (r.ai[act]'h).aO (r.ai[act]'h)={(r.ai[act]'h)with aR:=(r.ai[act]'h).aR+1}:=(by unfold late;rw [if_pos rfl]);have aW:r.ai.drop act=r.ai[act]::r.ai.drop (act+1):=List.drop_eq_getElem_cons h;rw [aW,List.map_cons,hlt];obtain⟨a',ha'⟩: ∃a':ak,{(r.ai[act]'h)with aR:=(r.ai[act]'h).aR+1}=a':=⟨_,rfl⟩;have hw':a'.aO=(r.ai[act]'h).aO:=(by rw [←ha']);have hrow:[PV.int .i64 ((r.ai[act]'h).aR+1), .int .i64 (r.ai[act]'h).aO, .int .i64 (r.ai[act]'h).kind, .int .i64 (r.ai[act]'h).hand, .int .i64 (r.ai[act]'h).a9, .int .i64 (r.ai[act]'h).cell, .int .i64 (r.ai[act]'h).other, .int .i64 (r.ai[act]'h).cd, .int .i64 (r.ai[act]'h).iv]=a'.row:=(by rw [←ha'];rfl);have hbox:[GV.pure (.int .i64 ((r.ai[act]'h).aR+1)), .pure (.int .i64 (r.ai[act]'h).aO), .pure (.int .i64 (r.ai[act]'h).kind), .pure (.int .i64 (r.ai[act]'h).hand), .pure (.int .i64 (r.ai[act]'h).a9), .pure (.int .i64 (r.ai[act]'h).cell), .pure (.int .i64 (r.ai[act]'h).other), .pure (.int .i64 (r.ai[act]'h).cd), .pure (.int .i64 (r.ai[act]'h).iv)]=a'.row.map .pure:=(by rw [←ha'];rfl);rw [hbox]at L1'' L2'⊢;rw [hrow,ha',←hw'];refine Co (key:=58) a' L1'' (by rw [Fr.ax _ (by decide)];exact g58) (by simp;omega) _ fun g3 fr3 L3 k3 f3=> ?_;have k3': ∀q top,g3= .aW (H.length,q) 9 top 0 top→q=58∨q=23:=fun q top e=>by
    rcases k3 q top e with e|⟨t,e⟩
    ·exact Or.inl e
    ·exact Or.inr (k1 q t e)
   have hf3: ∀q,q≠58→q≠23→fr3.get q=(fr2.ins 9 (.box (a'.row.map .pure))).get q:=fun q h1 h2=>f3 q h1 fun top e=>h2 (k1 q top e);have g9':fr3.get 9=some (.box (a'.row.map .pure)):=(by rw [hf3 9 (by decide) (by decide),Fr.bp]);have g83':fr3.get 83=none:=(by rw [hf3 83 (by decide) (by decide),Fr.ax _ (by decide)];exact g83);have fin: ∀(fr:Fr) (g:GV),pt H fr g ((r.ai.drop (act+1)).map (late a'.aO))→(∀k,k≠30→fr.get k=fr3.get k)→ku (vo H.length 83 g3 9 72 (((r.ai.drop (act+1)).map (late a'.aO)).map ak.row) (fr::H)) fun x=>ku (aI KC (aC KC) 111 [x.1] 84 x.2) fun x=>ku (fX KC 72 c x.1 x.2) fun r_1=>r_1=(.pure (.slice ((a7 (r.ai.take act++a'::(r.ai.drop (act+1)).map (late a'.aO))).map ak.row)),H):=fun fr g Lg hk=>by
    refine sC (A:=r.ai.take act++[a']) (L3.frame (k:=30) (fun q top e=>by rcases k3' q top e with e|e<;>rw [e]<;>decide) hk) (by rw [hk 83 (by decide)];exact g83') (by simp;omega) _ fun fr'=> ?_
    rw [aa (by simp)];simp
   have L2'':pt H fr3 g2 (r.ai.drop (act+1)):=by
    rcases L2' with h0|⟨hne,key,v,rfl,hg,hv⟩
    ·exact Or.inl h0
    ·have:=k2 key _ rfl;subst this;exact Or.inr ⟨hne,_,v,rfl,by rw [hf3 _ (by decide) (by decide)];exact hg,hv⟩
   have tmB: ∀b∈r.ai.drop (act+1),0≤b.aR∧b.aR≤1000000:=fun b hb=>tm b (List.mem_of_mem_drop hb);obtain⟨Bd,hBd⟩: ∃Bd,r.ai.drop (act+1)=Bd:=⟨_,rfl⟩;have hBl:Bd.length≤1000000:=(by rw [←hBd];simp;omega);rw [hBd]at L2'' fin tmB⊢;have cl:=L3.cl;rcases L2'' with ⟨rfl,rfl⟩|⟨hne,key,v,rfl,hg2,hv⟩
   ·have f0:=fin fr3 .aS (Or.inl ⟨rfl,rfl⟩) (fun _ _=>rfl);apply aw;conv=>arg 4;whnf
    simp [cl,-c8];exact f0
   ·have:=k2 key _ rfl;subst this;refine HI cl hne hBl tmB g9' _ (fun fr g Lg hk=> ?_) Bd.length 0 v fr3 (by omega) hv (by rw [EY _ _ _ (by omega)];exact hg2) (fun _ _=>rfl);have f0:=fin fr g Lg hk;obtain⟨H',he,rfl⟩:=Lg.el;have r9':(∀x:ak,x∈Bd→(late a'.aO x).row.length=9)=True:=eq_true fun x _=>rfl;simp [he,r9',-List.map_map,-c8];exact f0
  ·have e3':(kind==3)=false:=(by simpa using e3);rw [if_neg e3];have ee:r.ai.eraseIdx act=r.ai.take act++r.ai.drop (act+1):=List.eraseIdx_eq_take_drop_succ ..;have t1:List.take act (r.ai.map ak.row)=(r.ai.take act).map ak.row:=(by rw [List.map_take]);have t2:List.drop (act+1) (r.ai.map ak.row)=(r.ai.drop (act+1)).map ak.row:=(by rw [List.map_drop]);simp [e2',e3',hw,h,ak.row,Nat.le_of_lt h,-List.map_take,-List.map_drop,t1,-c8];refine mX (key:=23) (r.ai.take act) (by simp) (by simp;omega) _ fun g1 fr1 L1 k1 f1=> ?_;have g4:fr1.get 4=some (aA r):=(by rw [f1 4 (by decide)];simp [aA]);have g30:fr1.get 30=none:=(by rw [f1 30 (by decide)];simp);have g83:fr1.get 83=none:=(by rw [f1 83 (by decide)];simp);have jn: ¬(act:Int)+1<0:=(by omega);have r9: ∀l:List ak,(∀x:ak,x∈l→x.row.length=9)=True:=fun l=>eq_true fun x _=>rfl;have t3:List.drop (act+1) (List.take r.ai.length (r.ai.map ak.row))=(r.ai.drop (act+1)).map ak.row:=(by rw [List.take_of_length_le (by simp),t2]);have jl:act+1≤r.ai.length:=h;simp [g4,aA,hw,-List.map_take,-List.map_drop,-c8,jn,jl,h,t3,r9];refine mX (key:=30) (r.ai.drop (act+1)) g30 (by simp;omega) _ fun g2 fr2 L2 k2 f2=> ?_;have L1':=L1.frame (k:=30) (fun q top e=>by rw [k1 q top e];decide) f2;obtain⟨H',he,rfl⟩:=L2.el;simp [he,-List.map_take,-List.map_drop,-c8,r9];refine sC L1' (by rw [f2 83 (by decide)];exact g83) (by simp;omega) _ fun fr3=> ?_;rw [←ee,dD (hp.sublist (List.eraseIdx_sublist ..))];rw [aa (by simp)];simp
end
section
variable {c:Nat} {H:aj}
theorem Ep {r:aH}{act:Nat}(h:act<r.ai.length)(ht:0≤r.ai[act].aR∧r.ai[act].aR≤1000000)(kind:Int)(hH:0<H.length):
  bM KC (aC KC) 78 [.pure (.agg r.row), .pure (.int .i64 act), .pure (.int .i64 kind)] c H=some (.pure (.int .i64 (kI r act kind)),H):=by
 refine aN (aJ KC au Tryz.func78 rfl rfl VH (by simp) hH ?_);have hl:=bc (d:=cn) h;have hw:=cu (x:=(r.ai[act]'h).aR+1) (by omega) (by omega);rw [cQ];unfold kI;rw [hl];by_cases hk:kind=3
 ·subst hk;simp [h,ak.row,hw];rw [aa (by simp)];simp
 ·have hk':(kind==3)=false:=(by simpa using hk);simp [h,ak.row,hk,hk'];rw [aa (by simp)];simp
theorem HJ {r:aH}{act:Nat}(h:act<r.ai.length)(ht:0≤r.ai[act].aR∧r.ai[act].aR≤1000000)(kind:Int)(hH:0<H.length):
  aI KC (aC KC) 78 [.pure (.agg r.row), .pure (.int .i64 act), .pure (.int .i64 kind)] c H=some (.pure (.int .i64 (kI r act kind)),H):=
 (mW (f:=78) (c:=c) (H:=H) rfl rfl rfl [.agg r.row, .int .i64 act, .int .i64 kind]).trans (Ep (c:=c) h ht kind hH)
noncomputable def clO (r:aH)(act kind:Int):PV:= .tuple [.slice (if uX r act kind=0 then (eE r).1.map ay.row else []), .int .i64 (uX r act kind)]
theorem nZ {r:aH}(sh:eN r)(act kind:Int)(hH:0<H.length):
  bM KC (aC KC) 71 [.pure (.agg r.row), .pure (.int .i64 act), .pure (.int .i64 kind)] c H=some (.pure (clO r act kind),H):=by
 refine aN (aJ KC au Tryz.func71 rfl rfl VA (by simp) hH ?_);have R:=fun(c:Nat) (H:aj) (hH:0<H.length)=>Ck (c:=c) (H:=H) sh hH;rw [Xg]at R;have I:=fun(c:Nat) (x lo hi:Int) (H:aj) (hH:0<H.length)=>aZ (c:=c) (x:=x) (lo:=lo) (hi:=hi) (H:=H) hH;have Y:=fun(c:Nat) (x:Int) (H:aj) (hH:0<H.length)=>cU (c:=c) (k:=x) (H:=H) hH;have ha:=sh.a;have hw:IntKind.i64.wrap ((r.ai.length:Int)-1)=(r.ai.length:Int)-1:=cu (by omega) (by omega);unfold clO;rw [cQ]at R⊢;rw [Au];by_cases he:tE r=0
 ·rw [he]at R⊢;by_cases h1:cE act 0 ((r.ai.length:Int)-1)=true
  ·obtain⟨a1,a2⟩:=sk.1 h1;obtain⟨k,rfl⟩:=Int.eq_ofNat_of_zero_le a1;have hk:k<r.ai.length:=(by omega);have hg:r.ai.getD k cn=r.ai[k]:=bc hk;by_cases h2:cE kind 1 3=true
   ·by_cases h3:kind=2
    ·subst h3;have h2':cE 2 1 3=true:=(by decide);by_cases h4:r.ai[k].kind=1
     ·simp [R,I,Y,hw,h1,h2',hk,ak.row,h4,aa,aE,hg]
     ·have h4':(r.ai[k].kind==1)=false:=(by simpa using h4);simp [R,I,Y,hw,h1,h2',hk,ak.row,h4,h4',aa,aE,hg]
    ·have h3':(kind==2)=false:=(by simpa using h3);simp [R,I,Y,hw,h1,h2,h3,h3',aa,aE]
   ·have h2':cE kind 1 3=false:=(by simpa using h2);simp [R,I,Y,hw,h1,h2',aa,aE]
  ·have h1':cE act 0 ((r.ai.length:Int)-1)=false:=(by simpa using h1);simp [R,I,Y,hw,h1',aa,aE]
 ·have he':(tE r !=0)=true:=(by simpa using he);simp [R,he,he',aa,aE]
end
section
variable {c:Nat} {H:aj}
theorem sD {key:Nat} {fr X:Fr} {g:GV} {A:List ak} (a:ak) (L:pt H fr g A) (hf:g= .aS→fr.get key=none) (hn:A.length+1≤1000000) (R:GV×aj→Prop)
  (h: ∀g' fr',pt H fr' g' (A++[a])→(∀q top,g'= .aW (H.length,q) 9 top 0 top→q=key∨ ∃top,g= .aW (H.length,q) 9 top 0 top)→(∀k,k≠key→(∀top,g≠ .aW (H.length,k) 9 top 0 top)→fr'.get k=fr.get k)→R (g',X::fr'::H)):
  ku (vo H.length key g 9 72 [a.row] (X::fr::H)) R:=by
 rcases L with ⟨rfl,rfl⟩|⟨hne,dw,v,rfl,hg,hv⟩
 ·have hm: ¬H.length+1+1≤H.length:=(by omega);have:=h (.aW (H.length,key) 9 1 0 1) (fr.ins key (.arr 9 [a.row] 0 false)) (Or.inr ⟨by simp,key,0,rfl,Fr.bp _ _ _,Nat.zero_le _⟩) (fun q top e=>by cases e;exact Or.inl rfl) (fun k hk _=>Fr.ax _ hk _);simp [hf rfl,hm];exact this
 ·have hb:(A.length+1)*72≤1099511627776:=(by omega);have:=h (.aW (H.length,dw) 9 (A.length+1) 0 (A.length+1)) (fr.ins dw (.arr 9 (A.map ak.row++[a.row]) v false)) (Or.inr ⟨by simp,dw,v,by simp,by rw [Fr.bp];simp,by simp;omega⟩) (fun q top e=>by cases e;exact Or.inr ⟨_,rfl⟩) (fun k _ hk=>Fr.ax _ (fun e=>by subst e;exact hk _ rfl) _);simp [hg,hv,hb];exact this
def HK (H:aj)(ks:List Nat)(g:GV):Prop:= ∀q top,g= .aW (H.length,q) 9 top 0 top→q∈ks
theorem Xh {ai:List ak} {m:Int} {w:PV} (hn:ai.length≤1000000) (Q:GX→bP→Prop)
  (h1: ∀g fr,pt H fr g (eF m ai)→HK H [31] g→fr.get 52=none→fr.get 72=none→Q (.exit 0) ⟨[(0, .pure (.slice (ai.map ak.row))),(1, .pure (.int .i64 m)),(2, .pure w),(7,g),(8, .pure (.int .i64 (eF m ai).length))],fr::H,74⟩): ∀(k n:Nat) (g:GV) (fr:Fr),n+k=(eF m ai).length→pt H fr g (ai.take n)→HK H [31] g→fr.get 52=none→fr.get 72=none→(g= .aS→fr.get 31=none)→
  fL KC au 77 (lp Tryz.f77 0) [0,1,2,7,8] [0,1,2,7,8] Q [(0, .pure (.slice (ai.map ak.row))),(1, .pure (.int .i64 m)),(2, .pure w),(7,g),(8, .pure (.int .i64 n))] (fr::H) 74:=by
 have hle:(eF m ai).length≤ai.length:=(List.takeWhile_sublist _).length_le;intro k
 induction k with
 |zero=>
  intro n g fr hk L hK f52 f72 fn;have e:n=(eF m ai).length:=(by omega);have et:ai.take n=eF m ai:=by
   rw [e];obtain⟨U,hU⟩: ∃U,eF m ai=U:=⟨_,rfl⟩;have:=il m ai;rw [hU]at this⊢;rw [←this];exact List.take_left
  rw [et]at L;have h1':=h1 g fr L hK f52 f72;have cl:=L.cl;rw [←e]at h1';by_cases hl:n<ai.length
  ·have hout:=pL (fun a:ak=>decide (a.aR≤m)) ai (by rw [show (ai.takeWhile fun a:ak=>decide (a.aR≤m)).length=n from e.symm];exact hl)
   have hout': ¬ai[n].aR≤m:=by
    have e2:(ai.takeWhile fun a:ak=>decide (a.aR≤m)).length=n:=e.symm;simp only [e2]at hout;simpa using hout
   apply aw;conv=>arg 4;whnf
   simp [hl,ak.row,hout',cl];simpa using h1'
  ·apply aw;conv=>arg 4;whnf
   simp [hl,cl];simpa using h1'
 |succ k ih=>
  intro n g fr hk L hK f52 f72 fn;have hl:n<ai.length:=(by omega);have hin:=r5 (fun a:ak=>decide (a.aR≤m)) ai n hl (by show n<(eF m ai).length;omega)
  have hin':ai[n].aR≤m:=(by simpa using hin);have hw:=cu (x:=(n:Int)+1) (by omega) (by omega);have cl:=L.cl;apply aw;conv=>arg 4;whnf
  simp [hl,ak.row,hin',hw,-c8];have et:ai.take (n+1)=ai.take n++[ai[n]]:=(by rw [List.take_add_one,List.getElem?_eq_getElem hl];rfl);refine sD (key:=31) ai[n] L fn (by simp;omega) _ fun g' fr' L' k' f'=> ?_;rw [←et]at L';have hK':HK H [31] g':=fun q top e=>by
   rcases k' q top e with e|⟨t,e⟩
   ·simp [e]
   ·exact hK q t e
  have nk: ∀q,q≠31→ ∀top,g≠ .aW (H.length,q) 9 top 0 top:=fun q hq top e=>hq (by simpa using hK q top e);have ih':=ih (n+1) g' fr' (by omega) L' hK' (by rw [f' 52 (by decide) (nk 52 (by decide))];exact f52) (by rw [f' 72 (by decide) (nk 72 (by decide))];exact f72) (fun e=>by
   rcases L' with ⟨_,h0⟩|⟨_,key,v,h0,_⟩
   ·have hz:(ai.take (n+1)).length=0:=(by rw [h0];rfl);rw [List.length_take]at hz;omega
   ·rw [h0]at e;cases e)
  have cl':=L'.cl;simp [cl'];simpa using ih'
theorem xo (a:ak): ∀(l:List ak) (m:Int),eG m (l++[a])=eG m l++[{a with aR:=m+1+l.length}]
 | [],m=>by simp [eG]
 |b::l,m=>by
  have:=xo a l (m+1);simp only [List.cons_append,eG,this,List.length_cons];rw [show m+1+1+(l.length:Int)=m+1+((l.length+1:Nat):Int)by omega]
theorem kY: ∀(l:List ak) (m:Int),(eG m l).length=l.length
 | [],m=>rfl
 |b::l,m=>by simp [eG,kY l]
theorem Pw {ai mend A:List ak} {m:Int} {n:Nat} (hm:mend.length≤400000) (hA:A.length≤400000) (hmm: -1000000≤m∧m≤1000000000) (Q:GX→bP→Prop)
  (h1: ∀g fr,pt H fr g (A++eG m mend)→HK H [31,52] g→fr.get 72=none→Q (.exit 2) ⟨[(0, .pure (.slice (ai.map ak.row))),(2, .pure (.slice (mend.map ak.row))),(7,g),(8, .pure (.int .i64 n))],fr::H,74⟩): ∀(k i:Nat) (g:GV) (fr:Fr),i+k=mend.length→pt H fr g (A++eG m (mend.take i))→HK H [31,52] g→fr.get 72=none→(g= .aS→fr.get 52=none)→
  fL KC au 77 (lp Tryz.f77 1) [0,1,2,7,8,9] [0,2,7,8] Q [(0, .pure (.slice (ai.map ak.row))),(1, .pure (.int .i64 m)),(2, .pure (.slice (mend.map ak.row))),(7,g),(8, .pure (.int .i64 n)),(9, .pure (.int .i64 i))] (fr::H) 74:=by
 intro k
 induction k with
 |zero=>
  intro i g fr hk L hK f72 fn;have e:i=mend.length:=(by omega);rw [List.take_of_length_le (by omega)]at L;have h1':=h1 g fr L hK f72;have cl:=L.cl;subst e;apply aw;conv=>arg 4;whnf
  simp [cl];simpa using h1'
 |succ k ih=>
  intro i g fr hk L hK f72 fn;have hl:i<mend.length:=(by omega);have hw:=cu (x:=(i:Int)+1) (by omega) (by omega);have hw1:=cu (x:=m+1) (by omega) (by omega);have hw2:=cu (x:=m+1+i) (by omega) (by omega);have et:eG m (mend.take (i+1))=eG m (mend.take i)++[{(mend[i]'hl)with aR:=m+1+i}]:=by
   rw [List.take_add_one,List.getElem?_eq_getElem hl];have:=xo mend[i] (mend.take i) m;rw [List.length_take,Nat.min_eq_left (by omega)]at this;exact this
  have cl:=L.cl;apply aw;conv=>arg 4;whnf
  simp [hl,ak.row,hw,hw1,hw2,-c8];have hml:(eG m (mend.take i)).length=i:=(by rw [kY,List.length_take];omega);refine sD (key:=52) {(mend[i]'hl)with aR:=m+1+i} L fn (by rw [List.length_append,hml];omega) _ fun g' fr' L' k' f'=> ?_;rw [List.append_assoc,←et]at L';have hK':HK H [31,52] g':=fun q top e=>by
   rcases k' q top e with e|⟨t,e⟩
   ·simp [e]
   ·exact hK q t e
  have nk: ∀q,q≠31→q≠52→ ∀top,g≠ .aW (H.length,q) 9 top 0 top:=fun q hq hq2 top e=>by
   have:=hK q top e;simp at this;omega
  have ih':=ih (i+1) g' fr' (by omega) L' hK' (by rw [f' 72 (by decide) (nk 72 (by decide) (by decide))];exact f72) (fun e=>by
   rcases L' with ⟨_,h0⟩|⟨_,key,v,h0,_⟩
   ·have hz:(A++eG m (mend.take (i+1))).length=0:=(by rw [h0];rfl);rw [List.length_append,kY,List.length_take]at hz;omega
   ·rw [h0]at e;cases e)
  have cl':=L'.cl;simp [cl'];simpa using ih'
theorem Px {ai mend A:List ak} {u:Nat} (hm:mend.length≤400000) (hA:A.length≤500000) (hn:ai.length≤400000) (tm: ∀a∈ai,0≤a.aR∧a.aR≤1000000000) (Q:GX→bP→Prop)
  (h1: ∀g fr,pt H fr g (A++(ai.drop u).map fun a=>{a with aR:=a.aR+mend.length})→Q (.exit 4) ⟨[(7,g)],fr::H,74⟩): ∀(k n:Nat) (g:GV) (fr:Fr),u≤n→n+k=ai.length→pt H fr g (A++((ai.take n).drop u).map fun a=>{a with aR:=a.aR+mend.length})→(g= .aS→fr.get 72=none)→
  fL KC au 77 (lp Tryz.f77 2) [0,2,7,8] [7] Q [(0, .pure (.slice (ai.map ak.row))),(2, .pure (.slice (mend.map ak.row))),(7,g),(8, .pure (.int .i64 n))] (fr::H) 74:=by
 intro k
 induction k with
 |zero=>
  intro n g fr hu hk L fn;have e:n=ai.length:=(by omega);rw [List.take_of_length_le (by omega)]at L;have h1':=h1 g fr L;have cl:=L.cl;subst e;apply aw;conv=>arg 4;whnf
  simp [cl];simpa using h1'
 |succ k ih=>
  intro n g fr hu hk L fn;have hl:n<ai.length:=(by omega);have tmi:=tm _ (List.getElem_mem hl);have hw:=cu (x:=(n:Int)+1) (by omega) (by omega);have hw1:=cu (x:=(ai[n]'hl).aR+mend.length) (by omega) (by omega);have et:(ai.take (n+1)).drop u=(ai.take n).drop u++[ai[n]]:=by
   rw [List.take_add_one,List.getElem?_eq_getElem hl,List.drop_append_of_le_length (by rw [List.length_take];omega)];rfl
  have cl:=L.cl;apply aw;conv=>arg 4;whnf
  simp [hl,ak.row,hw,hw1,-c8];refine sD (key:=72) {(ai[n]'hl)with aR:=(ai[n]'hl).aR+mend.length} L fn (by rw [List.length_append,List.length_map,List.length_drop,List.length_take];omega) _ fun g' fr' L' k' f'=> ?_;have L2:pt H fr' g' (A++((ai.take (n+1)).drop u).map fun a=>{a with aR:=a.aR+mend.length}):=by
   rw [et,List.map_append,←List.append_assoc];exact L'
  have ih':=ih (n+1) g' fr' (by omega) (by omega) L2 (fun e=>by
   rcases L' with ⟨_,h0⟩|⟨_,key,v,h0,_⟩
   ·simp at h0
   ·rw [h0]at e;cases e)
  have cl':=L'.cl;simp [cl'];simpa using ih'
theorem Cp {ai mend:List ak}{m:Int}(hm:mend.length≤100000)(hn:ai.length≤400000)(hmm: -1000000≤m∧m≤1000000000)(tm: ∀a∈ai,0≤a.aR∧a.aR≤1000000000)(hH:0<H.length):
  bM KC (aC KC) 77 [.pure (.slice (ai.map ak.row)), .pure (.int .i64 m), .pure (.slice (mend.map ak.row))] c H=some (.pure (.slice ((nY m ai mend).map ak.row)),H):=by
 refine aN (aJ KC au Tryz.func77 rfl rfl VG (by simp) hH ?_);have hle:(eF m ai).length≤ai.length:=(List.takeWhile_sublist _).length_le;have hnl: ¬H.length≤H.length-1:=(by omega);have U:=fun Q h1=>Xh (H:=H) (ai:=ai) (m:=m) (w:= .slice (mend.map ak.row)) (by omega) Q h1 (eF m ai).length 0 .aS [] (by omega) (Or.inl ⟨rfl,by simp⟩) (fun q top e=>by cases e) rfl rfl (fun _=>rfl);simp;refine U _ fun g fr L hK f52 f72=> ?_;have M:=fun Q h1=>Pw (H:=H) (ai:=ai) (mend:=mend) (A:=eF m ai) (m:=m) (n:=(eF m ai).length) (by omega) (by omega) hmm Q h1 mend.length 0 g fr (by omega) (by simpa [eG]using L) (fun q top e=>by have:=hK q top e;simp at this⊢;exact Or.inl this) f72 (fun _=>f52);simp [L.cl];refine M _ fun g2 fr2 L2 hK2 f722=> ?_;have d0:(ai.take (eF m ai).length).drop (eF m ai).length=[]:=List.drop_of_length_le (by rw [List.length_take];omega);have db:ai.drop (eF m ai).length=behind m ai:=by
  have e:=il m ai;obtain⟨V,hV⟩: ∃V,behind m ai=V:=⟨_,rfl⟩;obtain⟨U,hU⟩: ∃U,eF m ai=U:=⟨_,rfl⟩;rw [hU,hV]at e;rw [hU,hV,←e];exact List.drop_left
 have E:=fun Q h1=>Px (H:=H) (ai:=ai) (mend:=mend) (A:=eF m ai++eG m mend) (u:=(eF m ai).length) (by omega) (by rw [List.length_append,kY];omega) hn tm Q h1 (ai.length-(eF m ai).length) (eF m ai).length g2 fr2 (Nat.le_refl _) (by omega) (by rw [d0];simpa using L2) (fun _=>f722);rw [db]at E;simp [L2.cl];refine E _ fun g3 fr3 L3=> ?_;simp [L3.cl];obtain⟨W,hW⟩: ∃W,nY m ai mend=W:=⟨_,rfl⟩;rw [show (eF m ai++eG m mend)++(behind m ai).map (fun a=>{a with aR:=a.aR+mend.length})=W from hW]at L3
 rw [hW];rcases L3 with ⟨rfl,rfl⟩|⟨hne,key,v,rfl,hg,hv⟩
 ·rw [aa (by simp)];simp
 ·have tl:List.take W.length (W.map ak.row)=W.map ak.row:=List.take_of_length_le (by simp);rw [aa (by simp)];simp [hnl,hg,hv,tl]
theorem Er {ai mend:List ak}{m:Int}(hm:mend.length≤100000)(hn:ai.length≤400000)(hmm: -1000000≤m∧m≤1000000000)(tm: ∀a∈ai,0≤a.aR∧a.aR≤1000000000)(hH:0<H.length):
  aI KC (aC KC) 77 [.pure (.slice (ai.map ak.row)), .pure (.int .i64 m), .pure (.slice (mend.map ak.row))] c H=some (.pure (.slice ((nY m ai mend).map ak.row)),H):=
 (mW (f:=77) (c:=c) (H:=H) rfl rfl rfl [.slice (ai.map ak.row), .int .i64 m, .slice (mend.map ak.row)]).trans (Cp (c:=c) hm hn hmm tm hH)
theorem py {r:aH}(sh:eN r)(act kind:Int)(hH:0<H.length):
  aI KC (aC KC) 71 [.pure (.agg r.row), .pure (.int .i64 act), .pure (.int .i64 kind)] c H=some (.pure (clO r act kind),H):=by
 first
  |exact(mW (f:=71) (c:=c) (H:=H) rfl rfl rfl [.agg r.row, .int .i64 act, .int .i64 kind]).trans (nZ (c:=c) sh act kind hH)
  |exact(pk KC rfl rfl rfl).trans (nZ (c:=c) sh act kind hH)
end
section
structure Py (r:aH)(k:Nat)(kind:Int):Prop where
 run:Dv r
 lt:k<r.ai.length
 kd:kind=1∨kind=2∨kind=3
 hand:kind=2→(r.ai[k]'lt).kind≠1
 ok:(eE r).2.2.2=0
 tm: ∀a∈r.ai,0≤a.aR∧a.aR≤1000
 pw:r.ai.Pairwise fun a b=>a.aR≤b.aR
 Js:r.ai.length≤40
 room:wR r
theorem mY {r:aH}(sh:eN r){act kind:Int}(h:uX r act kind=0): ∃k:Nat,act=k∧Py r k kind:=by
 rw [Au]at h;obtain⟨h1,h⟩:=ite_self h;obtain⟨h2,h⟩:=cD (by decide) h;obtain⟨h3,h⟩:=cD (by decide) h;obtain⟨h4,h⟩:=cD (by decide) h;have h2':cE act 0 ((r.ai.length:Int)-1)=true:=(by simpa using h2);have h3':cE kind 1 3=true:=(by simpa using h3);obtain⟨a1,a2⟩:=sk.1 h2';obtain⟨b1,b2⟩:=sk.1 h3';obtain⟨k,rfl⟩:=Int.eq_ofNat_of_zero_le a1;have hk:k<r.ai.length:=(by omega);rw [xl]at h1;have hc:dG r=0:=by
  rcases Decidable.em (dG r=0)with e|e
  ·exact e
  ·rw [if_neg e]at h1;exact h1
 rw [if_pos hc]at h1;obtain⟨R,A⟩:=E9 hc;refine⟨k,rfl,z8 hc sh,hk,by omega,fun e=> ?_,h1,A.tm,A.pw.imp fun x=>x.1,A.n,R⟩;have hg:r.ai.getD (Int.toNat (k:Int)) cn=r.ai[k]:=bc hk;rw [hg]at h4;exact fun e2=>h4 ⟨e,e2⟩
section
variable {r:aH} {k:Nat} {kind:Int} (h:Py r k kind)
include h
theorem Py.scn:((eE r).1)[jw r.ai k]? =some (xG r (r.ai[k]'h.lt)):=by
 have hq:(cj r r.ai.length (az r) r.ai 0).2.2.2=0:=by
  have e:=h.ok;unfold eE at e;simp only at e;by_cases h0:(cj r r.ai.length (az r) r.ai 0).2.2.2=0∧mK r (cj r r.ai.length (az r) r.ai 0).2.1=false
  ·rw [if_pos h0]at e;exact h0.1
  ·rw [if_neg h0]at e;exact e
 obtain⟨e1,e2⟩:=EM r.ai.length (az r) r.ai 0 k h.lt (Nat.le_refl _) h.pw hq
 have e3:(cj r r.ai.length (az r) (kb r.ai (r.ai[k]'h.lt)) 0)=cj r (kb r.ai (r.ai[k]'h.lt)).length (az r) (kb r.ai (r.ai[k]'h.lt)) 0:=
  sX _ _ _ _ _ ((List.takeWhile_sublist _).length_le) (Nat.le_refl _)
 unfold eE;simp only;rw [e1,e3];rfl
theorem Py.get:r.ai.getD k cn=r.ai[k]'h.lt:=bc h.lt
theorem mZ:(iO r k kind).length≤r.ai.length:=by
 unfold iO;have:=h.lt;split
 ·split
  ·simp
  ·rw [List.length_eraseIdx];split<;>omega
 ·split
  ·rw [bF];simp;omega
  ·rw [List.length_eraseIdx];split<;>omega
omit h in
theorem Es (aO:Int)(a:ak):(late aO a=a∨late aO a=setAt a (a.aR+1)):=by
 unfold late;split
 ·exact Or.inr rfl
 ·exact Or.inl rfl
theorem Cq {x:ak}(hx:x∈iO r k kind):AB r x.aO.toNat x∧0≤x.aR∧x.aR≤1001:=by
 have hm: ∀a∈r.ai,AB r a.aO.toNat a∧0≤a.aR∧a.aR≤1001:=fun a ha=>by
  have:=h.tm a ha;exact⟨h.run.ab a ha,by omega,by omega⟩
 unfold iO at hx;rw [h.get]at hx;split at hx
 ·rename_i hk;split at hx
  ·rcases List.mem_or_eq_of_mem_set hx with hx|rfl
   ·exact hm x hx
   ·have h1:=hm _ (List.getElem_mem h.lt);exact⟨h1.1.flip (h.hand hk),h1.2⟩
  ·exact hm x (List.mem_of_mem_eraseIdx hx)
 ·split at hx
  ·have hx:=(qR _).mem_iff.1 hx;rcases List.mem_append.1 hx with hx|hx
   ·exact hm x (List.mem_of_mem_take hx)
   ·obtain⟨a,ha,rfl⟩:=List.mem_map.1 hx;have ha':=List.mem_of_mem_drop ha;have h1:=hm a ha';have h2:=h.tm a ha';rcases Es (r.ai[k]'h.lt).aO a with e|e
    ·rw [e];exact h1
    ·rw [e];exact⟨wV h1.1,by show 0≤a.aR+1;omega,by show a.aR+1≤1001;omega⟩
  ·exact hm x (List.mem_of_mem_eraseIdx hx)
theorem Cr:0≤kI r k kind∧kI r k kind≤1001:=by
 have:=h.tm _ (List.getElem_mem h.lt);unfold kI;rw [h.get];split<;>omega
end
end
section
variable {c:Nat} {H:aj}
end
section
variable {c:Nat} {H:aj}
end
section
variable {c:Nat} {H:aj}
end
section
variable {c:Nat} {H:aj}
end
section
variable {c:Nat} {H:aj}
end
section
variable {c:Nat} {H:aj}
end
section
variable {c:Nat} {H:aj}
end
section
variable {c:Nat} {H:aj}
def Kg (l:Nat)(g:GV):Prop:= ∀nm es top lo len,g= .aW nm es top lo len→nm.1=l
theorem HL {l:Nat}{p:PV}:Kg l (.pure p):=fun _ _ _ _ _ h=>by cases h
theorem Fp {F:Fr}{nm:Nm}{b:dM}(h:nm.1=H.length): ∀pre:aj,aj.set (pre++F::H) nm b=pre++F.ins nm.2 b::H
 | []=>by
  show aj.set (F::H) nm b=_
  rw [aj.y7,if_pos h];rfl
 |X::pre=>by
  show aj.set (X::(pre++F::H)) nm b=_
  rw [aj.y7,if_neg (by simp;omega),Fp h pre];rfl
theorem uK {F:Fr}{g:GV}(h:Kg H.length g)(pre:aj): ∃F',(dH (pre++F::H) g).2=pre++F'::H:=by
 cases g with
 |aW nm es top lo len=>
  have hn:=h _ _ _ _ _ rfl;simp only [dH,dI];split
  ·split
   ·exact⟨_,Fp hn pre⟩
   ·exact⟨F,rfl⟩
  ·exact⟨F,rfl⟩
 |_=>exact⟨F,rfl⟩
theorem sE (pre:aj): ∀{l:List GV} {F:Fr},(∀g∈l,Kg H.length g)→ ∃F',(fF (pre++F::H) l).2=pre++F'::H
 | [],F,_=>⟨F,rfl⟩
 |g::l,F,h=>by
  obtain⟨F1,e1⟩:=uK (F:=F) (h g (List.mem_cons_self ..)) pre;obtain⟨F2,e2⟩:=sE pre (l:=l) (F:=F1) fun x hx=>h x (List.mem_cons_of_mem _ hx);exact⟨F2,by simp only [fF,e1,e2]⟩
def Pz (L:Nat):GV→Prop
 | .agg l=> ∀x∈l,Kg L x
 |g=>Kg L g
theorem xp {F:Fr}{g:GV}(h:Pz H.length g)(pre:aj): ∃F',(dt (pre++F::H) g).2=pre++F'::H:=by
 cases g with
 |agg l=>
  obtain⟨F',e⟩:=sE pre (F:=F) (l:=l) h;exact⟨F',by simp only [dt,e]⟩
 |_=>exact uK h pre
theorem y9 {H:aj}{g:GV}{q:PV}(hg:xr H g q):canon (dt H g).1= .pure q:=by
 have h3:=(qt hg).1
 cases g with
 |aW nm es top lo len=>
  show canon (dH H (.aW nm es top lo len)).1=_
  have e: ∃p,(dH H (.aW nm es top lo len)).1= .pure p:=⟨_,rfl⟩;obtain⟨p,hp⟩:=e;rw [hp]at h3⊢;have:p=q:=by
   have h4:cK (.pure p)=GV.pure p:=rfl;rw [h4]at h3;cases h3;rfl
  rw [this];obtain⟨rows,v,ro,a1,a2,a3,a4,a5,a6⟩:=hg;rw [a6];rfl
 |pure p=>cases hg;rfl
 |aS=>cases hg;rfl
 |_=>exact hg.elim
inductive oa (H:aj) (F:Fr) (pre:aj):List GV→List GV→Prop
 |nil:oa H F pre [] []
 |ptr {nm:Nm} {o:Nat} {l m:List GV} (h:oa H F pre l m):oa H F pre (.aD nm o::l) (.aD nm o::m)
 |rd {g:GV} {q:PV} {l m:List GV} (hg:nd (pre++F::H) g q) (ht:Pz H.length g) (h:oa H F pre l m):oa H F pre (g::l) (.pure q::m)
 |rdc {g:GV} {q:PV} {l m:List GV} (hg:xr (pre++F::H) g q) (hq:canon (.pure q)= .pure q) (ht:Pz H.length g) (h:oa H F pre l m):oa H F pre (g::l) (.pure q::m)
theorem kL.pre {F F':Fr}(h:ql F F'): ∀pre:aj,kL (pre++F::H) (pre++F'::H)
 | []=> .cons h (kL.refl H)
 |X::pre=> .cons (ql.refl X) (kL.pre h pre)
theorem ql.Et {F F':Fr}: ∀{pre:aj},kL (pre++F::H) (pre++F'::H)→ql F F'
 | [],h=>by cases h with|cons a _=>exact a
 |X::pre,h=>by cases h with|cons _ b=>exact ql.Et b
theorem oa.ro {F F':Fr}{pre:aj}(hr:ql F F'){l m:List GV}(h:oa H F pre l m):oa H F' pre l m:=by
 induction h with
 |nil=>exact .nil
 |ptr _ ih=>exact .ptr ih
 |rd hg ht _ ih=>exact .rd (kE (kL.HG (kL.pre hr pre)) hg) ht ih
 |rdc hg hq ht _ ih=>exact .rdc (lS (kL.HG (kL.pre hr pre)) hg) hq ht ih
theorem vl {pre:aj}: ∀{l m:List GV} {F:Fr},oa H F pre l m→ ∃F',ql F F'∧(bm (pre++F::H) l).2=pre++F'::H∧(bm (pre++F::H) l).1.map canon=m.map canon
 |_,_,F, .nil=>⟨F,ql.refl F,rfl,rfl⟩
 |_,_,F, .ptr h=>by
  obtain⟨F',r,e1,e2⟩:=vl h;refine⟨F',r, ?_, ?_⟩
  ·simp only [bm,dt,dH,e1]
  ·simp only [bm,dt,dH,List.map_cons,e2]
 |g::l,_,F, .rd hg ht h=>by
  obtain⟨F1,e1⟩:=xp (F:=F) ht pre;have r1:ql F F1:=by
   have:=mV (pre++F::H) g;rw [e1]at this;exact ql.Et this
  obtain⟨F',r,e2,e3⟩:=vl (h.ro r1);have hc:=(lT hg).1;refine⟨F',r1.trans r, ?_, ?_⟩
  ·simp only [bm,e1,e2]
  ·simp only [bm,e1,List.map_cons,e3,hc];congr 1
 |g::l,_,F, .rdc hg hq ht h=>by
  obtain⟨F1,e1⟩:=xp (F:=F) ht pre;have r1:ql F F1:=by
   have:=mV (pre++F::H) g;rw [e1]at this;exact ql.Et this
  obtain⟨F',r,e2,e3⟩:=vl (h.ro r1);have hc:=y9 hg;refine⟨F',r1.trans r, ?_, ?_⟩
  ·simp only [bm,e1,e2]
  ·simp only [bm,e1,List.map_cons,e3,hc,hq]
theorem Kh {f:FuncId}(h1:KC.tG f=false)(h2:KC.Aw f=false)(h3:KC.Gs f=true)(pre:aj){l m:List GV}{F:Fr}(h:oa H F pre l m):
  ∃F',ql F F'∧ ∀c,aI KC (aC KC) f l c (pre++F::H)=bM KC (aC KC) f m c (pre++F'::H):=by
 obtain⟨F',r,e1,e2⟩:=vl h;refine⟨F',r,fun c=> ?_⟩;rw [gR h1 h2 h3,e1];exact mm e2
theorem pt.rd {F:Fr}{g:GV}{A:List ak}(h:pt H F g A):xr (F::H) g (.slice (A.map ak.row)):=by
 rcases h with ⟨rfl,rfl⟩|⟨hne,key,v,rfl,hg,hv⟩
 ·rfl
 ·exact⟨A.map ak.row,v,false,by simpa using hg,by simpa using hv,by simp,rfl,rfl,rfl⟩
theorem pt.top {F:Fr}{g:GV}{A:List ak}(h:pt H F g A):Pz H.length g:=by
 rcases h with ⟨rfl,rfl⟩|⟨hne,key,v,rfl,hg,hv⟩
 ·intro nm es top lo len e;cases e
 ·intro nm es top lo len e;cases e;rfl
end
section
variable {c:Nat} {H:aj}
def aeR (r:aH)(s:ay)(l:List ak)(n:Int)(b:Bool)(lb:Bl):Fr:=
 [(9,cf r s),(10, .box [.pure (.slice (l.map ak.row))]),(11, .box [.pure (.int .i64 n)]),(12, .box [.pure (.bool b)]),(10000010, .loop lb)]
def CT (r:aH)(s:ay)(l:List ak)(n:Int)(b:Bool)(lb:Bl)(G:aj):aj:=aeR r s l n b lb::G
theorem Ki (l:List ak)(hn:l.length≤1000000){F:Fr}(hf:F.get (aq c 7)=none): ∃g F',pt H F' g l∧(∀q top,g= .aW (H.length,q) 9 top 0 top→q=aq c 7)∧(∀k,k≠aq c 7→F'.get k=F.get k)∧
  aI KC (aC KC) 75 [.pure (.slice (l.map ak.row))] c (F::H)=some (g,F'::H):=by
 refine⟨_,_, ?_, ?_, ?_,Cm l hn hf⟩
 ·unfold cv;by_cases h:l=[]
  ·subst h;exact Or.inl ⟨rfl,rfl⟩
  ·refine Or.inr ⟨h,aq c 7,0,by rw [if_neg (by simpa using h)];simp, ?_,Nat.zero_le _⟩;exact cw (by simpa using h)
 ·intro q top e;unfold cv at e;split at e
  ·cases e
  ·cases e;rfl
 ·intro k hk;exact bu hk
end
section
variable {c:Nat} {H:aj}
end
section
variable {c:Nat} {H:aj}
end
section
variable {c:Nat} {H:aj}
end
section
variable {c:Nat} {H:aj}
end
section
variable {c:Nat} {H:aj}
theorem pz {r:aH}(sh:eN r)(act kind:Int)(hH:0<H.length):
  aI KC (aC KC) 69 [.pure (.agg r.row), .pure (.int .i64 act), .pure (.int .i64 kind)] c H=some (.pure (.int .i64 (uX r act kind)),H):=dq rfl rfl rfl rfl rfl hH fun H hH=>xm sh act kind hH
end
section
variable {c:Nat} {H:aj}
end
section
variable {c:Nat} {H:aj}
noncomputable def zb:aH→Int→ak→Int:=na fun r aO a=>if a.aO≠aO then 7 else if a.aR≠0∨a.cd≠0∨a.iv≠0 then 3 else dh (b9 r.wide r.deep) r.ae.length r.ah.length a
theorem zc (r:aH)(aO:Int)(a:ak):zb r aO a=if a.aO≠aO then 7 else if a.aR≠0∨a.cd≠0∨a.iv≠0 then 3 else dh (b9 r.wide r.deep) r.ae.length r.ah.length a:=by rw [zb,cO]
noncomputable def sF (r:aH)(aO:Int):List ak→Int
 | []=>0
 |a::l=>if zb r aO a≠0 then zb r aO a else sF r aO l
noncomputable def mdE (r:aH)(act kind:Int)(mend:List ak):Int:=if uX r act kind≠0 then uX r act kind else if 3<mend.length then 8 else sF r (r.ai.getD act.toNat cn).aO mend
section
variable {r:aH} {k:Nat} {kind:Int} (hk:k<r.ai.length) {mend:List ak} (hm:mend.length≤1000000) (sh:eN r)
include hk hm sh
theorem Xi (Q:GX→bP→Prop): ∀j i:Nat,i+j=mend.length→
  (sF r (r.ai[k]'hk).aO (mend.drop i)=0→Q (.exit 0) ⟨[(1, .pure (.int .i64 k)),(2, .pure (.int .i64 kind)),(3, .pure (.slice (mend.map ak.row))),(4, .aD (H.length,4) 0),(8, .aD (H.length,8) 0),(9,aP)],[(4,aA r),(8,ir)]::H,129⟩)→
  (sF r (r.ai[k]'hk).aO (mend.drop i)≠0→Q .ret ⟨[(1, .pure (.int .i64 k)),(2, .pure (.int .i64 kind)),(3, .pure (.slice (mend.map ak.row))),(4, .aD (H.length,4) 0),(8, .aD (H.length,8) 0),(9, .pure (.int .i64 (sF r (r.ai[k]'hk).aO (mend.drop i))))],[(4,aA r),(8,ir)]::H,129⟩)→
  fL KC au 29 (lp Tryz.f29 0) [1,2,3,4,8,34,35,36] [1,2,3,4,8,9] Q
   [(1, .pure (.int .i64 k)),(2, .pure (.int .i64 kind)),(3, .pure (.slice (mend.map ak.row))),(4, .aD (H.length,4) 0),(8, .aD (H.length,8) 0),(34, .pure (.slice (mend.map ak.row))),(35, .pure (.int .i64 mend.length)),(36, .pure (.int .i64 i))] ([(4,aA r),(8,ir)]::H) 129:=by
 have ne1: ¬H.length=H.length+1:=(by omega);intro j
 induction j with
 |zero=>
  intro i hi h1 _;have e:mend.drop i=[]:=List.drop_of_length_le (by omega);rw [e]at h1;have hnl: ¬i<mend.length:=(by omega);apply aw;conv=>arg 4;whnf
  simp [hnl];simpa using h1 rfl
 |succ j ih=>
  intro i hi h1 h2;have hil:i<mend.length:=(by omega);have hw:=cu (x:=(i:Int)+1) (by omega) (by omega);have ed:mend.drop i=mend[i]::mend.drop (i+1):=List.drop_eq_getElem_cons hil;obtain⟨a,ha⟩: ∃a,mend[i]=a:=⟨_,rfl⟩;rw [ha]at ed;rw [ed]at h1 h2;simp only [sF]at h1 h2;have FD: ∀(c:Nat) (H:aj),0<H.length→aI KC (aC KC) 73 [.pure (.agg r.row), .pure (.agg a.row)] c H=some (.pure (.int .i64 (dh (b9 r.wide r.deep) r.ae.length r.ah.length a)),H):=fun c H hH=>pe (c:=c) (H:=H) (r:=r) (q1:=a.aR) (q2:=a.aO) (kind:=a.kind) (hand:=a.hand) (a9:=a.a9) (cell:=a.cell) (other:=a.other) (q3:=a.cd) (q4:=a.iv) sh.p sh.t hH;rw [cQ,bz]at FD;simp only [aA,ir]at h1 h2 ih⊢;have ih':=ih (i+1) (by omega);obtain⟨aO,hwho⟩: ∃aO,(r.ai[k]'hk).aO=aO:=⟨_,rfl⟩;rw [hwho]at h1 h2 ih';have hd:=zc r aO a;have err3:(a.aR≠0∨a.cd≠0∨a.iv≠0)→a.aO=aO→zb r aO a=3:=fun h w=>(by rw [hd,if_neg (by simpa using w),if_pos h]);by_cases w:a.aO=aO
  ·by_cases z1:a.aR=0
   ·by_cases z2:a.cd=0
    ·by_cases z3:a.iv=0
     ·rw [if_neg (by simpa using w),if_neg (by simp [z1,z2,z3])]at hd;rw [hd]at h1 h2;generalize dh (b9 r.wide r.deep) r.ae.length r.ah.length a=e at FD h1 h2;by_cases fz:e=0
      ·rw [fz]at FD;rw [if_neg (by simpa using fz)]at h1 h2;have ih2:=ih' h1 h2;rw [z1,z2,z3,w]at FD;apply aw;conv=>arg 4;whnf
       simp [hil,ha,hk,ak.row,hwho,w,ne1,z1,z2,z3,FD,hw];simpa using ih2
      ·have fz':(e==0)=false:=(by simpa using fz);rw [if_pos fz]at h2;have h2':=h2 fz;rw [z1,z2,z3,w]at FD;apply aw;conv=>arg 4;whnf
       simp [hil,ha,hk,ak.row,hwho,w,ne1,z1,z2,z3,FD,fz,fz',hw,aE];simpa using h2'
     ·have e3:=err3 (Or.inr (Or.inr z3)) w;have z3':(a.iv==0)=false:=(by simpa using z3);rw [e3]at h2;have h2':=h2 (by simp);simp at h2';apply aw;conv=>arg 4;whnf
      simp [hil,ha,hk,ak.row,hwho,w,ne1,z1,z2,z3,z3',aE];exact h2'
    ·have e3:=err3 (Or.inr (Or.inl z2)) w;have z2':(a.cd==0)=false:=(by simpa using z2);rw [e3]at h2;have h2':=h2 (by simp);simp at h2';apply aw;conv=>arg 4;whnf
     simp [hil,ha,hk,ak.row,hwho,w,ne1,z1,z2,z2',aE];exact h2'
   ·have e3:=err3 (Or.inl z1) w;have z1':(a.aR==0)=false:=(by simpa using z1);rw [e3]at h2;have h2':=h2 (by simp);simp at h2';apply aw;conv=>arg 4;whnf
    simp [hil,ha,hk,ak.row,hwho,w,ne1,z1,z1',aE];exact h2'
  ·rw [if_pos w]at hd;have w':(a.aO==aO)=false:=(by simpa using w);rw [hd]at h2;have h2':=h2 (by simp);simp at h2';apply aw;conv=>arg 4;whnf
   simp [hil,ha,hk,ak.row,hwho,w,w',ne1,aE];exact h2'
end
end
section
variable {c:Nat} {H:aj}
def mdk:Nat:=aq 89 7
structure Ta (r:aH)(fr:Fr):Prop where
 f4:fr.get 4=some (aA r)
 f8:fr.get 8=some ir
theorem Ta.move {r:aH}{fr fr':Fr}{g:GV}(h:Ta r fr){ks:List Nat}(hK:HK H ks g)(hk: ∀q∈ks,q≠4∧q≠8){key:Nat}(h4:key≠4)(h8:key≠8)(f': ∀k,k≠key→(∀top,g≠ .aW (H.length,k) 9 top 0 top)→fr'.get k=fr.get k):Ta r fr':=
 ⟨(f' 4 h4.symm fun top e=>(hk 4 (hK 4 top e)).1 rfl).trans h.f4,(f' 8 h8.symm fun top e=>(hk 8 (hK 8 top e)).2 rfl).trans h.f8⟩
theorem Cs {g g':GV}{ks:List Nat}{key:Nat}(hK:HK H ks g)(k': ∀q top,g'= .aW (H.length,q) 9 top 0 top→q=key∨ ∃top,g= .aW (H.length,q) 9 top 0 top)(hk:key∈ks):HK H ks g':=fun q top e=>by
 rcases k' q top e with e|⟨t,e⟩
 ·rw [e];exact hk
 ·exact hK q t e
theorem Xj {r:aH} {ai mend A:List ak} {m:Int} {n:Nat} (hm:mend.length≤400000) (hA:A.length≤400000) (hmm: -1000000≤m∧m≤1000000000) (Q:GX→bP→Prop)
  (h1: ∀g fr,pt H fr g (A++eG m mend)→HK H [mdk,105,124] g→Ta r fr→(g= .aS→fr.get 124=none)→Q (.exit 3) ⟨[(3, .pure (.slice (mend.map ak.row))),(4, .aD (H.length,4) 0),(8, .aD (H.length,8) 0),(14, .pure (.slice (ai.map ak.row))),(16, .pure (.int .i64 n)),(17,g)],fr::H,129⟩): ∀(k i:Nat) (g:GV) (fr:Fr),i+k=mend.length→pt H fr g (A++eG m (mend.take i))→HK H [mdk,105,124] g→Ta r fr→(g= .aS→fr.get 105=none∧fr.get 124=none)→
  fL KC au 29 (lp Tryz.f29 1) [3,4,8,14,15,16,17,90,91,92] [3,4,8,14,16,17] Q [(3, .pure (.slice (mend.map ak.row))),(4, .aD (H.length,4) 0),(8, .aD (H.length,8) 0),(14, .pure (.slice (ai.map ak.row))),(15, .pure (.int .i64 m)),(16, .pure (.int .i64 n)),(17,g),(90, .pure (.slice (mend.map ak.row))),(91, .pure (.int .i64 mend.length)),(92, .pure (.int .i64 i))] (fr::H) 129:=by
 intro k
 induction k with
 |zero=>
  intro i g fr hk L hK mf fn;have e:i=mend.length:=(by omega);rw [List.take_of_length_le (by omega)]at L;have h1':=h1 g fr L hK mf fun e=>(fn e).2;have cl:=L.cl;subst e;apply aw;conv=>arg 4;whnf
  simp [cl];simpa using h1'
 |succ k ih=>
  intro i g fr hk L hK mf fn;have hl:i<mend.length:=(by omega);have hw:=cu (x:=(i:Int)+1) (by omega) (by omega);have hw1:=cu (x:=m+1) (by omega) (by omega);have hw2:=cu (x:=m+1+i) (by omega) (by omega);have et:eG m (mend.take (i+1))=eG m (mend.take i)++[{(mend[i]'hl)with aR:=m+1+i}]:=by
   rw [List.take_add_one,List.getElem?_eq_getElem hl];have:=uf mend[i] (mend.take i) m;rw [List.length_take,Nat.min_eq_left (by omega)]at this;exact this
  have cl:=L.cl;apply aw;conv=>arg 4;whnf
  simp [hl,ak.row,hw,hw1,hw2,-c8];have hml:(eG m (mend.take i)).length=i:=(by rw [lB,List.length_take];omega);refine sD (key:=105) {(mend[i]'hl)with aR:=m+1+i} L (fun e=>(fn e).1) (by rw [List.length_append,hml];omega) _ fun g' fr' L' k' f'=> ?_;rw [List.append_assoc,←et]at L';have hK':=Cs hK k' (by simp);have mf':=mf.move hK (by decide) (by decide) (by decide) f';have ih':=ih (i+1) g' fr' (by omega) L' hK' mf' (fun e=>by
   rcases L' with ⟨_,h0⟩|⟨_,key,v,h0,_⟩
   ·have hz:(A++eG m (mend.take (i+1))).length=0:=(by rw [h0];rfl);rw [List.length_append,lB,List.length_take]at hz;omega
   ·rw [h0]at e;cases e)
  have cl':=L'.cl;simp [cl'];simpa using ih'
theorem Xk {r:aH} {mend A B:List ak} (hm:mend.length≤400000) (hA:A.length≤500000) (hn:B.length≤400000) (tm: ∀a∈B,0≤a.aR∧a.aR≤1000000000) (Q:GX→bP→Prop)
  (h1: ∀g fr,pt H fr g (A++B.map fun a=>{a with aR:=a.aR+mend.length})→Ta r fr→Q (.exit 5) ⟨[(4, .aD (H.length,4) 0),(8, .aD (H.length,8) 0),(17,g)],fr::H,129⟩): ∀(k i:Nat) (g:GV) (fr:Fr),i+k=B.length→pt H fr g (A++(B.take i).map fun a=>{a with aR:=a.aR+mend.length})→HK H [mdk,105,124] g→Ta r fr→(g= .aS→fr.get 124=none)→
  fL KC au 29 (lp Tryz.f29 2) [3,4,8,17,109,110,111] [4,8,17] Q [(3, .pure (.slice (mend.map ak.row))),(4, .aD (H.length,4) 0),(8, .aD (H.length,8) 0),(17,g),(109, .pure (.slice (B.map ak.row))),(110, .pure (.int .i64 B.length)),(111, .pure (.int .i64 i))] (fr::H) 129:=by
 intro k
 induction k with
 |zero=>
  intro i g fr hk L hK mf fn;have e:i=B.length:=(by omega);rw [List.take_of_length_le (by omega)]at L;have h1':=h1 g fr L mf;have cl:=L.cl;subst e;apply aw;conv=>arg 4;whnf
  simp [cl];simpa using h1'
 |succ k ih=>
  intro i g fr hk L hK mf fn;have hl:i<B.length:=(by omega);have tmi:=tm _ (List.getElem_mem hl);have hw:=cu (x:=(i:Int)+1) (by omega) (by omega);have hw1:=cu (x:=(B[i]'hl).aR+mend.length) (by omega) (by omega);have et:B.take (i+1)=B.take i++[B[i]]:=by
   rw [List.take_add_one,List.getElem?_eq_getElem hl];rfl
  have cl:=L.cl;apply aw;conv=>arg 4;whnf
  simp [hl,ak.row,hw,hw1,-c8];refine sD (key:=124) {(B[i]'hl)with aR:=(B[i]'hl).aR+mend.length} L fn (by rw [List.length_append,List.length_map,List.length_take];omega) _ fun g' fr' L' k' f'=> ?_;have L2:pt H fr' g' (A++(B.take (i+1)).map fun a=>{a with aR:=a.aR+mend.length}):=by
   rw [et,List.map_append,←List.append_assoc];exact L'
  have hK':=Cs hK k' (by simp);have mf':=mf.move hK (by decide) (by decide) (by decide) f';have ih':=ih (i+1) g' fr' (by omega) L2 hK' mf' (fun e=>by
   rcases L' with ⟨_,h0⟩|⟨_,key,v,h0,_⟩
   ·simp at h0
   ·rw [h0]at e;cases e)
  have cl':=L'.cl;simp [cl'];simpa using ih'
end
section
variable {c:Nat} {H:aj}
def xO:List PV:=[.int .i64 0, .int .i64 0, .slice [], .slice [], .slice [], .slice [], .slice []]
noncomputable def HM (r:aH)(act kind:Int)(mend:List ak):PV:= .tuple (if mdE r act kind mend≠0 then [.agg xO, .int .i64 (mdE r act kind mend)]else [.agg ({r with ai:=nY (kI r act.toNat kind) (iO r act.toNat kind) mend}:aH).row, .int .i64 0])
theorem Ct {r:aH}(sh:eN r)(act kind:Int){mend:List ak}(hm:mend.length≤1000000)(hH:0<H.length):
  bM KC (aC KC) 29 [.pure (.agg r.row), .pure (.int .i64 act), .pure (.int .i64 kind), .pure (.slice (mend.map ak.row))] c H=some (.pure (HM r act kind mend),H):=by
 refine aN (aJ KC au Tryz.func29 rfl rfl Vk (by simp) hH ?_);have K:=fun(c:Nat) (H:aj) (hH:0<H.length)=>pz (c:=c) (H:=H) sh act kind hH;unfold HM;have hd:mdE r act kind mend=if uX r act kind≠0 then uX r act kind else if 3<mend.length then 8 else sF r (r.ai.getD act.toNat cn).aO mend:=rfl;by_cases he:uX r act kind=0
 ·obtain⟨k,rfl,hL⟩:=mY sh he;rw [he]at K;rw [if_neg (by simpa using he)]at hd;have hlt:=hL.lt;have hg:=hL.get;by_cases h3:3<mend.length
  ·have h3':(3:Int)<mend.length:=(by omega);rw [if_pos h3]at hd;rw [hd,if_pos (by simp)];rw [cQ]at K⊢;simp [K,h3,h3',aa,aE,xO]
  ·have h3': ¬(3:Int)<mend.length:=(by omega);rw [if_neg h3]at hd;have hgk:r.ai.getD (k:Int).toNat cn=r.ai[k]:=hg;rw [hgk]at hd;rw [hd];have C:=fun Q h1 h2=>Xi (H:=H) (k:=k) (kind:=kind) hlt hm sh Q mend.length 0 (by omega) h1 h2;simp only [List.drop_zero]at C;by_cases hz:sF r (r.ai[k]'hlt).aO mend=0
   ·rw [if_neg (by simpa using hz)];have tm: ∀a∈r.ai,0≤a.aR∧a.aR≤1000000:=fun a ha=>(by have:=hL.tm a ha;omega);obtain⟨A,hA⟩: ∃A,iO r k kind=A:=⟨_,rfl⟩;obtain⟨m,hm'⟩: ∃m,kI r k kind=m:=⟨_,rfl⟩;have hAl:A.length≤40:=(by rw [←hA];have:=mZ hL;have:=hL.Js;omega);have hmr:0≤m∧m≤1001:=hm'▸Cr hL;have LP:=fun(c:Nat) (H:aj) (hH:0<H.length)=>uw (c:=c) (H:=H) hL.run hlt hL.pw tm hL.Js hL.hand hH;have AF:=fun(c:Nat) (H:aj) (hH:0<H.length)=>Jv (c:=c) (H:=H) hlt hL.run.al (tm _ (List.getElem_mem hlt)) kind A (by omega) (g:= .pure (.slice (A.map ak.row))) rfl hH;rw [hA]at LP;rw [hm']at AF;have hUl:(eF m A).length≤A.length:=(List.takeWhile_sublist _).length_le;have hLA:iO r (k:Int).toNat kind=A:=hA;have hMA:kI r (k:Int).toNat kind=m:=hm';rw [hLA,hMA];have eU:eF m A=A.take (eF m A).length:=by
     have e:=il m A;obtain⟨U,hU⟩: ∃U,eF m A=U:=⟨_,rfl⟩;rw [hU]at e⊢;rw [←e];exact List.take_left.symm
    have eB:A.drop (eF m A).length=behind m A:=by
     have e:=il m A;obtain⟨V,hV⟩: ∃V,behind m A=V:=⟨_,rfl⟩;obtain⟨U,hU⟩: ∃U,eF m A=U:=⟨_,rfl⟩;rw [hU,hV]at e;rw [hU,hV,←e];exact List.drop_left
    have hBl:(behind m A).length+(eF m A).length=A.length:=by
     have e:=congrArg List.length (il m A);rw [List.length_append]at e;omega
    have hml:mend.length≤3:=(by omega);have rowU:List.take (eF m A).length (A.map ak.row)=(eF m A).map ak.row:=(by rw [←List.map_take,←eU]);have rowB:List.drop (eF m A).length (A.map ak.row)=(behind m A).map ak.row:=(by rw [←List.map_drop,eB]);have tmB: ∀a∈behind m A,0≤a.aR∧a.aR≤1000000000:=fun a ha=>by
     have ha':a∈A:=(List.dropWhile_sublist _).subset ha;rw [←hA]at ha';have:=(Cq hL ha').2;omega
    obtain⟨gc,F1,L1,k1,f1,CE⟩:=Ki (c:=89) (H:=H) (eF m A) (by omega) (F:=[(4,aA r),(8,ir)]) (by simp [aq]);have MI:=fun Q h1=>Xj (r:=r) (H:=H) (ai:=A) (mend:=mend) (A:=eF m A) (m:=m) (n:=(eF m A).length) (by omega) (by omega) (by omega) Q h1 mend.length 0 gc F1 (by omega) (by simpa [eG]using L1) (fun q top e=>by rw [k1 q top e];simp [mdk]) ⟨by rw [f1 4 (by decide)];rfl,by rw [f1 8 (by decide)];rfl⟩ (fun _=>⟨by rw [f1 105 (by decide)];rfl,by rw [f1 124 (by decide)];rfl⟩);have ME:=fun(g:GV) (fr:Fr) (L:pt H fr g (eF m A++eG m mend)) (hK:HK H [mdk,105,124] g) (mf:Ta r fr) (fn:g= .aS→fr.get 124=none) Q h1=>Xk (r:=r) (H:=H) (mend:=mend) (A:=eF m A++eG m mend) (B:=behind m A) (by omega) (by rw [List.length_append,lB];omega) (by omega) tmB Q h1 (behind m A).length 0 g fr (by omega) (by rw [List.take_zero,List.map_nil,List.append_nil];exact L) hK mf fn;obtain⟨u,hu⟩: ∃u,(eF m A).length=u:=⟨_,rfl⟩;rw [hu]at AF rowU rowB hUl MI eB;have tl:List.take A.length (A.map ak.row)=A.map ak.row:=List.take_of_length_le (by simp);have hlen': ∀x:ak,x.row.length=9:=fun _=>rfl;have unl: ¬(u:Int)<0:=(by omega);have hbl2:A.length-u=(behind m A).length:=(by omega);simp only [cQ]at K LP AF⊢;simp only [aA,ir]at C CE;have h3i: ¬3<mend.length:=h3;simp [K,h3,h3'];refine C _ (fun _=> ?_) (fun h=>absurd hz h);simp [LP,AF,CE,rowU,rowB,hUl,unl,hlen',tl,hbl2,-List.map_take,-List.map_drop];refine MI _ fun g2 F2 L2 hK2 mf2 fn2=> ?_;have ME2:=ME g2 F2 L2 hK2 mf2 fn2;simp [L2.cl,hUl,unl,rowB,hlen',hbl2,tl,-List.map_take,-List.map_drop];refine ME2 _ fun g3 F3 L3 mf3=> ?_;have hL':nY m A mend=(eF m A++eG m mend)++(behind m A).map fun a=>{a with aR:=a.aR+mend.length}:=rfl;rw [←hL']at L3;obtain⟨F4,r4,e4⟩:=Kh (f:=65) rfl rfl rfl [] (F:=F3) (H:=H) (.rd (g:= .pure (.agg r.row)) rfl HL (.rdc L3.rd rfl L3.top .nil));have OW:=Fm (c:=128) (H:=F4::H) r sh (nY m A mend) (by rw [hL',List.length_append,List.length_append,List.length_map,lB];omega) (by simp);have OW2:=(e4 128).trans ((mW (f:=65) (c:=128) (H:=F4::H) rfl rfl rfl [.agg r.row, .slice ((nY m A mend).map ak.row)]).symm.trans OW);simp only [List.nil_append,cQ]at OW2;have q4:=mf3.f4;have q8:=r4.box mf3.f8;simp [q4,OW2,q8,aE,aa,aA,ir,Fr.bp]
   ·rw [if_pos hz];rw [cQ]at K⊢;simp only [aA,ir]at C;simp [K,h3,h3'];refine C _ (fun h=>absurd h hz) (fun _=> ?_);simp [aa,xO]
 ·have he':(uX r act kind==0)=false:=(by simpa using he);rw [if_pos he]at hd;rw [hd,if_pos he];rw [cQ]at K⊢;simp [K,he,he',aa,aE,xO]
end
section
variable {c:Nat} {H:aj}
noncomputable def lpT (r:aH)(act kind:Int):PV:= .tuple (if uX r act kind≠0 then [.agg xO, .int .i64 (uX r act kind)]else [.agg ({r with ai:=iO r act.toNat kind}:aH).row, .int .i64 0])
theorem HN {r:aH}(sh:eN r)(act kind:Int)(hH:0<H.length):
  bM KC (aC KC) 27 [.pure (.agg r.row), .pure (.int .i64 act), .pure (.int .i64 kind)] c H=some (.pure (lpT r act kind),H):=by
 refine aN (aJ KC au Tryz.func27 rfl rfl Vi (by simp) hH ?_);have K:=fun(c:Nat) (H:aj) (hH:0<H.length)=>pz (c:=c) (H:=H) sh act kind hH;unfold lpT;by_cases he:uX r act kind=0
 ·obtain⟨k,rfl,hL⟩:=mY sh he;have LP:=fun(c:Nat) (H:aj) (hH:0<H.length)=>uw (c:=c) (H:=H) hL.run hL.lt hL.pw (fun a ha=>by have:=hL.tm a ha;omega) hL.Js hL.hand hH;have OW:=fun(c:Nat) (H:aj) (hH:0<H.length)=>Fm (c:=c) (H:=H) r sh (iO r k kind) (by have:=mZ hL;have:=hL.Js;omega) hH;rw [he]at K;rw [if_neg (by simpa using he)];have hn:iO r (k:Int).toNat kind=iO r k kind:=rfl;rw [hn];simp only [cQ]at K LP OW⊢;simp [K,LP,OW,aE,aa]
 ·have he':(uX r act kind==0)=false:=(by simpa using he);rw [if_pos he];rw [cQ]at K⊢;simp [K,he,he',aa,aE,xO]
theorem Eu {r:aH}(sh:eN r)(act kind:Int)(hH:0<H.length):
  bM KC (aC KC) 28 [.pure (.agg r.row), .pure (.int .i64 act), .pure (.int .i64 kind)] c H=some (.pure (lpT r act kind),H):=by
 refine aN (aJ KC au Tryz.func28 rfl rfl Vj (by simp) hH ?_);have K:=fun(c:Nat) (H:aj) (hH:0<H.length)=>py (c:=c) (H:=H) sh act kind hH;unfold clO at K;unfold lpT;by_cases he:uX r act kind=0
 ·obtain⟨k,rfl,hL⟩:=mY sh he;have L:=fun(c:Nat) (H:aj) (hH:0<H.length)=>xn (c:=c) (H:=H) hL.run hL.lt hL.pw (fun a ha=>by have:=hL.tm a ha;omega) sh.a hL.hand (eE r).1 hL.scn hH;have W:=fun(c:Nat) (H:aj) (hH:0<H.length)=>Fl (c:=c) (H:=H) r sh (iO r k kind) (by have:=mZ hL;have:=hL.Js;omega) hH;rw [he]at K;simp only [if_true]at K;rw [if_neg (by simpa using he)];have hn:iO r (k:Int).toNat kind=iO r k kind:=rfl;rw [hn];simp only [cQ]at K L W⊢;simp [K,L,W,aE,aa]
 ·have he':(uX r act kind==0)=false:=(by simpa using he);rw [if_pos he];rw [cQ]at K⊢;simp [K,he,he',aa,aE,xO]
end
section
variable {c:Nat} {H:aj}
section
variable {r:aH} {k:Nat} {kind:Int} (hk:k<r.ai.length) {mend:List ak} (hm:mend.length≤1000000) (sh:eN r)
include hk hm sh
theorem PA (sc:PV)(Q:GX→bP→Prop): ∀j i:Nat,i+j=mend.length→
  (sF r (r.ai[k]'hk).aO (mend.drop i)=0→Q (.exit 0) ⟨[(1, .pure (.int .i64 k)),(2, .pure (.int .i64 kind)),(3, .pure (.slice (mend.map ak.row))),(4, .aD (H.length,4) 0),(8, .aD (H.length,8) 0),(9,aP),(10, .pure sc)],[(4,aA r),(8,ir)]::H,84⟩)→
  (sF r (r.ai[k]'hk).aO (mend.drop i)≠0→Q .ret ⟨[(1, .pure (.int .i64 k)),(2, .pure (.int .i64 kind)),(3, .pure (.slice (mend.map ak.row))),(4, .aD (H.length,4) 0),(8, .aD (H.length,8) 0),(9, .pure (.int .i64 (sF r (r.ai[k]'hk).aO (mend.drop i)))),(10, .pure sc)],[(4,aA r),(8,ir)]::H,84⟩)→
  fL KC au 30 (lp Tryz.f30 0) [1,2,3,4,8,10,12] [1,2,3,4,8,9,10] Q
   [(1, .pure (.int .i64 k)),(2, .pure (.int .i64 kind)),(3, .pure (.slice (mend.map ak.row))),(4, .aD (H.length,4) 0),(8, .aD (H.length,8) 0),(10, .pure sc),(12, .pure (.int .i64 i))] ([(4,aA r),(8,ir)]::H) 84:=by
 have ne1: ¬H.length=H.length+1:=(by omega);intro j
 induction j with
 |zero=>
  intro i hi h1 _;have e:mend.drop i=[]:=List.drop_of_length_le (by omega);rw [e]at h1;have hnl: ¬i<mend.length:=(by omega);apply aw;conv=>arg 4;whnf
  simp [hnl];simpa using h1 rfl
 |succ j ih=>
  intro i hi h1 h2;have hil:i<mend.length:=(by omega);have hw:=cu (x:=(i:Int)+1) (by omega) (by omega);have ed:mend.drop i=mend[i]::mend.drop (i+1):=List.drop_eq_getElem_cons hil;obtain⟨a,ha⟩: ∃a,mend[i]=a:=⟨_,rfl⟩;rw [ha]at ed;rw [ed]at h1 h2;simp only [sF]at h1 h2;have FD: ∀(c:Nat) (H:aj),0<H.length→aI KC (aC KC) 76 [.pure (.agg r.row), .pure (.agg a.row)] c H=some (.pure (.int .i64 (dh (b9 r.wide r.deep) r.ae.length r.ah.length a)),H):=fun c H hH=>sy (c:=c) (H:=H) (r:=r) (q1:=a.aR) (q2:=a.aO) (kind:=a.kind) (hand:=a.hand) (a9:=a.a9) (cell:=a.cell) (other:=a.other) (q3:=a.cd) (q4:=a.iv) sh.p sh.t hH;rw [cQ,bz]at FD;simp only [aA,ir]at h1 h2 ih⊢;have ih':=ih (i+1) (by omega);obtain⟨aO,hwho⟩: ∃aO,(r.ai[k]'hk).aO=aO:=⟨_,rfl⟩;rw [hwho]at h1 h2 ih';have hd:=zc r aO a;have err3:(a.aR≠0∨a.cd≠0∨a.iv≠0)→a.aO=aO→zb r aO a=3:=fun h w=>(by rw [hd,if_neg (by simpa using w),if_pos h]);by_cases w:a.aO=aO
  ·by_cases z1:a.aR=0
   ·by_cases z2:a.cd=0
    ·by_cases z3:a.iv=0
     ·rw [if_neg (by simpa using w),if_neg (by simp [z1,z2,z3])]at hd;rw [hd]at h1 h2;generalize dh (b9 r.wide r.deep) r.ae.length r.ah.length a=e at FD h1 h2;by_cases fz:e=0
      ·rw [fz]at FD;rw [if_neg (by simpa using fz)]at h1 h2;have ih2:=ih' h1 h2;rw [z1,z2,z3,w]at FD;apply aw;conv=>arg 4;whnf
       simp [hil,ha,hk,ak.row,hwho,w,ne1,z1,z2,z3,FD,hw];simpa using ih2
      ·have fz':(e==0)=false:=(by simpa using fz);rw [if_pos fz]at h2;have h2':=h2 fz;rw [z1,z2,z3,w]at FD;apply aw;conv=>arg 4;whnf
       simp [hil,ha,hk,ak.row,hwho,w,ne1,z1,z2,z3,FD,fz,fz',hw,aE];simpa using h2'
     ·have e3:=err3 (Or.inr (Or.inr z3)) w;have z3':(a.iv==0)=false:=(by simpa using z3);rw [e3]at h2;have h2':=h2 (by simp);simp at h2';apply aw;conv=>arg 4;whnf
      simp [hil,ha,hk,ak.row,hwho,w,ne1,z1,z2,z3,z3',aE];exact h2'
    ·have e3:=err3 (Or.inr (Or.inl z2)) w;have z2':(a.cd==0)=false:=(by simpa using z2);rw [e3]at h2;have h2':=h2 (by simp);simp at h2';apply aw;conv=>arg 4;whnf
     simp [hil,ha,hk,ak.row,hwho,w,ne1,z1,z2,z2',aE];exact h2'
   ·have e3:=err3 (Or.inl z1) w;have z1':(a.aR==0)=false:=(by simpa using z1);rw [e3]at h2;have h2':=h2 (by simp);simp at h2';apply aw;conv=>arg 4;whnf
    simp [hil,ha,hk,ak.row,hwho,w,ne1,z1,z1',aE];exact h2'
  ·rw [if_pos w]at hd;have w':(a.aO==aO)=false:=(by simpa using w);rw [hd]at h2;have h2':=h2 (by simp);simp at h2';apply aw;conv=>arg 4;whnf
   simp [hil,ha,hk,ak.row,hwho,w,w',ne1,aE];exact h2'
end
theorem Cu {r:aH}(sh:eN r)(act kind:Int){mend:List ak}(hm:mend.length≤1000000)(hH:0<H.length):
  bM KC (aC KC) 30 [.pure (.agg r.row), .pure (.int .i64 act), .pure (.int .i64 kind), .pure (.slice (mend.map ak.row))] c H=some (.pure (HM r act kind mend),H):=by
 refine aN (aJ KC au Tryz.func30 rfl rfl Vl (by simp) hH ?_);have K:=fun(c:Nat) (H:aj) (hH:0<H.length)=>py (c:=c) (H:=H) sh act kind hH;unfold clO at K;unfold HM;have hd:mdE r act kind mend=if uX r act kind≠0 then uX r act kind else if 3<mend.length then 8 else sF r (r.ai.getD act.toNat cn).aO mend:=rfl;by_cases he:uX r act kind=0
 ·obtain⟨k,rfl,hL⟩:=mY sh he;rw [he]at K;simp only [if_true]at K;rw [if_neg (by simpa using he)]at hd;have hlt:=hL.lt;have hg:=hL.get;by_cases h3:3<mend.length
  ·have h3':(3:Int)<mend.length:=(by omega);rw [if_pos h3]at hd;rw [hd,if_pos (by simp)];rw [cQ]at K⊢;simp [K,h3,h3',aa,aE,xO]
  ·have h3': ¬(3:Int)<mend.length:=(by omega);rw [if_neg h3]at hd;have hgk:r.ai.getD (k:Int).toNat cn=r.ai[k]:=hg;rw [hgk]at hd;rw [hd];have C:=fun sc Q h1 h2=>PA (H:=H) (k:=k) (kind:=kind) hlt hm sh sc Q mend.length 0 (by omega) h1 h2;simp only [List.drop_zero]at C;by_cases hz:sF r (r.ai[k]'hlt).aO mend=0
   ·rw [if_neg (by simpa using hz)];have L:=fun(c:Nat) (H:aj) (hH:0<H.length)=>xn (c:=c) (H:=H) hL.run hL.lt hL.pw (fun a ha=>by have:=hL.tm a ha;omega) sh.a hL.hand (eE r).1 hL.scn hH;have M:=fun(c:Nat) (H:aj) (hH:0<H.length)=>HJ (c:=c) (H:=H) hL.lt (by have:=hL.tm _ (List.getElem_mem hL.lt);omega) kind hH;have hmr:=Cr hL;have hAl:(iO r k kind).length≤40:=(by have:=mZ hL;have:=hL.Js;omega);have MD:=fun(c:Nat) (H:aj) (hH:0<H.length)=>Er (c:=c) (H:=H) (ai:=iO r k kind) (mend:=mend) (m:=kI r k kind) (by omega) (by omega) (by omega) (fun a ha=>by have:=(Cq hL ha).2;omega) hH;have hML:(nY (kI r k kind) (iO r k kind) mend).length≤1000000:=by
     unfold nY;have h1:(eF (kI r k kind) (iO r k kind)).length+(behind (kI r k kind) (iO r k kind)).length=(iO r k kind).length:=(by rw [←List.length_append,il]);rw [List.length_append,List.length_append,List.length_map,kY];omega
    have W:=fun(c:Nat) (H:aj) (hH:0<H.length)=>Fl (c:=c) (H:=H) r sh (nY (kI r k kind) (iO r k kind) mend) hML hH;have hn:iO r (k:Int).toNat kind=iO r k kind:=rfl;have hn2:kI r (k:Int).toNat kind=kI r k kind:=rfl;rw [hn,hn2];simp only [cQ]at K L M W⊢;simp only [aA,ir]at C;have h3i: ¬3<mend.length:=h3;simp [K,h3,h3'];refine C _ _ (fun _=> ?_) (fun h=>absurd hz h);simp [L,M,MD,W,aE,aa]
   ·rw [if_pos hz];rw [cQ]at K⊢;simp only [aA,ir]at C;simp [K,h3,h3'];refine C _ _ (fun h=>absurd h hz) (fun _=> ?_);simp [aa,xO]
 ·have he':(uX r act kind==0)=false:=(by simpa using he);rw [if_pos he]at hd;rw [hd,if_pos he];rw [cQ]at K⊢;simp [K,he,he',aa,aE,xO]
end
section
variable {c:Nat} {H:aj}
end
section
variable {c:Nat} {H:aj}
end
section
variable {c:Nat} {H:aj}
end
section
variable {c:Nat} {H:aj}
end
section
variable {c:Nat} {H:aj}
end
section
variable {c:Nat} {H:aj}
theorem Kj {F:Fr}(r:aH)(sh:eN r)(f6:F.get (aq c 6)=none)(f10:F.get (aq c 10)=none)(f22:F.get (aq c 22)=none):
  ∃F',(∀k,k≠aq c 6→k≠aq c 10→k≠aq c 22→F'.get k=F.get k)∧
   (r.ah.map aQ.row≠[]→F'.get (aq c 6)=some (.arr 2 (r.ah.map aQ.row) 0 false))∧(r.ae.map aV.row≠[]→F'.get (aq c 10)=some (.arr 5 (r.ae.map aV.row) 0 false))∧(r.ai.map ak.row≠[]→F'.get (aq c 22)=some (.arr 9 (r.ai.map ak.row) 0 false))∧
   aI KC (aC KC) 13 [.pure (.agg r.row)] c (F::H)=some (Ae (H.length,aq c 6) (H.length,aq c 10) (H.length,aq c 22) r,F'::H):=by
 have kx:aq c 6≠aq c 10:=(by unfold aq;omega);have lR:aq c 6≠aq c 22:=(by unfold aq;omega);have kD:aq c 10≠aq c 22:=(by unfold aq;omega);have O:=D8 (c:=c) (H:=F::H) r sh (by simp) (by simpa using f6) (by simpa using f10) (by simpa using f22);simp only [List.length_cons,Nat.add_sub_cancel]at O;have hH:JJ (F::H) (H.length,aq c 6) (H.length,aq c 10) (H.length,aq c 22) r=dS (aq c 22) 9 (r.ai.map ak.row) (dS (aq c 10) 5 (r.ae.map aV.row) (dS (aq c 6) 2 (r.ah.map aQ.row) F))::H:=by
  unfold JJ;rw [ve rfl,ve rfl,ve rfl]
 rw [hH]at O;refine⟨_,fun k a b d=> ?_,fun h=> ?_,fun h=> ?_,fun h=> ?_,O⟩
 ·rw [bu d,bu b,bu a]
 ·rw [bu lR,bu kx,cw h]
 ·rw [bu kD,cw h]
 ·rw [cw h]
end
section
variable {H:aj}
theorem xq {f:Fr}{g:GV}{q:PV}(h:xr H g q):xr (f::H) g q:=by
 cases g with
 |aW nm es top lo len=>
  obtain⟨rows,v,ro,a,b⟩:=h;have:=aj.bS a;exact⟨rows,v,ro,by rw [aj.mU,if_neg (by omega)];exact a,b⟩
 |pure p=>exact h
 |aS=>exact h
 |_=>exact h.elim
theorem uL {α:Type}{z xs:List α}(h:z.length=xs.length):aE z 0 xs=xs:=by
 unfold aE;simp [h.symm]
theorem pA (l0:Nat): ∀(ps:List PV) (H:aj),cG H l0 (ps.map .pure)=(ps.map .pure,H)
 | [],H=>rfl
 |p::ps,H=>by
  rw [List.map_cons];show (let (p',H1):=ez H l0 (.pure p);let (ps',H2):=cG H1 l0 (ps.map .pure);(p'::ps',H2))=_
  have e:ez H l0 (.pure p)=(.pure p,H):=rfl;rw [e];simp only [pA l0 ps H]
end
section
variable {c:Nat} {H:aj}
end
section
variable {c:Nat} {H:aj}
theorem HO {g:GV}{l:List (List PV)}(h:xr H g (.slice l)):gn H g=some (l,H):=by
 cases g with
 |aW nm es top lo len=>
  obtain⟨rows,v,ro,a,b,h1,h2,h3,h4⟩:=h;subst h1 h2 h3;cases h4;simp [gn,js,a,b]
 |pure p=>cases h;rfl
 |aS=>cases h;rfl
 |_=>exact h.elim
inductive qm (H:aj):List GV→List PV→Prop
 |nil:qm H [] []
 |g {g:GV} {q:PV} {l:List GV} {m:List PV} (hg:nd H g q) (h:qm H l m):qm H (g::l) (q::m)
 |c {g:GV} {q:PV} {l:List GV} {m:List PV} (hg:xr H g q) (hq:canon (.pure q)= .pure q) (h:qm H l m):qm H (g::l) (q::m)
theorem qm.HG {H H':aj}(hr:fE H H'){l:List GV}{m:List PV}(h:qm H l m):qm H' l m:=by
 induction h with
 |nil=>exact .nil
 |g hg _ ih=>exact .g (kE hr hg) ih
 |c hg hq _ ih=>exact .c (lS hr hg) hq ih
theorem sG: ∀{l:List GV} {m:List PV} {H:aj},qm H l m→(bm H l).1.map canon=(m.map GV.pure).map canon
 |_,_,H, .nil=>rfl
 |g::l,q::m,H, .g hg h=>by
  have r:=(mV H g).HG;rw [fG,sG (h.HG r),(lT hg).1];rfl
 |g::l,q::m,H, .c hg hq h=>by
  have r:=(mV H g).HG;rw [fG,sG (h.HG r),y9 hg,List.map_cons,List.map_cons,hq]
theorem Av {f:FuncId}(h1:KC.tG f=false)(h2:KC.Aw f=false)(h3:KC.Gs f=true){F:Fr}{l:List GV}{m:List PV}(h:qm (F::H) l m):
  ∃F' H',ql F F'∧kL H H'∧ ∀c,aI KC (aC KC) f l c (F::H)=bM KC (aC KC) f (m.map .pure) c (F'::H'):=by
 have r:=xk l (F::H);obtain⟨X,hX⟩: ∃X,(bm (F::H) l).2=X:=⟨_,rfl⟩;rw [hX]at r
 cases r with
 |cons r1 r2=>
  refine⟨_,_,r1,r2,fun c=> ?_⟩;rw [gR h1 h2 h3,hX];exact mm (sG h)
theorem HP {a b:GV}(l:List ak)(hn:l.length≤1000000)(h1:xr H a (.slice (l.map ak.row)))(h2:xr H b (.slice (l.map ak.row)))(hH:0<H.length):
  aI KC (aC KC) 31 [a,b] c H=some (.pure (.bool true),H):=by
 refine gL KC rfl rfl (sG (.c h1 rfl (.c h2 rfl .nil))) rfl hH (fun H hH=> ?_) rfl;refine aN (aJ KC au Tryz.func31 rfl rfl Ik (by simp) hH ?_);simp;refine tK (H:=[]::H) l hn _ (by simp) l.length 0 (by omega) ?_;simp [aa]
theorem m0 {F:Fr}{k:Nat}{b:dM}(h:F.get k=none):fE (F::H) (F.ins k b::H):=fun nm es rows v ro hg=>by
 rw [aj.mU]at hg⊢;by_cases e:nm.1=H.length
 ·rw [if_pos e]at hg⊢;by_cases ek:nm.2=k
  ·rw [ek,h]at hg;cases hg
  ·exact⟨ro,(Fr.ax _ ek _).trans hg⟩
 ·rw [if_neg e]at hg⊢;exact⟨ro,hg⟩
theorem HQ {r:aH}(sh:eN r)(act kind:Int): ∃(r':aH) (e:Int),lpT r act kind= .tuple [.agg r'.row, .int .i64 e]∧eN r':=by
 have z:eN ⟨0,0,[],[],[],[],[]⟩:=⟨by simp,by simp,by simp,by simp,by simp⟩;unfold lpT;by_cases he:uX r act kind=0
 ·obtain⟨k,rfl,hL⟩:=mY sh he;rw [if_neg (by simpa using he)];refine⟨_,0,rfl,⟨sh.p,sh.t,sh.s,sh.l, ?_⟩⟩;have h1:=mZ hL;have h2:=hL.Js;show (iO r k kind).length≤_
  omega
 ·rw [if_pos he];exact⟨⟨0,0,[],[],[],[],[]⟩,_,rfl,z⟩
theorem Ew {r:aH}(sh:eN r)(act kind:Int){mend:List ak}(hm:mend.length≤100000): ∃(r':aH) (e:Int),HM r act kind mend= .tuple [.agg r'.row, .int .i64 e]∧eN r':=by
 have z:eN ⟨0,0,[],[],[],[],[]⟩:=⟨by simp,by simp,by simp,by simp,by simp⟩;unfold HM;by_cases he:mdE r act kind mend=0
 ·rw [if_neg (by simpa using he)];by_cases hc:uX r act kind=0
  ·obtain⟨k,rfl,hL⟩:=mY sh hc;refine⟨_,0,rfl,⟨sh.p,sh.t,sh.s,sh.l, ?_⟩⟩;have h1:=mZ hL;have h2:=hL.Js;show (nY (kI r k kind) (iO r k kind) mend).length≤_
   unfold nY;have h3:(eF (kI r k kind) (iO r k kind)).length+(behind (kI r k kind) (iO r k kind)).length=(iO r k kind).length:=(by rw [←List.length_append,il]);rw [List.length_append,List.length_append,List.length_map,kY];omega
  ·unfold mdE at he;rw [if_pos hc]at he;exact absurd he hc
 ·rw [if_pos he];exact⟨⟨0,0,[],[],[],[],[]⟩,_,rfl,z⟩
theorem Az (rs:List aH)(xs ys:List Int)(gs:List GV)(ms:List (List ak))(hl:rs.length=3)(ha:xs.length=3)(hk:ys.length=3)(hg:gs.length=3)(hms:ms.length=3)(hall: ∀r∈rs,eN r)(hml: ∀m∈ms,m.length≤100)(n:Nat)(hle:(gs.map fun g=> [g]).all (fU (n-1))=true)(lit:GV)(hlit:lit= .lits (gs.map fun g=> [g])∨(lit= .pure (.slice (ms.map fun m=> [.slice (m.map ak.row)]))∧gs=ms.map fun m=>GV.pure (.slice (m.map ak.row))))(Q:GX→bP→Prop): ∀(k i:Nat) (H:aj),0<H.length→H.length=n→i+k=3→(∀j (h1:j<gs.length) (h2:j<ms.length),xr H gs[j] (.slice (ms[j].map ak.row)))→(∀H',kL H H'→Q (.exit 2) ⟨[(10,aP)],H',215⟩)→
  fL KC au 4 (lp Tryz.f4 1) [17,18,19,20,21] [10] Q [(17, .pure (.slice (rs.map aH.row))),(18, .pure (.slice (xs.map aG))),(19, .pure (.slice (ys.map aG))),(20,lit),(21, .pure (.int .i64 i))] H 215:=by
 intro k
 induction k with
 |zero=>
  intro i H hH hn hi hrd hQ;have hnl: ¬i<rs.length:=(by omega);have hQ':=hQ H (kL.refl H);apply aw;conv=>arg 4;whnf
  simp [hnl,hH];simpa using hQ'
 |succ k ih=>
  intro i H hH hn hi hrd hQ;have hir:i<rs.length:=(by omega);have hia:i<xs.length:=(by omega);have hik:i<ys.length:=(by omega);have hig:i<gs.length:=(by omega);have him:i<ms.length:=(by omega);have hw:=cu (x:=(i:Int)+1) (by omega) (by omega);have ih':=fun H' hH hn hrd hQ=>ih (i+1) H' hH hn (by omega) hrd hQ;have sh:=hall _ (List.getElem_mem hir);have hm1:=hml _ (List.getElem_mem him);have hrdi:=hrd i hig him;obtain⟨r,hr⟩: ∃r,rs[i]=r:=⟨_,rfl⟩;obtain⟨g,hgg⟩: ∃g,gs[i]=g:=⟨_,rfl⟩;obtain⟨m,hmm⟩: ∃m,ms[i]=m:=⟨_,rfl⟩;rw [hr]at sh;rw [hmm]at hm1;rw [hgg,hmm]at hrdi;have hrow:(rs.map aH.row)[i]'(by simpa using hir)=r.row:=(by rw [List.getElem_map,hr]);have rl:r.row.length=7:=rfl;have tkr:List.take 7 r.row=r.row:=rfl;obtain⟨F1,o1,p2,p3,p7,O⟩:=Kj (c:=106) (H:=H) (F:=[]) r sh rfl rfl rfl;have m1:aq 106 6=24683:=(by decide);have m2:aq 106 10=41067:=(by decide);have m3:aq 106 22=90219:=(by decide);rw [m1,m2,m3]at o1 O;rw [m1]at p2;rw [m2]at p3;rw [m3]at p7;obtain⟨o,ho⟩: ∃o:List GV,[.pure (.int .i64 r.wide), .pure (.int .i64 r.deep),cv (H.length,24683) 2 (r.ah.map aQ.row),cv (H.length,41067) 5 (r.ae.map aV.row), .pure (.slice (r.seen.map aG)), .pure (.slice (r.aY.map aG)),cv (H.length,90219) 9 (r.ai.map ak.row)]=o:=⟨_,rfl⟩;have hog:Ae (H.length,24683) (H.length,41067) (H.length,90219) r= .agg o:=(by rw [←ho];rfl);have hol:o.length=7:=(by rw [←ho];rfl);rw [hog]at O;have hot:nd (F1::H) (.agg o) (.agg r.row):=(by rw [←hog];exact rdO p2 p3 p7);have f112:F1.get 112=none:=(o1 112 (by decide) (by decide) (by decide)).trans rfl;have GE:=fun F=>HO (xq (f:=F) hrdi);have A:=iQ (H:=H) (l:=H.length) (key:=112) (es:=9) (bytes:=72) (rows:=m.map ak.row) (fr:=F1) rfl f112 (by rw [List.length_map];omega);obtain⟨F2,hF2⟩: ∃F2,dS 112 9 (m.map ak.row) F1=F2:=⟨_,rfl⟩;obtain⟨g2,hg2⟩: ∃g2,cv (H.length,112) 9 (m.map ak.row)=g2:=⟨_,rfl⟩;have rd2:xr (F2::H) g2 (.slice (m.map ak.row)):=by
   rw [←hg2,←hF2];exact kB fun h=>by simpa using cw h
  have clg: ∀X,clean X H.length g2=g2:=fun X=>(by rw [←hg2];simp);have lwg: ∀X,ez X H.length g2=(g2,X):=fun X=>(by rw [←hg2];simp);have cog:bQ g2=some [g2]:=(by rw [←hg2];simp);have o2: ∀k,k≠112→F2.get k=F1.get k:=fun k hk=>(by rw [←hF2];exact bu hk);rw [hF2,hg2]at A;have s2:nd (F2::H) (.agg o) (.agg r.row):=by
   rw [←hog];exact rdO (fun h=>(o2 _ (by decide)).trans (p2 h)) (fun h=>(o2 _ (by decide)).trans (p3 h)) (fun h=>(o2 _ (by decide)).trans (p7 h))
  have p22:F2.get 22=none:=(o2 22 (by decide)).trans ((o1 22 (by decide) (by decide) (by decide)).trans rfl);have none2: ∀k,k≠112→k≠24683→k≠41067→k≠90219→F2.get k=none:=fun k a b d e=>(o2 k a).trans ((o1 k b d e).trans rfl);obtain⟨F3,hF3⟩: ∃F3,F2.ins 22 (.box o)=F3:=⟨_,rfl⟩;have sim3:fE (F2::H) (F3::H):=(by rw [←hF3];exact m0 p22);have q3:F3.get 22=some (.box o):=(by rw [←hF3,Fr.bp]);have none3: ∀k,k≠22→k≠112→k≠24683→k≠41067→k≠90219→F3.get k=none:=fun k z a b d e=>(by rw [←hF3,Fr.ax _ z];exact none2 k a b d e);obtain⟨x,hx⟩: ∃x,xs[i]=x:=⟨_,rfl⟩;obtain⟨y,hy⟩: ∃y,ys[i]=y:=⟨_,rfl⟩;obtain⟨r1,e1,hT1,sh1⟩:=HQ sh x y;obtain⟨r2,e2,hT2,sh2⟩:=Ew sh x y (mend:=m) (by omega);obtain⟨F4,H4,f4,h4,c4⟩:=Av (f:=27) rfl rfl rfl (F:=F3) (H:=H) (.g (kE sim3 s2) (.g (g:= .pure (.int .i64 x)) rfl (.g (g:= .pure (.int .i64 y)) rfl .nil)));have C4:=(c4 123).trans (HN (c:=123) (H:=F4::H4) sh x y (by simp));rw [hT1]at C4;have hl4:H4.length=H.length:=h4.len;have sim4:fE (F2::H) (F4::H4):=sim3.trans (kL.HG (.cons f4 h4));have p24:F4.get 24=none:=f4.none (none3 24 (by decide) (by decide) (by decide) (by decide) (by decide));obtain⟨F5,hF5⟩: ∃F5,F4.ins 24 (.box (r1.row.map .pure))=F5:=⟨_,rfl⟩;have sim5:fE (F2::H) (F5::H4):=(by rw [←hF5];exact sim4.trans (m0 p24));have C5:=(mW (f:=28) (c:=139) (H:=F5::H4) rfl rfl rfl [.agg r.row, .int .i64 x, .int .i64 y]).trans (Eu (c:=139) (H:=F5::H4) sh x y (by simp));rw [hT1]at C5;have p26:F5.get 26=none:=(by rw [←hF5,Fr.ax _ (by decide)];exact f4.none (none3 26 (by decide) (by decide) (by decide) (by decide) (by decide)));obtain⟨F6,hF6⟩: ∃F6,F5.ins 26 (.box (r1.row.map .pure))=F6:=⟨_,rfl⟩;have sim6:fE (F2::H) (F6::H4):=(by rw [←hF6];exact sim5.trans (m0 p26));have q6_22:F6.get 22=some (.box o):=(by rw [←hF6,Fr.ax _ (by decide),←hF5,Fr.ax _ (by decide)];exact f4.box q3);have q6_24:F6.get 24=some (.box (r1.row.map .pure)):=(by rw [←hF6,Fr.ax _ (by decide),←hF5,Fr.bp]);have q6_26:F6.get 26=some (.box (r1.row.map .pure)):=(by rw [←hF6,Fr.bp]);have q4_22:F4.get 22=some (.box o):=f4.box q3;have q5_22:F5.get 22=some (.box o):=(by rw [←hF5,Fr.ax _ (by decide)];exact q4_22);obtain⟨F7,H7,f7,h7,c7⟩:=Av (f:=29) rfl rfl rfl (F:=F6) (H:=H4) (.g (kE sim6 s2) (.g (g:= .pure (.int .i64 x)) rfl (.g (g:= .pure (.int .i64 y)) rfl (.c (lS sim6 rd2) rfl .nil))));have C7:=(c7 153).trans (Ct (c:=153) (H:=F7::H7) sh x y (mend:=m) (by omega) (by simp));rw [hT2]at C7;have hl7:H7.length=H.length:=h7.len.trans hl4;have sim7:fE (F2::H) (F7::H7):=sim6.trans (kL.HG (.cons f7 h7));have p28:F7.get 28=none:=f7.none (by rw [←hF6,Fr.ax _ (by decide),←hF5,Fr.ax _ (by decide)];exact f4.none (none3 28 (by decide) (by decide) (by decide) (by decide) (by decide)));obtain⟨F8,hF8⟩: ∃F8,F7.ins 28 (.box (r2.row.map .pure))=F8:=⟨_,rfl⟩;have sim8:fE (F2::H) (F8::H7):=(by rw [←hF8];exact sim7.trans (m0 p28));have simH7:fE H H7:=(kL.HG h4).trans (kL.HG h7);obtain⟨F9,H9,f9,h9,c9⟩:=Av (f:=30) rfl rfl rfl (F:=F8) (H:=H7) (.g (g:= .pure (.agg r.row)) rfl (.g (g:= .pure (.int .i64 x)) rfl (.g (g:= .pure (.int .i64 y)) rfl (.c (xq (lS simH7 hrdi)) rfl .nil))));have C9:=(c9 173).trans (Cu (c:=173) (H:=F9::H9) sh x y (mend:=m) (by omega) (by simp));rw [hT2]at C9;have hl9:H9.length=H.length:=h9.len.trans hl7;have sim9:fE (F2::H) (F9::H9):=sim8.trans (kL.HG (.cons f9 h9));have simH9:fE H H9:=simH7.trans (kL.HG h9);have p30:F9.get 30=none:=f9.none (by rw [←hF8,Fr.ax _ (by decide)];exact f7.none (by rw [←hF6,Fr.ax _ (by decide),←hF5,Fr.ax _ (by decide)];exact f4.none (none3 30 (by decide) (by decide) (by decide) (by decide) (by decide))));obtain⟨F10,hF10⟩: ∃F10,F9.ins 30 (.box (r2.row.map .pure))=F10:=⟨_,rfl⟩;have sim10:fE (F2::H) (F10::H9):=(by rw [←hF10];exact sim9.trans (m0 p30));have thru: ∀k b,k≠30→k≠28→F6.get k=some (.box b)→F10.get k=some (.box b):=fun k b a1 a2 h=>(by rw [←hF10,Fr.ax _ a1];exact f9.box (by rw [←hF8,Fr.ax _ a2];exact f7.box h));have z22:=thru 22 _ (by decide) (by decide) q6_22;have z24:=thru 24 _ (by decide) (by decide) q6_24;have z26:=thru 26 _ (by decide) (by decide) q6_26;have z28:F10.get 28=some (.box (r2.row.map .pure)):=(by rw [←hF10,Fr.ax _ (by decide)];exact f9.box (by rw [←hF8,Fr.bp]));have z30:F10.get 30=some (.box (r2.row.map .pure)):=(by rw [←hF10,Fr.bp]);have E1:=fun c=>qz (c:=c) (H:=F10::H9) (g1:= .pure (.agg r1.row)) (g2:= .pure (.agg r1.row)) r1 sh1 rfl rfl (by simp);have E2:=fun c=>qz (c:=c) (H:=F10::H9) (g1:= .pure (.agg r2.row)) (g2:= .pure (.agg r2.row)) r2 sh2 rfl rfl (by simp);have E3:=fun c=>qz (c:=c) (H:=F10::H9) (g1:= .agg o) (g2:= .pure (.agg r.row)) r sh (kE sim10 s2) rfl (by simp);have E4:=fun c=>HP (c:=c) (H:=F10::H9) (a:=g2) (b:=g) m (by omega) (lS sim10 rd2) (xq (lS simH9 hrdi)) (by simp);have hmo:ZQ (bG o) o= .agg o:=by
   rw [←ho];simp
  have hlo: ∀G,cG G H.length o=(o,G):=fun G=>by
   rw [←ho];simp
  have spo: ∀z:List GV,z.length=7→aE z 0 o=o:=fun z hz=>uL (by omega);have spr: ∀(r:aH) (z:List GV),z.length=7→aE z 0 (r.row.map .pure)=r.row.map .pure:=fun r z hz=>uL (by rw [List.length_map,hz];rfl);have tko:List.take 7 o=o:=List.take_of_length_le (by omega);have tkr1: ∀r:aH,List.take 7 (r.row.map GV.pure)=r.row.map GV.pure:=fun _=>rfl;have rl1: ∀r:aH,r.row.length=7:=fun _=>rfl;have l9: ∀x:ak,x.row.length=9:=fun _=>rfl;simp only [List.map_nil,List.map_cons]at C4 C5 C7 C9;have ih':=ih' H9 (by omega) (by omega) (fun j a b=>lS simH9 (hrd j a b)) (fun H' hr=>hQ H' ((h4.trans (h7.trans h9)).trans hr));have hcle: ∀X,clean X (H.length-1) (.lits (gs.map fun g=> [g]))= .lits (gs.map fun g=> [g]):=fun X=>by
   show (if _ then GV.lits _ else aP)=_
   rw [hn,hle];rfl
  rcases hlit with rfl|⟨rfl,e2⟩
  ·apply aw;conv=>arg 4;whnf
   simp [hir,hr,hia,hik,hig,hgg,hx,hy,l9,aG,rl,tkr,O,GE,A,f112,-wJ,-c8,Fr.bp,Fr.iB,clg,lwg,cog,p22,hF3,q3,hol,hmo,hlo,spo,spr,tko,tkr1,rl1,pA,C4,hl4,p24,hF5,q4_22,q5_22,C5,p26,hF6,q6_22,C7,hl7,p28,hF8,C9,hl9,p30,hF10,z22,z24,z26,z28,z30,E1,E2,E3,E4,hw];refine⟨hH, ?_⟩;rw [hcle];simpa using ih'
  ·have hgm:g= .pure (.slice (m.map ak.row)):=by
    have:gs[i]? =some (.pure (.slice (m.map ak.row))):=(by rw [e2,List.getElem?_map,List.getElem?_eq_getElem him,hmm];rfl);rw [List.getElem?_eq_getElem hig,hgg]at this;simpa using this
   rw [hgm]at GE E4 C9;apply aw;conv=>arg 4;whnf
   simp [hir,hr,hia,hik,hig,him,hmm,hx,hy,l9,aG,rl,tkr,O,GE,A,f112,-wJ,-c8,Fr.bp,Fr.iB,clg,lwg,cog,p22,hF3,q3,hol,hmo,hlo,spo,spr,tko,tkr1,rl1,pA,C4,hl4,p24,hF5,q4_22,q5_22,C5,p26,hF6,q6_22,C7,hl7,p28,hF8,C9,hl9,p30,hF10,z22,z24,z26,z28,z30,E1,E2,E3,E4,hw];refine⟨hH, ?_⟩;simpa using ih'
end
end Go.Gh
