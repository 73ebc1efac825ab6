/- Texts joined: the evaluator over ghost values, its soundness, the walks. Spaces struck and names made short by a program, for the size. -/
import Derived.Test.YtkcmcjohoockcaaGreatGc8k
import Derived.Test.YtkcmcjohoockcaaGreatGc8e
import Derived.ProofKit
import Derived.OpenShut
import Derived.ChangeOld
import Derived.Below
import Derived.Carry
import Derived.Test.YtkcmcjohoockcaaGreatGc8b
import Derived.ChangeKeysEq
import Derived.Test.YtkcmcjohoockcaaGreatGc8f
namespace Go.Gh
open Go.Proofs
set_option linter.unusedVariables false
set_option linter.unusedSimpArgs false
set_option linter.unnecessarySimpa false
set_option maxRecDepth 100000
set_option maxHeartbeats 8000000
section
variable {c:Nat} {H:aj}
theorem Um {r:aA}{k:Nat}{kind:Int}(hc:cv r=0)(h:ma r k kind):Az r k kind=0:=by
 have hk:=h.kd;refine uz (by rw [oA,if_pos hc];exact h.ok) h.lt (by omega) ?_;rintro⟨e1,e2⟩;rw [h.get]at e2;exact h.hand e1 e2
theorem Nv {r:aA}{k:Nat}{kind:Int}{l:List ak}(hc:cv r=0)(h:ma r k kind)(ho:jC r k kind=some l):MA r k kind l= .tuple [.agg (qj r k kind l).row, .int .i64 0]:=by
 obtain⟨l3,hall,_,_⟩:=na h ho;have e:ZG r k kind l=0:=by
  unfold ZG;rw [Um hc h,if_neg (by simp),if_neg (by omega),Int.toNat_natCast,h.get];exact TL h hall
 unfold MA;rw [e,if_neg (by simp),Int.toNat_natCast];rfl
theorem II {r:aA}{k:Nat}{kind:Int}{l:List ak}(sh:gL r)(hc:cv r=0)(h:ma r k kind)(ho:jC r k kind=some l)(hn:r.ai.length≤20)(ht: ∀a∈r.ai,a.ba≤100)(hH:0<H.length):
  aL KC (aE KC) 41 [.pure (.agg r.row), .pure (.int .i64 k), .pure (.int .i64 kind), .pure (.slice (l.map ak.row))] c H=some (.pure (.bool true),H):=by
 refine aM (bd KC au Tryz.func41 rfl rfl SO rfl rfl rfl (by simp) hH ?_);obtain⟨l3,hall,_,_⟩:=na h ho;have hx0:=E5 h hc (by omega) ht l3 hall;have hx1:=HT h ho;have hxl:(qj r k kind l).ai.length≤40:=by
  show (gM _ _ _).length≤40
  rw [Ek];have:=rr h;omega
 have sx:gL (qj r k kind l):=⟨sh.p,sh.t,sh.s,sh.l,by omega⟩;have D:=fun(c:Nat) (H:aj) (hH:0<H.length)=>(j3 (f:=29) (c:=c) (H:=H) rfl rfl rfl [.agg r.row, .int .i64 k, .int .i64 kind, .slice (l.map ak.row)]).trans (Co (c:=c) sh (fun _=>hn) k kind (mend:=l) (by omega) hH);rw [Nv hc h ho]at D;have S:=fun(c:Nat) (H:aj) (hH:0<H.length)=>(j3 (f:=17) (c:=c) (H:=H) rfl rfl rfl [.agg (qj r k kind l).row]).trans (Bx (c:=c) sx hH);have es:Nn (qj r k kind l)= .tuple [.slice ((dI (qj r k kind l)).1.map aw.row), .int .i64 0]:=by
  unfold Nn;rw [if_pos hx0,if_pos hx1]
 rw [es]at S;have ar:=h.ru;have A:=(lK hx0).2;have hwl:=h.wl;have hab:=h.run.ab _ (List.getElem_mem h.lt);have hwho:(r.ai[k]'h.lt).aO=iT r k:=by
  unfold iT;rw [h.get];exact hab.aO
 have hm0:=u6 h;have hLM:fF r k kind=(r.ai[k]'h.lt).ba+if kind=3 then 1 else 0:=(by unfold fF;rw [h.get]);have hta:=h.tm _ (List.getElem_mem h.lt);have L:=fun Q hQ=>Cv (H:=H) (r:=r) (x:=qj r k kind l) (l:=l) (m:=fF r k kind) (w:=iT r k) (sc:=(dI (qj r k kind l)).1) sh (by omega) (by omega) (by omega) (by omega) (fun a ha=>by have:=A.tm a ha;omega) (by omega) hwl (fun i hi h1 h2=>HV h ho hi h1 h2) Q (qj r k kind l).ai.length 0 0 (by omega) rfl (.inl rfl) hQ;generalize (dI (qj r k kind l)).1=sc at S L;generalize qj r k kind l=x at D S L sx;obtain⟨tm,htm⟩: ∃tm,(r.ai[k]'h.lt).ba=tm:=⟨_,rfl⟩;rw [htm]at hLM hta;have hlt:=h.lt;simp only [aU]at L;simp only [List.map_cons,List.map_nil]at D S;rw [eE]at D⊢;rw [eE]at D;rw [eE]at S;by_cases k3:kind=3
 ·rw [if_pos k3]at hLM;have hwt:IntKind.i64.wrap (tm+1)=fF r k kind:=(by rw [hLM];exact dp (by omega) (by omega));subst k3;simp [D,S,hlt,htm,hwho,hwt,ak.row,aD];refine L _ ?_;simp [ae]
 ·rw [if_neg k3,Int.add_zero]at hLM;rw [hLM]at L;simp [D,S,hlt,htm,hwho,k3,ak.row,aD];refine L _ ?_;simp [ae]
end
section
section
variable {r:aA} {wd:Int} (sh:gL r) (hc:cv r=0) (ho:oc r=0) (hn:r.ai.length≤20) (ht: ∀a∈r.ai,a.ba≤100)
include sh hc ho hn ht
theorem DN {i:Nat}(hi:i<r.ai.length)(hg: ∀x∈r.aX,lJ r i x=true)(Q:GX→bO→Prop): ∀k j:Nat,j+k=r.aX.length→
  Q (.exit 2) ⟨[(2,aN),(4, .ay (1,4) 0),(10, .pure (.int .i64 i))],[[],[(4,aU r),(24592,bw wd)],[]],109⟩→
  iB KC au 8 (lp Tryz.f8 1) [4,10,11] [2,4,10] Q [(4, .ay (1,4) 0),(10, .pure (.int .i64 i)),(11, .pure (.int .i64 j))] [[],[(4,aU r),(24592,bw wd)],[]] 109:=by
 intro k
 induction k with
 |zero=>
  intro j hj h1;have hnl: ¬j<r.aX.length:=(by omega);apply ax;conv=>arg 4;whnf
  simp [aU,hnl];simpa [aU]using h1
 |succ k ih=>
  intro j hj h1;have hja:j<r.aX.length:=(by omega);have hll:=sh.l;have hw:=dp (x:=(j:Int)+1) (by omega) (by omega);have ih':=ih (j+1) (by omega) h1;have hx:=hg _ (List.getElem_mem hja);have hx2:=(lK hc).1.ls _ (List.getElem_mem hja);obtain⟨x,hxe⟩: ∃x,r.aX[j]=x:=⟨_,rfl⟩;rw [hxe]at hx hx2;unfold lJ at hx;rw [aQ hi]at hx;simp only [aU]at ih'⊢;by_cases hk:x=2∧(r.ai[i]'hi).kind=1
  ·obtain⟨k1,k2⟩:=hk;subst k1;apply ax;conv=>arg 4;whnf
   simp [hja,hxe,hi,k2,hw,aF,ak.row];simpa using ih'
  ·rw [decide_eq_false hk,Bool.false_or]at hx;obtain⟨l,hl⟩:=Option.isSome_iff_exists.1 hx;have hcl:=uz ho hi hx2 (by rw [aQ hi];exact hk);obtain⟨k',e',L⟩:=ry sh hcl;have:k'=i:=(by omega);subst this;have hm:xr r k' x= .tuple [.slice (l.map ak.row), .int .i64 0]:=by
    unfold xr;rw [hcl,if_neg (by simp),Int.toNat_natCast,hl]
   have M:=fun(c:Nat) (H:aj) (hH:0<H.length)=>(j3 (f:=34) (c:=c) (H:=H) rfl rfl rfl [.agg r.row, .int .i64 k', .int .i64 x]).trans (AA (c:=c) (H:=H) sh (fun _=>hn) k' x hH);rw [hm]at M;have D:=fun(c:Nat) (H:aj) (hH:0<H.length)=>II (c:=c) (H:=H) sh hc L hl hn ht hH;simp only [List.map_cons,List.map_nil]at M;rw [eE]at M D;by_cases k1:x=2
   ·have k2: ¬(r.ai[k']'hi).kind=1:=fun e=>hk ⟨k1,e⟩;subst k1;apply ax;conv=>arg 4;whnf
    simp [hja,hxe,hi,k2,hw,M,D,aF,ak.row];simpa using ih'
   ·apply ax;conv=>arg 4;whnf
    simp [hja,hxe,hi,k1,hw,M,D,aF,ak.row];simpa using ih'
theorem DP (hg: ∀i,i<r.ai.length→ ∀x∈r.aX,lJ r i x=true)(Q:GX→bO→Prop): ∀k i:Nat,i+k=r.ai.length→
  Q (.exit 0) ⟨[(2,aN)],[[(4,aU r),(24592,bw wd)],[]],109⟩→
  iB KC au 8 (lp Tryz.f8 0) [4,10] [2] Q [(4, .ay (1,4) 0),(10, .pure (.int .i64 i))] [[(4,aU r),(24592,bw wd)],[]] 109:=by
 intro k
 induction k with
 |zero=>
  intro i hi h1;have hnl: ¬i<r.ai.length:=(by omega);apply ax;conv=>arg 4;whnf
  simp [aU,hnl];simpa [aU]using h1
 |succ k ih=>
  intro i hi h1;have hia:i<r.ai.length:=(by omega);have hw:=dp (x:=(i:Int)+1) (by omega) (by omega);have ih':=ih (i+1) (by omega) h1;have I:=fun Q hQ=>DN (wd:=wd) sh hc ho hn ht hia (hg i hia) Q r.aX.length 0 (by omega) hQ;simp only [aU]at ih' I⊢;apply ax;conv=>arg 4;whnf
  simp [hia];refine I _ ?_;simp [hw];simpa using ih'
end
theorem DQ {r:aA}(h:nT r r.ai.length 0=none): ∀i,i<r.ai.length→ ∀x∈r.aX,lJ r i x=true:=fun i hi x hx=>by
 unfold nT at h;have h1:=List.findSome?_eq_none_iff.1 h i (List.mem_range'_1.2 ⟨by omega,by omega⟩);unfold pU at h1;have h2:=List.findSome?_eq_none_iff.1 h1 x hx;by_cases e:lJ r i x=true
 ·exact e
 ·rw [if_neg e]at h2;cases h2
theorem DR {r:aA}{i x:Int}(h:nT r r.ai.length 0=some (i,x)): ∃k:Nat,i=k∧k<r.ai.length∧x∈r.aX∧lJ r k x=false:=by
 unfold nT at h;obtain⟨k,hk,h1⟩:=List.exists_of_findSome?_eq_some h;have hk2:=List.mem_range'_1.1 hk;unfold pU at h1;obtain⟨y,hy,h2⟩:=List.exists_of_findSome?_eq_some h1;by_cases e:lJ r k y=true
 ·rw [if_pos e]at h2;cases h2
 ·rw [if_neg e]at h2;cases h2;exact⟨k,rfl,by omega,hy,by simpa using e⟩
theorem aci (nums:List Int)(hnums:nums.length≤9223372036854775807):
  ∃H',aL KC (aE KC) 8 [.pure (.slice (nums.map aF))] 0 [[]]=some (.pure (.bool true),H'):=by
 suffices hs:mm (aL KC (aE KC) 8 [.pure (.slice (nums.map aF))] 0 [[]]) (fun x=>x.1= .pure (.bool true))by
  obtain⟨⟨v,H'⟩,h1,rfl⟩:=hs;exact⟨H',h1⟩
 refine bd KC au Tryz.func8 rfl rfl Zs rfl rfl rfl (by simp) (by simp) ?_;obtain⟨w,eB⟩:=Hv (c:=15) (H:=[[],[]]) nums hnums (by simp) (by simp [ao]);have k24:ao 15 6=24592:=(by decide);simp only [List.length_cons,List.length_nil,Nat.zero_add,Nat.add_sub_cancel,k24]at eB;have hfin: ∀w,aj.set [[],[]] (1,24592) (bw w)=[[(24592,bw w)],[]]:=fun w=>(by simp);rw [hfin]at eB;have hBx: ∀w,fU [[(24592,bw w)],[]] (1,24592):=fun w=>⟨w,by simp,by simp⟩;obtain⟨r0,ai,s,wd,hRB,eR⟩:=Gr (c:=18) (hBx w) (sd:=2) (N:=4) (by omega) (by omega) (by omega);have hset: ∀w x,aj.set [[(24592,bw w)],[]] (1,24592) (bw x)=[[(24592,bw x)],[]]:=fun w x=>(by simp);rw [hset]at eR;change aL KC (aE KC) 11 [.ay (1,24592) 0, .pure (.int .i64 2), .pure (.int .i64 4)] 18 _=_ at eR;have hck:cv (fQ r0 ai s)=0:=Dw hRB (by omega);obtain⟨gs,e1,hT,hP,hs1,hacc⟩:=Iy hRB;have hok:(dI (fQ r0 ai s)).2.2.2=0:=(by rw [hacc]);have htm: ∀a∈(fQ r0 ai s).ai,a.ba≤100:=fun a ha=>by
  obtain⟨t,hM,ht⟩:=hRB.made;have:=hM.lt a ha;omega
 obtain⟨m,hm⟩: ∃m,fQ r0 ai s=m:=⟨_,rfl⟩;have lnb:m.ah.length≤3∧m.aa.length≤4∧m.aX.length≤3∧m.ai.length≤14∧m.seen=[]∧m.ah≠[]∧1≤m.wide∧m.wide≤3∧1≤m.deep∧m.deep≤3:=by
  rw [←hm];refine⟨hRB.room.p3, ?_,hRB.room.ll,hRB.len,hRB.room.seen,hRB.room.p0,hRB.room.w1,hRB.room.w3,hRB.room.d1,hRB.room.d3⟩;show (kF _ _ _).length≤4;rw [mH];exact hRB.room.t4
 rw [hm]at eR hck hok htm;obtain⟨l1,l2,l3,l4,l5,l6,l7,l8,l9,l10⟩:=lnb;have mS:gL m:=⟨by omega,by omega,by rw [l5];simp,by omega,by omega⟩;have hwd:1≤m.wide*m.deep∧m.wide*m.deep≤9:=by
  constructor
  ·have:=Int.mul_le_mul l7 l9 (by omega) (by omega);omega
  ·have:=Int.mul_le_mul l8 l10 (by omega) (by omega);omega
 obtain⟨n,hn⟩: ∃n:Nat,m.wide*m.deep=n:=⟨(m.wide*m.deep).toNat,by omega⟩;obtain⟨sn,wd2,s1,s2,s3,eW⟩:=Ct (c:=19) (hBx wd) mS (n:=n) (by rw [hn];exact dp (by omega) (by omega)) (by omega);rw [hset]at eW;have ck:cv ({m with seen:=sn}:aA)=0:=AG hck s2 (fun x hx=>by rw [hn];exact s3 x hx);have ok:(dI ({m with seen:=sn}:aA)).2.2.2=0:=(by rw [E1];exact hok);obtain⟨wt,hwt⟩: ∃wt:aA,({m with seen:=sn}:aA)=wt:=⟨_,rfl⟩;have wS:gL wt:=by rw [←hwt];exact⟨mS.p,mS.t,by show sn.length≤_;omega,mS.l,mS.a⟩
 have wA:wt.ai.length≤14:=(by rw [←hwt];exact l4);have wT: ∀a∈wt.ai,a.ba≤100:=(by rw [←hwt];exact htm);rw [hwt]at eW ck ok;have hRE:oc wt=0:=(by rw [oA,if_pos ck];exact ok);have F1:=fun(c:Nat) (H:aj) (hH:0<H.length)=>gX KC (f:=36) (c:=c) (H:=H) (rec:=aE KC) (args:=[.pure (.agg wt.row)]) rfl rfl rfl rfl hH (fun H hH=>HJ (c:=c) (H:=H) wS (fun _=>by omega) hH) (Cn wt)
 cases hf:nT wt wt.ai.length 0 with
 |none=>
  have hF:tv wt= .tuple [.int .i64 (-1), .int .i64 0, .int .i64 0]:=by
   unfold tv;rw [hRE,if_neg (by simp),hf]
  rw [hF]at F1;have L:=fun Q hQ=>DP (wd:=wd2) wS ck hRE (by omega) wT (DQ hf) Q wt.ai.length 0 (by omega) hQ;simp only [aU]at L;simp only [eE]at eR eW F1;simp [eB,eR,eW,F1];refine L _ ?_;simp [Aj,ae]
 |some p=>
  obtain⟨i,x⟩:=p;obtain⟨k,rfl,hk,hx,hg⟩:=DR hf;have hF:tv wt= .tuple [.int .i64 k, .int .i64 x, .int .i64 0]:=by
   unfold tv;rw [hRE,if_neg (by simp),hf]
  rw [hF]at F1;have hx2:=(lK ck).1.ls x hx;unfold lJ at hg;rw [Bool.or_eq_false_iff]at hg;have hcl:=uz hRE hk hx2 (of_decide_eq_false hg.1);have hmo:jC wt k x=none:=(by simpa using hg.2);have hM:xr wt k x= .tuple [.slice [], .int .i64 7]:=by
   unfold xr;rw [hcl,if_neg (by simp),Int.toNat_natCast,hmo]
  have M:=fun(c:Nat) (H:aj) (hH:0<H.length)=>(j3 (f:=34) (c:=c) (H:=H) rfl rfl rfl [.agg wt.row, .int .i64 k, .int .i64 x]).trans (AA (c:=c) (H:=H) wS (fun _=>by omega) k x hH);rw [hM]at M;have HS:=fun(c:Nat) (H:aj) (hH:0<H.length)=>yQ (c:=c) (H:=H) wt.aX x wS.l hH;have hxc:wt.aX.contains x=true:=(by simpa using hx);rw [hxc]at HS;have hk': ¬wt.ai.length≤k:=(by omega);have hk'': ¬(wt.ai.length:Int)≤(k:Int):=(by omega);simp only [List.map_cons,List.map_nil]at M;simp only [eE]at eR eW F1 M;simp [eB,eR,eW,F1,M,HS,hk',hk'',Aj,ae]
end
section
open Go.ChangeShapes Go.WideShapes Go.RowKit Go.ChangeAt
def Aa (P:Program):Nat→TypeId→List PV→Prop
 |0,_,_=>False
 |n+1,t,ps=>
  match P.underlying t with
  |some .bool=> ∃b,ps=[.bool b]
  |some (.int k)=> ∃m,(Lit.int k m).wf=true∧ps=[.int k m]
  |some .string=> ∃l:List UInt8,l.length≤maxLen∧ps=[.str l]
  |some (.slice e)=> ∃rows,rows.length≤maxLen∧(∀r∈rows,r.length=P.cellsOf e∧Aa P n e r)∧ps=[.slice rows]
  |some (.struct fs)=>ps.length=P.cellsOf t∧ ∀f∈fs.toList,Aa P n f.type ((ps.drop f.offset).take (P.cellsOf f.type))
  |some (.array m e)=>ps.length=P.cellsOf t∧ ∀i,i<m→Aa P n e ((ps.drop (i*P.cellsOf e)).take (P.cellsOf e))
  |_=>False
def e9 (P:Program)(tot:Nat):Nat→List (Nat×TypeId)→Bool
 |o,[]=>o==tot
 |o,(off,t)::r=>off==o && e9 P tot (o+P.cellsOf t) r
def jX (P:Program):Nat→TypeId→Bool
 |0,_=>false
 |n+1,t=>
  match P.underlying t with
  |some .bool|some (.int _)|some .string=>true
  |some (.slice e)=>decide (0<P.cellsOf e) && jX P n e
  |some (.struct fs)=>e9 P (P.cellsOf t) 0 (fs.toList.map fun f=>(f.offset,f.type)) && fs.toList.all fun f=>jX P n f.type
  |some (.array m e)=>e9 P (P.cellsOf t) 0 ((List.range m).map fun i=>(i*P.cellsOf e,e)) && jX P n e
  |_=>false
def S0 (w:World):Nat→Prop:=fun b=>b<w.heap.size
def wB (w:World)(cs:List Value)(ps:List PV):Prop:=ps.length=cs.length∧ ∀j,j<cs.length→(cs.getD j undef).oneCell'=true∧cb w (S0 w) (cs.getD j undef) (ps.getD j .dead)
theorem wB.append {w:World}{a b:List Value}{p q:List PV}(h:wB w a p)(k:wB w b q):wB w (a++b) (p++q):=by
 obtain⟨h1,h2⟩:=h;obtain⟨k1,k2⟩:=k;refine⟨by simp [h1,k1],fun j hj=> ?_⟩;by_cases hja:j<a.length
 ·have e1:(a++b).getD j undef=a.getD j undef:=(by simp [List.getD_eq_getElem?_getD,List.getElem?_append_left hja]);have e2:(p++q).getD j .dead=p.getD j .dead:=by simp [List.getD_eq_getElem?_getD,List.getElem?_append_left (show j<p.length by omega)]
  rw [e1,e2];exact h2 j hja
 ·have e1:(a++b).getD j undef=b.getD (j-a.length) undef:=by simp [List.getD_eq_getElem?_getD,List.getElem?_append_right (show a.length≤j by omega)]
  have e2:(p++q).getD j .dead=q.getD (j-a.length) .dead:=by rw [List.getD_eq_getElem?_getD,List.getElem?_append_right (show p.length≤j by omega),h1,List.getD_eq_getElem?_getD]
  rw [e1,e2];exact k2 _ (by simp at hj;omega)
theorem pL {w : World} {v : Value} {p : PV} (h1 : v.oneCell' = true) (h : cb w (S0 w) v p) : wB w [v] [p] :=
  ⟨rfl, fun j hj => by have : j = 0 := by simpa using hj
                       subst this; exact ⟨h1, h⟩⟩
section
variable {P:Program} {w:World}
theorem qS (n : Nat) {cs : List Value} : ∀ (l : List (Nat × TypeId)) (o : Nat), e9 P cs.length o l = true →
    (∀ x ∈ l, ∃ ps, wB w ((cs.drop x.1).take (P.cellsOf x.2)) ps ∧ Aa P n x.2 ps) →
    o ≤ cs.length ∧ ∃ ps, wB w (cs.drop o) ps ∧ ∀ x ∈ l, o ≤ x.1 ∧ Aa P n x.2 ((ps.drop (x.1 - o)).take (P.cellsOf x.2))
  | [], o, hc, h => by
    simp only [e9, beq_iff_eq] at hc
    subst hc
    exact ⟨Nat.le_refl _, [], by simp [wB], by simp⟩
  | (off, t) :: r, o, hc, h => by
    simp only [e9, Bool.and_eq_true, beq_iff_eq] at hc
    obtain ⟨rfl, hc⟩ := hc
    obtain ⟨hle, ps, h1, h2⟩ := qS n r _ hc (fun x hx => h x (List.mem_cons_of_mem _ hx))
    obtain ⟨p, q1, q2⟩ := h (off, t) (List.mem_cons_self ..)
    simp only at q1 q2
    have hpl : p.length = P.cellsOf t := by rw [q1.1, List.length_take, List.length_drop]; omega
    refine ⟨by omega, p ++ ps, ?_, fun x hx => ?_⟩
    · have := q1.append h1
      rw [← List.drop_drop, List.take_append_drop] at this
      exact this
    · rcases List.mem_cons.1 hx with rfl | hx
      · refine ⟨Nat.le_refl _, ?_⟩
        simp only [Nat.sub_self, List.drop_zero]
        rw [← hpl, List.take_left]
        exact q2
      · obtain ⟨g1, g2⟩ := h2 x hx
        refine ⟨by omega, ?_⟩
        have e : (p ++ ps).drop (x.1 - off) = ps.drop (x.1 - (off + P.cellsOf t)) := by
          rw [List.drop_append, List.drop_of_length_le (by omega), List.nil_append, hpl, Nat.sub_sub]
        rw [e]; exact g2
theorem DS {H:Type}{enc:TypeId×Value→H}: ∀(n:Nat) (t:TypeId) (fuel:Nat) (cs:List Value) (x:DataW H×List MemPlace),jX P n t=true→
    DataW.trod enc P w 0 (fun _=>true) true fuel t cs=some x→ ∃ps,wB w cs ps∧Aa P n t ps:=by
  intro n
  induction n with
  |zero=>intro t fuel cs x h;simp [jX]at h
  |succ n ih=>
    intro t fuel cs x h hx;unfold jX at h;unfold Aa;split at h
    · rename_i ht
      obtain⟨b,rfl,_⟩:=DataW.trod_bool ht hx;exact⟨[.bool b],pL rfl (.bool b),b,rfl⟩
    · rename_i k ht
      obtain⟨m,rfl,_,hw⟩:=DataW.trod_int ht hx;exact⟨[.int k m],pL rfl (.int k m),m,hw,rfl⟩
    · rename_i ht
      obtain⟨s,rfl,_,hs⟩:=DataW.trod_string ht hx;exact⟨[.str s.data.toList],pL rfl (.str s),_,by simpa using hs,rfl⟩
    · rename_i e ht
      simp only [Bool.and_eq_true,decide_eq_true_eq]at h;obtain⟨he,hp⟩:=h;rcases DataW.trod_slice ht hx with ⟨rfl,_⟩|⟨a,len,cap,elems,rest,m,_,rfl,_,hb,hl,hm,hlen,hel,_,_⟩
      · exact⟨[.slice []],pL rfl (.fB none 0),[],by simp,by simp,rfl⟩
      · by_cases h0:len=0
        · subst h0
          exact⟨[.slice []],pL rfl (.fB _ _),[],by simp,by simp,rfl⟩
        · have each: ∀i,i<len→ ∃c ps,w.cells? 0 (a.add (i*P.cellsOf e)) (P.cellsOf e)=some c∧wB w c ps∧Aa P n e ps:=by
            intro i hi;have h1:=hel i hi;rw [List.getElem?_eq_getElem (show i<elems.length by omega),Option.bind_eq_some_iff]at h1
            obtain⟨c,h1,h2⟩:=h1;obtain⟨ps,h3,h4⟩:=ih e m c _ hp h2;exact⟨c,ps,h1,h3,h4⟩
          have ch: ∃fc:Nat→List Value,∃fp:Nat→List PV,∀i,i<len→w.cells? 0 (a.add (i*P.cellsOf e)) (P.cellsOf e)=some (fc i)∧wB w (fc i) (fp i)∧Aa P n e (fp i):=by
            refine⟨fun i=>if h:i<len then Classical.choose (each i h)else [],fun i=>if h:i<len then Classical.choose (Classical.choose_spec (each i h))else [],fun i hi=> ?_⟩;simp only [hi,↓reduceDIte];exact Classical.choose_spec (Classical.choose_spec (each i hi))
          obtain⟨fc,fp,hf⟩:=ch;have hcell: ∀i j,i<len→j<P.cellsOf e→w.cell? (a.add (i*P.cellsOf e+j))=some ((fc i).getD j undef):=by
            intro i j hi hj;obtain⟨h1,_⟩:=hf i hi;obtain⟨_,g1,g2⟩:=World.cells?_some h1;have:=g2 j hj;rw [List.getElem?_eq_getElem (by omega)]at this;have e1:(a.add (i*P.cellsOf e)).add j=a.add (i*P.cellsOf e+j):=by
              unfold Addr.add;by_cases c1:i*P.cellsOf e=0<;>by_cases c2:j=0<;>simp_all [Nat.add_assoc]
            rw [e1]at this;rw [this,List.getD_eq_getElem?_getD,List.getElem?_eq_getElem (by omega)];rfl
          obtain⟨b,off,spot⟩:=a;have hsp:spot=none:=by
            have:=World.cell?_spot (hcell 0 0 (by omega) he);simpa [Addr.add]using this
          subst hsp;have hcell': ∀i j,i<len→j<P.cellsOf e→w.cell? ⟨b,off+(i*P.cellsOf e+j),none⟩=some ((fc i).getD j undef):=by
            intro i j hi hj;have:=hcell i j hi hj;unfold Addr.add at this;split at this
            · rename_i c;rw [c,Nat.add_zero];exact this
            · exact this
          have hfl: ∀i,i<len→(fp i).length=P.cellsOf e∧(fc i).length=P.cellsOf e:=by
            intro i hi;obtain⟨h1,h2,_⟩:=hf i hi;obtain⟨_,g1,_⟩:=World.cells?_some h1;exact⟨h2.1.trans g1,g1⟩
          have hrows:((List.range len).map fp).length=len:=(by simp);refine⟨[.slice ((List.range len).map fp)],pL rfl ?_,_,by rw [hrows];omega,fun r hr=> ?_,rfl⟩
          · have:=cb.slice (w:=w) (S:=S0 w) b off cap (P.cellsOf e) ((List.range len).map fp) (fun i j=>(fc i).getD j undef) (by
                have:=hcell' 0 0 (by omega) he;unfold S0;refine Classical.byContradiction fun hn=> ?_;have hz:w.heap[b]? =none:=Array.getElem?_eq_none (by omega);simp [World.cell?,hz]at this) he
              (fun r hr=>by obtain⟨i,hi,rfl⟩:=List.mem_map.1 hr;exact(hfl i (by simpa using hi)).1)
              (fun i j hi hj=>hcell' i j (by simpa using hi) hj)
              (fun i j hi hj=>by
                have hi':i<len:=(by simpa using hi);exact((hf i hi').2.1.2 j (by rw [(hfl i hi').2];exact hj)).1)
              (fun i j hi hj=>by
                have hi':i<len:=(by simpa using hi);have e1:((List.range len).map fp).getD i []=fp i:=(by simp [List.getD_eq_getElem?_getD,hi']);rw [e1];exact((hf i hi').2.1.2 j (by rw [(hfl i hi').2];exact hj)).2)
              (by rw [hrows];exact hl)
            rw [hrows]at this;exact this
          · obtain⟨i,hi,rfl⟩:=List.mem_map.1 hr
            have hi':i<len:=(by simpa using hi);exact⟨(hfl i hi').1,(hf i hi').2.2⟩
    · rename_i fs ht
      simp only [Bool.and_eq_true,List.all_eq_true]at h;obtain⟨hc,hp⟩:=h;obtain⟨xs,m,_,_,hl,hlen,hfld⟩:=DataW.trod_struct ht hx;rw [←hl]at hc;obtain⟨_,ps,h1,h2⟩:=qS (w:=w) n _ 0 hc (fun y hy=>by
        obtain⟨f,hf,rfl⟩:=List.mem_map.1 hy;obtain⟨i,hi,e⟩:=List.getElem_of_mem hf;have hi':i<fs.size:=(by simpa using hi);have h3:=hfld i f (by rw [Array.getElem?_eq_getElem hi'];rw [←e];simp);rw [List.getElem?_eq_getElem (by omega)]at h3;obtain⟨p,q1,q2⟩:=ih f.type m _ _ (hp f hf) h3;exact⟨p,q1,q2⟩)
      rw [List.drop_zero]at h1;refine⟨ps,h1,by rw [h1.1,hl],fun f hf=> ?_⟩;exact(h2 (f.offset,f.type) (List.mem_map.2 ⟨f,hf,rfl⟩)).2
    · rename_i k e ht
      simp only [Bool.and_eq_true]at h;obtain⟨hc,hp⟩:=h;obtain⟨xs,m,_,_,hl,hlen,hfld⟩:=DataW.trod_array ht hx;rw [←hl]at hc;obtain⟨_,ps,h1,h2⟩:=qS (w:=w) n _ 0 hc (fun y hy=>by
        obtain⟨i,hi,rfl⟩:=List.mem_map.1 hy;have hi':i<k:=(by simpa using hi);have h3:=hfld i hi';rw [List.getElem?_eq_getElem (by omega)]at h3;obtain⟨p,q1,q2⟩:=ih e m _ _ hp h3;exact⟨p,q1,q2⟩)
      rw [List.drop_zero]at h1;refine⟨ps,h1,by rw [h1.1,hl],fun i hi=> ?_⟩;exact(h2 (i*P.cellsOf e,e) (List.mem_map.2 ⟨i,by simpa using hi,rfl⟩)).2
    · cases h
def Gs (P:Program)(n:Nat)(t:TypeId)(p:PV):Prop:=
 match P.underlying t with
 |some (.struct _)|some (.array _ _)=> ∃ps,p= .agg ps∧Aa P n t ps
 |_=>Aa P n t [p]
def yo (P:Program)(n:Nat):List TypeId→List PV→Prop
 | [],[]=>True
 |t::ts,p::ps=>Gs P n t p∧yo P n ts ps
 |_,_=>False
def Nw:Mu:=fun _ _=>none
theorem Nx {n:Nat}{t:TypeId}{ps:List PV}(h:Aa P n t ps)(hs: ∀fs,P.underlying t≠some (.struct fs))(ha: ∀m e,P.underlying t≠some (.array m e)): ∃p,ps=[p]:=by
 cases n with
 |zero=>exact h.elim
 |succ n=>
  unfold Aa at h;split at h
  ·obtain⟨b,rfl⟩:=h;exact⟨_,rfl⟩
  ·obtain⟨m,_,rfl⟩:=h;exact⟨_,rfl⟩
  ·obtain⟨m,_,rfl⟩:=h;exact⟨_,rfl⟩
  ·obtain⟨m,_,_,rfl⟩:=h;exact⟨_,rfl⟩
  ·rename_i ht;exact absurd ht (hs _)
  ·rename_i ht;exact absurd ht (ha _ _)
  ·exact h.elim
theorem Ny {H:Type} {enc:TypeId×Value→H} {n:Nat} {t:TypeId} {v:Value} {d:DataW H} {ps0:List MemPlace} {base:Nat} (hp:jX P n t=true) (hok:Value.okWide P w .any base t v)
  (h:DataW.Trod enc P w 0 (fun _=>true) true t v d ps0): ∃p,aC w (S0 w) Nw 0 v (.pure p)∧Gs P n t p:=by
 obtain⟨fuel,hf⟩:=h;obtain⟨ps,h1,h2⟩:=DS n t fuel _ _ hp hf;have agg: ∀cs,v= .agg cs→ ∃p,aC w (S0 w) Nw 0 v (.pure p)∧ ∃ps,p= .agg ps∧Aa P n t ps:=by
  intro cs e;subst e;simp only [Value.cells]at h1;refine⟨.agg ps, .pure _ _ (.agg cs ps (by simpa using h1.1.symm) (fun j hj=> ?_) (fun j hj=> ?_)),ps,rfl,h2⟩
  ·have:=(h1.2 j (by rw [←h1.1];exact hj)).1;simpa [List.getD_eq_getElem?_getD]using this
  ·have:=(h1.2 j (by rw [←h1.1];exact hj)).2;simpa [List.getD_eq_getElem?_getD]using this
 unfold Gs;split
 ·rename_i fs ht;obtain⟨cs,e,_⟩:=okWide_struct ht hok;exact agg cs e
 ·rename_i m e ht;simp only [Value.okWide,ht]at hok;obtain⟨cs,e,_⟩:=hok;exact agg cs e
 ·rename_i hs ha;obtain⟨p,rfl⟩:=Nx h2 (fun fs e=>hs fs e) (fun m e e'=>ha m e e');have hv:v.cells.toList=[v]:=by
   have hl:=h1.1;cases v<;>first|rfl|skip
   ·exfalso;rename_i cs
    cases n with
    |zero=>exact h2.elim
    |succ n=>
     unfold jX at hp;simp only [Value.okWide]at hok;split at hp<;>rename_i ht<;>first|(simp [Cell.okWide,Cell.ok,ht]at hok;done)|(exact absurd ht (hs _))|(exact absurd ht (ha _ _))|(cases hp;done)|skip
  rw [hv]at h1;exact⟨p, .pure _ _ (h1.2 0 (by simp)).2,h2⟩
end
end
section
open Go.WideShapes
def lX (f:TypeId→Option (List SK)):List TypeId→Option (List SK)
 | []=>some []
 |t::r=>match f t,lX f r with|some a,some b=>some (a++b)|_,_=>none
def gQ (P:Program):Nat→TypeId→Option (List SK)
 |0,_=>none
 |n+1,t=>
  match P.underlying t with
  |some .bool=>if P.cellsOf t=1 then some [.bool]else none
  |some (.int k)=>if P.cellsOf t=1 then some [.int k]else none
  |some .string=>if P.cellsOf t=1 then some [.str]else none
  |some (.struct fs)=>if e9 P (P.cellsOf t) 0 (fs.toList.map fun f=>(f.offset,f.type)) && fs.toList.all (·.name != "_") && !P.stoodInHeld t then lX (gQ P n) (fs.toList.map (·.type))else none
  |some (.array m e)=>if decide (0<m) && e9 P (P.cellsOf t) 0 ((List.range m).map fun i=>(i*P.cellsOf e,e))then lX (gQ P n) ((List.range m).map fun _=>e)else none
  |_=>none
def valOf (P:Program)(t:TypeId)(l:List Value):Value:=
 match P.underlying t with
 |some (.struct _)|some (.array _ _)=> .agg l.toArray
 |_=>l.headD undef
theorem nM: ∀(k1 k2:List SK) (a b:List PV) (q:Bool),cj (k1++k2) a b=some q→
  ∃q1 q2,cj k1 (a.take k1.length) (b.take k1.length)=some q1∧cj k2 (a.drop k1.length) (b.drop k1.length)=some q2∧q=(q1 && q2)
 | [],k2,a,b,q,h=>⟨true,q,rfl,h,by simp⟩
 |s::ks,k2,[],b,q,h=>by cases s<;>cases b<;>simp [cj]at h
 |s::ks,k2,x::a,[],q,h=>by cases s<;>cases x<;>simp [cj]at h
 |s::ks,k2,x::a,y::b,q,h=>by
  have key: ∀q',cj (ks++k2) a b=some q'→ ∃q1 q2,cj ks (a.take ks.length) (b.take ks.length)=some q1∧cj k2 (a.drop ks.length) (b.drop ks.length)=some q2∧q'=(q1 && q2):=
   fun q' h=>nM ks k2 a b q' h
  cases s with
  |int k=>
   cases x<;>cases y<;>simp only [List.cons_append,cj]at h
   all_goals first|(cases h;done)|skip
   split at h
   ·rename_i hk;split at h
    ·rename_i q' hq';obtain⟨q1,q2,e1,e2,rfl⟩:=key q' hq';simp only [Option.some.injEq]at h;exact⟨_,q2,by simp only [List.length_cons,List.take_succ_cons,cj,hk,and_self,if_true,e1];rfl,by simpa using e2,by rw [←h,Bool.and_assoc]⟩
    ·cases h
   ·cases h
  |bool=>
   cases x<;>cases y<;>simp only [List.cons_append,cj]at h
   all_goals first|(cases h;done)|skip
   split at h
   ·rename_i q' hq';obtain⟨q1,q2,e1,e2,rfl⟩:=key q' hq';simp only [Option.some.injEq]at h;exact⟨_,q2,by simp only [List.length_cons,List.take_succ_cons,cj,e1];rfl,by simpa using e2,by rw [←h,Bool.and_assoc]⟩
   ·cases h
  |str=>
   cases x<;>cases y<;>simp only [List.cons_append,cj]at h
   all_goals first|(cases h;done)|skip
   split at h
   ·rename_i q' hq';obtain⟨q1,q2,e1,e2,rfl⟩:=key q' hq';simp only [Option.some.injEq]at h;exact⟨_,q2,by simp only [List.length_cons,List.take_succ_cons,cj,e1];rfl,by simpa using e2,by rw [←h,Bool.and_assoc]⟩
   ·cases h
theorem jQ: ∀(k:List SK) (a b:List PV) (q:Bool),cj k a b=some q→a.length=k.length∧b.length=k.length
 | [],a,b,q,h=>by cases a<;>cases b<;>simp_all [cj]
 |s::ks,[],b,q,h=>by cases s<;>cases b<;>simp [cj]at h
 |s::ks,x::a,[],q,h=>by cases s<;>cases x<;>simp [cj]at h
 |s::ks,x::a,y::b,q,h=>by
  have key: ∀q',cj ks a b=some q'→(x::a).length=(s::ks).length∧(y::b).length=(s::ks).length:=fun q' h=>by
   have:=jQ ks a b q' h;simp [this.1,this.2]
  cases s with
  |int k=>
   cases x<;>cases y<;>simp only [cj]at h
   all_goals first|(cases h;done)|skip
   split at h
   ·split at h
    ·rename_i q' hq';exact key q' hq'
    ·cases h
   ·cases h
  |bool=>
   cases x<;>cases y<;>simp only [cj]at h
   all_goals first|(cases h;done)|skip
   split at h
   ·rename_i q' hq';exact key q' hq'
   ·cases h
  |str=>
   cases x<;>cases y<;>simp only [cj]at h
   all_goals first|(cases h;done)|skip
   split at h
   ·rename_i q' hq';exact key q' hq'
   ·cases h
section
variable {P:Program}
theorem jb {f:TypeId→Option (List SK)}{t:TypeId}{r:List TypeId}{ks:List SK}(h:lX f (t::r)=some ks): ∃a b,f t=some a∧lX f r=some b∧ks=a++b:=by
 simp only [lX]at h;split at h
 ·rename_i a b h1 h2;simp only [Option.some.injEq]at h;exact⟨a,b,h1,h2,h.symm⟩
 ·cases h
theorem qT {n : Nat} (hf : ∀ t ks, gQ P n t = some ks → ks.length = P.cellsOf t) : ∀ (l : List (Nat × TypeId)) (o tot : Nat) (ks : List SK), e9 P tot o l = true → lX (gQ P n) (l.map (·.2)) = some ks → o + ks.length = tot
  | [], o, tot, ks, h, hk => by
    simp only [List.map_nil, lX, Option.some.injEq] at hk
    subst hk
    simpa [e9] using h
  | (off, t) :: r, o, tot, ks, h, hk => by
    simp only [e9, Bool.and_eq_true, beq_iff_eq] at h
    obtain ⟨a, b, h1, h2, rfl⟩ := jb (by simpa using hk)
    have := qT hf r _ _ _ h.2 h2
    rw [List.length_append, hf t a h1]
    omega
theorem mL : ∀ (l : List (Nat × TypeId)) (o tot : Nat), e9 P tot o l = true → o ≤ tot
  | [], o, tot, h => by simp only [e9, beq_iff_eq] at h; omega
  | (off, t) :: r, o, tot, h => by
    simp only [e9, Bool.and_eq_true, beq_iff_eq] at h
    have := mL r _ _ h.2
    omega
theorem jj: ∀(n:Nat) (t:TypeId) (ks:List SK),gQ P n t=some ks→ks.length=P.cellsOf t
 |0,t,ks,h=>by simp [gQ]at h
 |n+1,t,ks,h=>by
  unfold gQ at h;split at h
  ·split at h
   ·rename_i e;simp at h;subst h;simp [e]
   ·cases h
  ·split at h
   ·rename_i e;simp at h;subst h;simp [e]
   ·cases h
  ·split at h
   ·rename_i e;simp at h;subst h;simp [e]
   ·cases h
  ·split at h
   ·rename_i hc;simp only [Bool.and_eq_true]at hc;have:=qT (jj n) _ 0 _ ks hc.1.1 (by rw [List.map_map];exact h);omega
   ·cases h
  ·split at h
   ·rename_i hc;simp only [Bool.and_eq_true]at hc;have:=qT (jj n) _ 0 _ ks hc.2 (by rw [List.map_map];exact h);omega
   ·cases h
  ·cases h
theorem yp {n:Nat}{t:TypeId}{ks:List SK}(h:gQ P n t=some ks): ∃kd,P.underlying t=some kd:=by
 cases n with
 |zero=>simp [gQ]at h
 |succ n=>
  cases hu:P.underlying t with
  |none=>simp [gQ,hu]at h
  |some kd=>exact⟨kd,rfl⟩
theorem iz (w:World){n:Nat}{t:TypeId}{ks:List SK}(h:gQ P n t=some ks)(xs:List Value)(off:Nat)(hlen:off+P.cellsOf t≤xs.length):
  (part t xs.toArray off).run P w= .ok (valOf P t ((xs.drop off).take (P.cellsOf t))) w:=by
 cases n with
 |zero=>simp [gQ]at h
 |succ n=>
  unfold gQ at h;have hone:P.cellsOf t=1→((xs.drop off).take (P.cellsOf t)).headD undef=xs.getD off undef∧off<xs.length:=by
   intro e;rw [e]at hlen⊢;refine⟨?_,by omega⟩;simp [List.headD_eq_head?_getD,List.head?_take,List.head?_drop,List.getD_eq_getElem?_getD]
  have hagg: ∀kd,P.underlying t=some kd→(∃fs,kd= .struct fs)∨(∃m e,kd= .array m e)→(part t xs.toArray off).run P w= .ok (.agg ((xs.drop off).take (P.cellsOf t)).toArray) w:=by
   intro kd hu hk;obtain⟨i,hi⟩:=info_of_underlying hu;have e:xs.toArray.extract off (off+P.cellsOf t)=((xs.drop off).take (P.cellsOf t)).toArray:=by
    apply Array.toList_inj.1;simp [Array.toList_extract,List.extract]
   rcases hk with ⟨fs,rfl⟩|⟨m,e',rfl⟩<;>simp [part,isAgg,run_underlying hu,run_sizeOf w hi,e]
  unfold valOf;split at h
  ·rename_i ht;split at h
   ·rename_i e;rw [(hone e).1];have:=(hone e).2;simp [part,isAgg,run_underlying ht,this,List.getD_eq_getElem?_getD,ht]
   ·cases h
  ·rename_i ht;split at h
   ·rename_i e;rw [(hone e).1];have:=(hone e).2;simp [part,isAgg,run_underlying ht,this,List.getD_eq_getElem?_getD,ht]
   ·cases h
  ·rename_i ht;split at h
   ·rename_i e;rw [(hone e).1];have:=(hone e).2;simp [part,isAgg,run_underlying ht,this,List.getD_eq_getElem?_getD,ht]
   ·cases h
  ·rename_i fs ht;simp only [ht];exact hagg _ ht (.inl ⟨_,rfl⟩)
  ·rename_i m e ht;simp only [ht];exact hagg _ ht (.inr ⟨_,_,rfl⟩)
  ·cases h
def IJ (P:Program)(n d:Nat)(t:TypeId):Prop:= ∀ks,gQ P n t=some ks→ ∀(a b:List PV) (q:Bool),cj ks a b=some q→
 ∀w,(Op.equalIn d t (valOf P t (a.map cB)) (valOf P t (b.map cB))).run P w= .ok q w
def acj (P:Program)(n d:Nat)(t:TypeId):Prop:= ∀ks,gQ P n t=some ks→ ∀(a:List PV),a.length=ks.length→ ∀e w,(Instr.checkKey e d t (valOf P t (a.map cB))).run P w= .ok () w
theorem lY {n d:Nat}(ih: ∀t,IJ P n d t): ∀(fs:List Field) (o:Nat) (ks:List SK) (a b:List PV) (q:Bool),e9 P a.length o (fs.map fun f=>(f.offset,f.type))=true→(fs.all (·.name != "_"))=true→
  lX (gQ P n) (fs.map (·.type))=some ks→a.length=b.length→cj ks (a.drop o) (b.drop o)=some q→ ∀w,(Op.eqFields d (a.map cB).toArray (b.map cB).toArray fs).run P w= .ok q w
 | [],o,ks,a,b,q,hc,hn,hk,hl,he,w=>by
  simp only [List.map_nil,lX,Option.some.injEq]at hk;subst hk;have hl1:=jQ _ _ _ _ he;have e1:a.drop o=[]:=List.length_eq_zero_iff.1 hl1.1;have e2:b.drop o=[]:=List.length_eq_zero_iff.1 hl1.2;rw [e1,e2]at he;simp only [cj,Option.some.injEq]at he;subst he;simp [Op.eqFields]
 |f::fs,o,ks,a,b,q,hc,hn,hk,hl,he,w=>by
  simp only [List.map_cons,e9,Bool.and_eq_true,beq_iff_eq]at hc;obtain⟨rfl,hc⟩:=hc;simp only [List.all_cons,Bool.and_eq_true,bne_iff_ne,ne_eq]at hn;obtain⟨k1,k2,h1,h2,rfl⟩:=jb (by simpa using hk);obtain⟨q1,q2,g1,g2,rfl⟩:=nM k1 k2 _ _ q he;have hk1:=jj n _ _ h1;have hle:=mL _ _ _ hc;have hkl:=jQ _ _ _ _ he;simp only [List.length_drop,List.length_append]at hkl;rw [List.drop_drop,List.drop_drop]at g2;rw [hk1]at g1 g2;have p1:=iz w h1 (a.map cB) f.offset (by simp;omega);have p2:=iz w h1 (b.map cB) f.offset (by simp;omega);rw [←List.map_drop,←List.map_take]at p1 p2;have p3:=ih f.type k1 h1 _ _ q1 g1 w;have rest:=lY ih fs _ k2 a b q2 hc (by simpa using hn.2) h2 hl g2 w;simp only [Op.eqFields,hn.1,ne_eq,not_false_eq_true,if_true,Sem.run_bind,p1,p2,p3,Result.andThen_ok];cases q1
  ·simp
  ·simpa using rest
theorem mM {n d:Nat}{e:TypeId}(ih: ∀t,IJ P n d t): ∀(is:List Nat) (o:Nat) (ks:List SK) (a b:List PV) (q:Bool),e9 P a.length o (is.map fun i=>(i*P.cellsOf e,e))=true→
  lX (gQ P n) (is.map fun _=>e)=some ks→a.length=b.length→cj ks (a.drop o) (b.drop o)=some q→ ∀w,(Op.eqItems d e (P.cellsOf e) (a.map cB).toArray (b.map cB).toArray is).run P w= .ok q w
 | [],o,ks,a,b,q,hc,hk,hl,he,w=>by
  simp only [List.map_nil,lX,Option.some.injEq]at hk;subst hk;have hl1:=jQ _ _ _ _ he;have e1:a.drop o=[]:=List.length_eq_zero_iff.1 hl1.1;have e2:b.drop o=[]:=List.length_eq_zero_iff.1 hl1.2;rw [e1,e2]at he;simp only [cj,Option.some.injEq]at he;subst he;simp [Op.eqItems]
 |i::is,o,ks,a,b,q,hc,hk,hl,he,w=>by
  simp only [List.map_cons,e9,Bool.and_eq_true,beq_iff_eq]at hc;obtain⟨rfl,hc⟩:=hc;obtain⟨k1,k2,h1,h2,rfl⟩:=jb (by simpa using hk);obtain⟨q1,q2,g1,g2,rfl⟩:=nM k1 k2 _ _ q he;have hk1:=jj n _ _ h1;have hle:=mL _ _ _ hc;have hkl:=jQ _ _ _ _ he;simp only [List.length_drop,List.length_append]at hkl;rw [List.drop_drop,List.drop_drop]at g2;rw [hk1]at g1 g2;have p1:=iz w h1 (a.map cB) (i*P.cellsOf e) (by simp;omega);have p2:=iz w h1 (b.map cB) (i*P.cellsOf e) (by simp;omega);rw [←List.map_drop,←List.map_take]at p1 p2;have p3:=ih e k1 h1 _ _ q1 g1 w;have rest:=mM ih is _ k2 a b q2 hc h2 hl g2 w;simp only [Op.eqItems,Sem.run_bind,p1,p2,p3,Result.andThen_ok];cases q1
  ·simp
  ·simpa using rest
theorem yq (d:Nat): ∀(n:Nat) (t:TypeId),IJ P n (d+n) t
 |0,t=>fun ks h=>by simp [gQ]at h
 |n+1,t=>fun ks h a b q he w=>by
  have ih:=fun t=>yq d n t;have hl:=jj _ _ _ h;have hl2:=jQ _ _ _ _ he;unfold gQ at h;unfold valOf;rw [show d+(n+1)=(d+n)+1 from rfl]
  split at h
  ·rename_i ht;split at h
   ·simp only [Option.some.injEq]at h;subst h
    match a,b,he with
    | [.bool x],[.bool y],he=>
     simp only [cj,Option.some.injEq,Bool.and_true]at he;simp only [List.map_cons,List.map_nil,List.headD_cons,cB,ht];rw [run_equalIn_bool' w _ _ _ _ ht,he]
   ·cases h
  ·rename_i k ht;split at h
   ·simp only [Option.some.injEq]at h;subst h
    match a,b,he with
    | [.int k1 x],[.int k2 y],he=>
     simp only [cj]at he;split at he
     ·rename_i hk;simp only [Option.some.injEq,Bool.and_true]at he;obtain⟨rfl,rfl⟩:=hk;simp only [List.map_cons,List.map_nil,List.headD_cons,cB,ht];rw [run_equalIn_int w _ _ _ _ _ _ ht,‹(x==y)=q›]
     ·cases he
   ·cases h
  ·rename_i ht;split at h
   ·simp only [Option.some.injEq]at h;subst h
    match a,b,he with
    | [.str x],[.str y],he=>
     simp only [cj,Option.some.injEq,Bool.and_true]at he;simp only [List.map_cons,List.map_nil,List.headD_cons,cB,ht];rw [run_equalIn_string w _ _ _ _ ht];simp [ByteArray.toList_eq,he]
   ·cases h
  ·rename_i fs ht;split at h
   ·rename_i hc;simp only [Bool.and_eq_true,Bool.not_eq_true']at hc;have hfo:P.fieldsOf t=fs:=(by simp [Program.fieldsOf,ht]);simp only [ht];rw [run_equalIn_struct w _ _ _ _ (by rw [hfo];exact ht) hc.2,hfo];exact lY ih fs.toList 0 ks a b q (by rw [hl2.1,hl];exact hc.1.1) hc.1.2 h (by omega) (by simpa using he) w
   ·cases h
  ·rename_i m e ht;split at h
   ·rename_i hc;simp only [Bool.and_eq_true,decide_eq_true_eq]at hc;have hinf: ∃i,P.info? e=some i:=by
     obtain⟨m,rfl⟩: ∃m',m=m'+1:=⟨m-1,by omega⟩;rw [List.range_succ_eq_map,List.map_cons]at h;obtain⟨k1,_,h1,_⟩:=jb h;obtain⟨kd,hu⟩:=yp h1;exact info_of_underlying hu
    obtain⟨i,hi⟩:=hinf;simp only [ht];rw [run_equalIn_array w _ _ _ ht hi];exact mM ih (List.range m) 0 ks a b q (by rw [hl2.1,hl];exact hc.2) h (by omega) (by simpa using he) w
   ·cases h
  ·cases h
theorem yr (d:Nat): ∀(n:Nat) (t:TypeId),acj P n (d+n) t
 |0,t=>fun ks h=>by simp [gQ]at h
 |n+1,t=>fun ks h a hal e w=>by
  have ih:=fun t=>yr d n t;have hl:=jj _ _ _ h;unfold gQ at h;unfold valOf;rw [show d+(n+1)=(d+n)+1 from rfl,Instr.checkKey]
  split at h
  ·rename_i ht;simp only [ht,Sem.run_bind,run_underlying ht,Result.andThen_ok,Sem.run_pure]
  ·rename_i k ht;simp only [ht,Sem.run_bind,run_underlying ht,Result.andThen_ok,Sem.run_pure]
  ·rename_i ht;simp only [ht,Sem.run_bind,run_underlying ht,Result.andThen_ok,Sem.run_pure]
  ·rename_i fs ht;split at h
   ·rename_i hc;simp only [Bool.and_eq_true,Bool.not_eq_true']at hc;simp only [ht,Sem.run_bind,run_underlying ht,Result.andThen_ok];rw [←Array.forIn_toList]
    have key: ∀(L:List Field) (o:Nat) (ks:List SK),e9 P a.length o (L.map fun f=>(f.offset,f.type))=true→(L.all (·.name != "_"))=true→lX (gQ P n) (L.map (·.type))=some ks→
      (forIn L PUnit.unit (fun f (_:PUnit)=>if f.name≠ "_" then (do
       let p←part f.type (a.map cB).toArray f.offset
       Instr.checkKey e (d+n) f.type p
       pure (ForInStep.yield PUnit.unit))else pure (ForInStep.yield PUnit.unit)):Sem PUnit).run P w= .ok PUnit.unit w:=by
     intro L
     induction L with
     |nil=>intro o ks _ _ _;simp
     |cons f L ihL=>
      intro o ks hc hn hk;simp only [List.map_cons,e9,Bool.and_eq_true,beq_iff_eq]at hc;obtain⟨rfl,hc⟩:=hc;simp only [List.all_cons,Bool.and_eq_true,bne_iff_ne,ne_eq]at hn;obtain⟨k1,k2,h1,h2,rfl⟩:=jb (by simpa using hk);have hk1:=jj n _ _ h1;have hle:=mL _ _ _ hc;have p1:=iz w h1 (a.map cB) f.offset (by simp;omega);rw [←List.map_drop,←List.map_take]at p1;have p2:=ih f.type k1 h1 ((a.drop f.offset).take (P.cellsOf f.type)) (by simp;omega) e w;have:=ihL _ _ hc (by simpa using hn.2) h2;simp only [List.forIn_cons,Sem.run_bind,hn.1,ne_eq,not_false_eq_true,if_true,p1,p2,Result.andThen_ok,Sem.run_pure];exact this
    have:=key fs.toList 0 ks (by rw [hal,hl];exact hc.1.1) hc.1.2 h;rw [this];rfl
   ·cases h
  ·rename_i m el ht;split at h
   ·rename_i hc;simp only [Bool.and_eq_true,decide_eq_true_eq]at hc;have hinf: ∃i,P.info? el=some i:=by
     obtain⟨m,rfl⟩: ∃m',m=m'+1:=⟨m-1,by omega⟩;rw [List.range_succ_eq_map,List.map_cons]at h;obtain⟨k1,_,h1,_⟩:=jb h;obtain⟨kd,hu⟩:=yp h1;exact info_of_underlying hu
    obtain⟨i,hi⟩:=hinf;simp only [ht,Sem.run_bind,run_underlying ht,Result.andThen_ok];simp only [Std.Legacy.Range.forIn_eq_forIn_range',Std.Legacy.Range.size,Nat.sub_zero,Nat.add_one_sub_one,Nat.div_one];rw [←List.range_eq_range']
    have key: ∀(L:List Nat) (o:Nat) (ks:List SK),e9 P a.length o (L.map fun i=>(i*P.cellsOf el,el))=true→lX (gQ P n) (L.map fun _=>el)=some ks→
      (forIn L PUnit.unit (fun i (_:PUnit)=>do
       Instr.checkKey e (d+n) el (←part el (a.map cB).toArray (i*(←sizeOf el)))
       pure (ForInStep.yield PUnit.unit)):Sem PUnit).run P w= .ok PUnit.unit w:=by
     intro L
     induction L with
     |nil=>intro o ks _ _;simp
     |cons j L ihL=>
      intro o ks hc hk;simp only [List.map_cons,e9,Bool.and_eq_true,beq_iff_eq]at hc;obtain⟨rfl,hc⟩:=hc;obtain⟨k1,k2,h1,h2,rfl⟩:=jb (by simpa using hk);have hk1:=jj n _ _ h1;have hle:=mL _ _ _ hc;have p1:=iz w h1 (a.map cB) (j*P.cellsOf el) (by simp;omega);rw [←List.map_drop,←List.map_take]at p1;have p2:=ih el k1 h1 ((a.drop (j*P.cellsOf el)).take (P.cellsOf el)) (by simp;omega) e w;have:=ihL _ _ hc h2;simp only [List.forIn_cons,Sem.run_bind,run_sizeOf w hi,p1,p2,Result.andThen_ok,Sem.run_pure];exact this
    have:=key (List.range m) 0 ks (by rw [hal,hl];exact hc.2) h;rw [this];rfl
   ·cases h
  ·cases h
theorem Nz {t:TypeId}{ks:List SK}(n:Nat)(hn:n≤10000)(hg:P.eqGuardType P.depth t=false)(hk:gQ P n t=some ks)(ha:eI P t=some true):Ul P t ks:=by
 refine⟨hg,fun a b q h w=>⟨?_,fun e=> ?_⟩⟩
 ·have h1:=yq (P:=P) (10000-n) n t ks hk a b q h w;rw [Nat.sub_add_cancel hn]at h1;unfold valOf at h1;unfold eI at ha;split at ha<;>rename_i hu<;>first|(rw [hu]at h1;exact h1)|(cases ha)
 ·have h1:=yr (P:=P) (10000-n) n t ks hk a (jQ _ _ _ _ h).1 e w;rw [Nat.sub_add_cancel hn]at h1;unfold valOf at h1;unfold eI at ha;split at ha<;>rename_i hu<;>first|(rw [hu]at h1;exact h1)|(cases ha)
end
end
section
theorem wC (P:Program)(w:World)(d:Nat){t e:TypeId}{b:Option Addr}{len cap:Nat}(hu:P.underlying t=some (.slice e)):(Op.equalIn (d+1) t (.slice b len cap) (.slice none 0 0)).run P w= .ok b.isNone w:=by
 cases b<;>simp [Op.equalIn,aI w hu]
theorem IK (P:Program)(w:World){t e:TypeId}{b:Option Addr}{len cap:Nat}(hu:P.underlying t=some (.slice e)):(binOp .eql t (.slice b len cap) (.slice none 0 0)).run P w= .ok (.bool b.isNone) w:=by
 have:=wC P w 9999 (b:=b) (len:=len) (cap:=cap) hu;simp only [binOp];simp only [Op.equal,Op.maxDepth,Sem.run_bind,this,Result.andThen_ok,Sem.run_pure]
section
variable {w:World}
theorem IL (K:Ctx) (hK:iK K) {n id:Nat} {f:FuncId} {g:Func} {A X D:Code} {t0 t1 t2:TypeId} {p3 p4:String} {a3 a4:Array Edge} {t t' e:TypeId} {st1 stX stD:bO}
  (hf:K.P.funcs[f]? =some g)
  (hb:g.body=some (.seq A (.seq (.seq (.region id #[⟨some 3, .move (.tmp 0),t0,p3,a3,none⟩,⟨some 4, .binOp .eql t (.tmp 3) (.const (.slice none 0 0)) t',t1,p4,a4,none⟩] false) (.cond (.tmp 4) X .skip)) D)))
  (hname:(g.name== "runtime.NumGoroutine")=false) (hnt:g.ntmps=8) (ht:K.P.underlying t=some (.slice e))
  (hA:df K n f A ⟨[(0, .pure (.slice []))],[[],[]],8⟩=some (.normal,st1)) (h0:look st1.s 0= .pure (.slice []))
  (hX:df K n f X ⟨(4, .pure (.bool true))::(3, .pure (.slice []))::st1.s,st1.h,8⟩=some (.ret,stX)) (hD:df K n f D ⟨(4, .pure (.bool false))::(3, .pure (.slice []))::st1.s,st1.h,8⟩=some (.ret,stD))
  (rX:fh K g stX=some [.aW]) (rD:fh K g stD=some [.aW]):zS K.P f:=by
 intro w av cap;have hS:a9 w (fun b=>b<w.heap.size) (fun _ _=>none) ([[],[]]:aj):=⟨fun nm x hx t b hb=>by simp at hb,fun nm t b hb=>by simp at hb,fun nm nm' t t' b h1 h2=>by simp at h1,fun nm t b hb=>by simp at hb,fun b hb=>hb⟩;have hst:kD w.heap.size none w (fun b=>b<w.heap.size) (fun _ _=>none) ⟨[(0, .pure (.slice []))],[[],[]],8⟩ {tmps:= #[.slice av 0 cap]++Array.replicate 7 undef,defers:=[]}:=by
  refine⟨hS,fun q=> ?_,by simp,by simp,Nat.le_refl _,⟨fun d hd=>by simp at hd, .nil⟩,fun l hl=>by cases hl⟩;rw [x7];simp only [look];split
  ·rename_i e;subst e;exact .pure _ _ (.fB _ _)
  ·exact dQ _
 refine⟨by simp only [callFunc,Sem.run_bind,run_program,Result.andThen,hf,hname,hb];rfl, ?_⟩
 have fin: ∀(st:bO),fh K g st=some [.aW]→ ∀(e':Exit) (a':Act) (w':World),lD w.heap.size none ⟨[(0, .pure (.slice []))],[[],[]],8⟩ w (fun b=>b<w.heap.size) (fun _ _=>none) .ret st e' a' w'→
   e'= .ret∧LeavesInM (Fw none) 0 K.P g a'.tmps (fun e w'=>(∃a',e= .returned (.slice a' 0 0))∧w'.os=w.os∧w'.tape=w.tape∧w'.output=w.output∧w.heap.size≤w'.heap.size∧ ∀b,b<w.heap.size→w'.heap[b]? =w.heap[b]?) a'.defers .returning w':=by
  intro st hres e' a' w' hq;obtain⟨q1,q2,q3,S',μ',q4,q5⟩:=hq;refine⟨q1,v8 (s:=st.s) (k:=st.h.length-1) a'.defers w' q4.defs q4.heap q5 (Nat.le_refl _) q4.eA fun w2 h2 e2 s2=> ?_⟩;obtain⟨u,u1,u2⟩:=tQ K h2 s2 hres;refine⟨u,u1, ?_,e2.os,e2.tape,e2.out,e2.size,fun b hb=>e2.same b hb (.inl hb)⟩;have u3:aC w2 S' μ' (st.h.length-1) u .aW:=u2
  cases u3 with
  |aW a=>exact⟨a,rfl⟩
 have hn8:g.ntmps-(#[Value.slice av 0 cap]:Array Value).size=7:=(by rw [hnt];rfl);refine callsIn_of_wp_marks hf hb trivial ?_;rw [hn8];refine wpIn_seq (wpIn_mono (kh K hK n f A _ _ _ hA _ none w _ _ _ hst) fun e' a1 w1 hq1=> ?_);obtain⟨q1,q2,q3,S1,μ1,q4,q5⟩:=hq1;simp only [eP]at q1;subst q1;simp only [Exit.then];have hv:=q4.eA 0;rw [h0]at hv;obtain⟨base,cap1,hbase,_⟩:=hv.pv.kK;have hlen:st1.h.length=2:=q2;refine wpIn_seq (wpIn_seq (wpIn_region ?_));have hsz:a1.tmps.size=8:=q4.nt.trans q3;have hr:List.range (#[(⟨some 3, .move (.tmp 0),t0,p3,a3,none⟩:Oper),⟨some 4, .binOp .eql t (.tmp 3) (.const (.slice none 0 0)) t',t1,p4,a4,none⟩]:Array Oper).size=[0,1]:=rfl;rw [hr];simp only [wpOpsIn];simp only [List.getElem?_toArray,List.getElem?_cons_zero,List.getElem?_cons_succ,Region.wanted,if_true];refine uJ K hK (kh K hK n) q4.heap q4.pos q4.eA (v:= .pure (.slice [])) (H':=st1.h) (fn:=f) (o:=⟨some 3, .move (.tmp 0),t0,p3,a3,none⟩) (s:=st1.s) (by simp [cF,gP,ez,ev,h0]) fun u3 w2 S2 μ2 hv3 hh3 he3 hl3=> ?_;obtain⟨base3,cap3,hu3,_⟩:=hv3.pv.kK;have hu3:u3= .slice base3 0 cap3:=hu3;subst hu3;have hs1: ∀q,aC w2 S2 μ2 (st1.h.length-1) (a1.tmps.getD q undef) (look st1.s q):=o0 q4.eA q4.heap he3 (Nat.le_refl _) (Nat.le_refl _);obtain⟨z1,z2,z3,z4,z5⟩:=pI (st:=⟨st1.s,st1.h,8⟩) (st':=⟨(3, .pure (.slice []))::st1.s,st1.h,8⟩) hs1 hsz hv3 rfl rfl (dst:=some 3) (by simp [bO.put]);refine⟨fun _ _=>trivial, ?_⟩;rw [Oper.semAt_eq _ _ _ (fun c e=>by cases e)];have he0:(a1.put (some 3) (.slice base3 0 cap3)).eval (.tmp 3)= .slice base3 0 cap3:=by
  show (a1.put (some 3) (.slice base3 0 cap3)).tmps.getD 3 undef=_
  rw [j8 _ _ _ _ (by omega)];simp
 have hrun:(execOp (a1.put (some 3) (.slice base3 0 cap3)).eval ⟨some 4, .binOp .eql t (.tmp 3) (.const (.slice none 0 0)) t',t1,p4,a4,none⟩).run K.P w2= .ok (.value (.bool base3.isNone)) w2:=by
  have hc:(a1.put (some 3) (.slice base3 0 cap3)).eval (.const (.slice none 0 0))= .slice none 0 0:=rfl;have hg:(eqGuard .eql t (.tmp 3) (.const (.slice none 0 0)) (.slice base3 0 cap3) (.slice none 0 0)).run K.P w2= .ok () w2:=(by simp [eqGuard]);simp only [execOp,he0,hc,Sem.run_bind,hg,Result.andThen_ok,IK K.P w2 ht,Sem.run_pure]
 rw [hrun,Oper.uponIn_value];simp only;have hb4:aC w2 S2 μ2 (st1.h.length-1) (.bool base3.isNone) (.pure (.bool base3.isNone)):= .pure _ _ (.bool _);obtain⟨y1,y2,y3,y4,y5⟩:=pI (st:=⟨(3, .pure (.slice []))::st1.s,st1.h,8⟩) (st':=⟨(4, .pure (.bool base3.isNone))::(3, .pure (.slice []))::st1.s,st1.h,8⟩) z1 (z2.trans rfl) hb4 rfl rfl (dst:=some 4) (by simp [bO.put])
 have hst2:kD w.heap.size none w2 S2 μ2 ⟨(4, .pure (.bool base3.isNone))::(3, .pure (.slice []))::st1.s,st1.h,8⟩ ((a1.put (some 3) (.slice base3 0 cap3)).put (some 4) (.bool base3.isNone)):=
  ⟨hh3,y1,y2.trans rfl,q4.pos,Nat.le_trans q4.low he3.size,by rw [y5,z5];exact q4.defs.ev he3,fun l hl=>by cases hl⟩
 have hc4:((a1.put (some 3) (.slice base3 0 cap3)).put (some 4) (.bool base3.isNone)).eval (.tmp 4)= .bool base3.isNone:=by
  show ((a1.put (some 3) (.slice base3 0 cap3)).put (some 4) (.bool base3.isNone)).tmps.getD 4 undef=_
  rw [j8 _ _ _ _ (by rw [z2];simp)];simp
 have hE:=q5.trans (he3.level (by simp [hlen]));simp only [Exit.then];refine wpIn_cond hc4 ?_
 have out: ∀(st:bO) (e':Exit) (a':Act) (w':World),lD w.heap.size none ⟨(4, .pure (.bool base3.isNone))::(3, .pure (.slice []))::st1.s,st1.h,8⟩ w2 S2 μ2 .ret st e' a' w'→
   lD w.heap.size none ⟨[(0, .pure (.slice []))],[[],[]],8⟩ w (fun b=>b<w.heap.size) (fun _ _=>none) .ret st e' a' w':=fun st e' a' w' hq=>by
  obtain⟨k1,k2,k3,S',μ',k4,k5⟩:=hq;exact⟨k1,k2.trans hlen,k3,S',μ',k4,hE.trans (k5.level (by simp [hlen]))⟩
 cases hbn:base3.isNone with
 |true=>
  simp only [if_true];rw [hbn]at hst2 out;refine wpIn_mono (kh K hK n f X _ _ _ hX _ none w2 _ _ _ hst2) fun e' a' w' hq=> ?_;obtain⟨k1,k2⟩:=fin stX rX e' a' w' (out _ _ _ _ hq);subst k1;exact k2
 |false=>
  simp only [Bool.false_eq_true,if_false];rw [hbn]at hst2 out;refine wpIn_skip ?_;simp only [Exit.then];refine wpIn_mono (kh K hK n f D _ _ _ hD _ none w2 _ _ _ hst2) fun e' a' w' hq=> ?_;obtain⟨k1,k2⟩:=fin stD rD e' a' w' (out _ _ _ _ hq);subst k1;exact k2
def uL:Option (List GV)→Bool
 |some [.aW]=>true
 |_=>false
def isE:GV→Bool
 | .pure (.slice [])=>true
 |_=>false
def IM (K:Ctx)(n:Nat)(f:FuncId)(g:Func)(A X D:Code)(t:TypeId):Bool:=
 match df K n f A ⟨[(0, .pure (.slice []))],[[],[]],8⟩with
 |some (.normal,st1)=>
  isE (look st1.s 0) && (dz K.P t).isSome &&
  (match df K n f X ⟨(4, .pure (.bool true))::(3, .pure (.slice []))::st1.s,st1.h,8⟩with|some (.ret,st)=>uL (fh K g st)|_=>false) &&
  (match df K n f D ⟨(4, .pure (.bool false))::(3, .pure (.slice []))::st1.s,st1.h,8⟩with|some (.ret,st)=>uL (fh K g st)|_=>false)
 |_=>false
theorem wD {x:Option (List GV)}(h:uL x=true):x=some [.aW]:=by
 unfold uL at h;split at h
 ·rfl
 ·cases h
theorem kQ (K:Ctx) (hK:iK K) {n id:Nat} {f:FuncId} {g:Func} {A X D:Code} {t0 t1:TypeId} {p3 p4:String} {a3 a4:Array Edge} {t t':TypeId}
  (hf:K.P.funcs[f]? =some g)
  (hb:g.body=some (.seq A (.seq (.seq (.region id #[⟨some 3, .move (.tmp 0),t0,p3,a3,none⟩,⟨some 4, .binOp .eql t (.tmp 3) (.const (.slice none 0 0)) t',t1,p4,a4,none⟩] false) (.cond (.tmp 4) X .skip)) D)))
  (hname:(g.name== "runtime.NumGoroutine")=false) (hnt:g.ntmps=8) (h:IM K n f g A X D t=true):zS K.P f:=by
 unfold IM at h;split at h
 ·rename_i st1 hA;simp only [Bool.and_eq_true]at h;obtain⟨⟨⟨h0,ht⟩,hX⟩,hD⟩:=h;obtain⟨e,he⟩:=Option.isSome_iff_exists.1 ht;have h0':look st1.s 0= .pure (.slice []):=by
   unfold isE at h0;split at h0
   ·assumption
   ·cases h0
  split at hX
  ·rename_i stX eX;split at hD
   ·rename_i stD eD;exact IL K hK (t2:=0) hf hb hname hnt (dg he) hA h0' eX eD (wD hX) (wD hD)
   ·cases hD
  ·cases hX
 ·cases h
end
end
section
open Go.ChangeShapes Go.WideShapes Go.RowKit Go.ChangeAt
section
variable {P:Program} {H:Type} {enc:TypeId×Value→H}
theorem qc (hl:laidOutB P=true){W W':World}(hb:Below W.heap.size W W'): ∀(ts:List TypeId) (vs:List Value) (ds:List (DataW H)) (ps:List MemPlace),(∀t∈ts,P.readableRec t=true∧t<P.types.size)→
  DataW.TrodAll enc P W 0 (fun _=>true) true ts vs ds ps→DataW.TrodAll enc P W' 0 (fun b=>decide (b<W.heap.size)) true ts vs ds ps
 | [],vs,ds,ps,_,h=>by
  obtain⟨rfl,rfl,rfl⟩:=trodAll_nil h;exact trodAll_mk0
 |t::ts,vs,ds,ps,ht,h=>by
  obtain⟨v,vs',d,ds',p,q,rfl,rfl,rfl,h1,h2⟩:=trodAll_cons h;obtain⟨a1,a2⟩:=ht t (List.mem_cons_self ..);have hlt: ∀x∈p,x.block<W.heap.size:=(by obtain⟨m,hm⟩:=h1;exact DataW.trod_lt m _ _ _ hm);exact trodAll_cons_mk (Below.trod hl a1 a2 h1 hb hlt) (qc hl hb ts vs' ds' q (fun t ht'=>ht t (List.mem_cons_of_mem _ ht')) h2)
theorem BS {w:World}{base:Nat}{n:Nat}: ∀(ts:List TypeId) (vs:List Value) (ds:List (DataW H)) (ps:List MemPlace),(∀t∈ts,jX P n t=true)→
  (∀(j:Nat) t v,ts[j]? =some t→vs[j]? =some v→Value.okWide P w .any base t v)→
  DataW.TrodAll enc P w 0 (fun _=>true) true ts vs ds ps→ds.length=ts.length∧ ∃pvs,yo P n ts pvs∧pvs.length=vs.length∧ ∀j,j<vs.length→aC w (S0 w) Nw 0 (vs.getD j undef) (.pure (pvs.getD j .dead))
 | [],vs,ds,ps,_,_,h=>by
  obtain⟨rfl,rfl,rfl⟩:=trodAll_nil h;exact⟨rfl,[],trivial,rfl,by simp⟩
 |t::ts,vs,ds,ps,ht,hok,h=>by
  obtain⟨v,vs',d,ds',p,q,rfl,rfl,rfl,h1,h2⟩:=trodAll_cons h;obtain⟨hl,pvs,a1,a2,a3⟩:=BS ts vs' ds' q (fun t ht'=>ht t (List.mem_cons_of_mem _ ht')) (fun j t v h1 h2=>hok (j+1) t v (by simpa using h1) (by simpa using h2)) h2;obtain⟨pv,b1,b2⟩:=Ny (ht t (List.mem_cons_self ..)) (hok 0 t v rfl rfl) h1;refine⟨by simp [hl],pv::pvs,⟨b2,a1⟩,by simp [a2],fun j hj=> ?_⟩
  cases j with
  |zero=>exact b1
  |succ j=>exact a3 j (by simpa using hj)
end
theorem ZU (w:World):a9 w (S0 w) Nw [[]]:=
 ⟨fun nm x hx=>by simp [aj.get,Fr.get]at hx,fun nm t b h=>by simp [Nw]at h,fun nm nm' t t' b h=>by simp [Nw]at h,fun nm t b h=>by simp [Nw]at h,fun b h=>h⟩
theorem BT {w w':World}{S':Nat→Prop}{μ':Mu}{l:Nat}(h:Ev l w (S0 w) Nw w' S' μ'):Below w.heap.size w w':=
 ⟨h.os,h.tape,h.out,h.size,fun k hk=>h.same k hk (.inl hk)⟩
theorem Gt {K:Ctx} (hK:iK K) {f:FuncId} {pvs:List PV} {H':aj} (h:aL K (aE K) f (pvs.map .pure) 0 [[]]=some (.pure (.bool true),H')) {w:World} {vs:Array Value}
  (hl:pvs.length=vs.size) (hrel: ∀j,j<vs.size→aC w (S0 w) Nw 0 (vs.getD j undef) (.pure (pvs.getD j .dead))):
  Calls K.P f vs w fun e w'=>e= .returned (.bool true)∧Below w.heap.size w w':=by
 obtain⟨_,h2⟩:=zK K hK (BU K hK) h (ZU w) (vs:=vs) (by simp [hl]) (fun j hj=>by
  have hj':j<pvs.length:=(by simpa using hj);have e:(pvs.map GV.pure).getD j aN= .pure (pvs.getD j .dead):=(by simp [List.getD_eq_getElem?_getD,hj']);rw [e];exact hrel j (by omega))
 refine(callsIn_wide (n:=0).1 h2).mono fun e w' hd=> ?_;obtain⟨u,S',μ',rfl,hv,_,hev,_⟩:=hd
 cases hv with
 |pure _ _ hp=>
  cases hp;exact⟨rfl,BT hev⟩
theorem DT {H:Type} {enc:TypeId×Value→H} {C:Checked} {os:Os} {f:FuncId} {fn:Func} {s:ChangeSpec} {conds:List PathCond} {K:Ctx} (hK:iK K) (hP:K.P=C.prog) (n:Nat)
  (own:ownKnob C.prog.godebug=none) (started:os.Started) (noInit:C.prog.inits.idxOf? f=none) (hlaid:laidOutB C.prog=true) (hfn:C.prog.funcs[f]? =some fn)
  (hv:s.vars=[]) (hs: ∀ds:List (DataW H),ds.length=fn.params.toList.length→s.fn H ds={results:=[.lit (.bool true)],args:=ds})
  {tb:TypeId} (hr:fn.resultTypes= #[tb]) (htb:C.prog.underlying tb=some .bool)
  (hpl:(fn.params.toList.all fun t=>jX C.prog n t && C.prog.readableRec t && decide (t<C.prog.types.size))=true)
  (witness: ∃(w:World) (tape:Tape) (i:Input),w.os=os∧(w.forCall tape i).Shaped C.prog∧i.vars=[]∧Input.okWide C.prog (w.forCall tape i) .any w.heap.size f i∧
   s.pre6 enc C.prog fn conds false (w.forCall tape i).memory i.args∧({}:Assume).holds C.prog (lone (Frame.enter C.prog f i.args .normal) [] (w.forCall tape i)))
  (hlaw: ∀pvs:List PV,yo C.prog n fn.params.toList pvs→ ∃H',aL K (aE K) f (pvs.map .pure) 0 [[]]=some (.pure (.bool true),H')):
  ReturnsInHanded {} C os f .any (s.pre6 enc C.prog fn conds false) (s.post enc C.prog fn false true false false):=by
 refine returnsInHanded_of_change own started noInit hfn witness ?_;intro W base args ds gs before hval hW hcnd _;have hW':=hW;obtain⟨p,q,hA,hV,rfl,hfz,hnd⟩:=hW;simp only [List.all_eq_true,Bool.and_eq_true,decide_eq_true_eq]at hpl;rw [hv]at hV;obtain⟨rfl,rfl⟩:=trodVars_none hV;obtain⟨hdl,pvs,a1,a2,a3⟩:=BS fn.params.toList args.toList ds p (fun t ht=>(hpl t ht).1.1) (fun j t v h1 h2=>hval j t v (by simpa using h1) (by simpa using h2)) hA;obtain⟨H',hg⟩:=hlaw pvs a1;have hc:=Gt hK hg (w:=W) (vs:=args) (by simpa using a2) (fun j hj=>by
  have:=a3 j (by simpa using hj);simpa [List.getD_eq_getElem?_getD]using this)
 rw [hP]at hc;refine hc.mono fun e W' ⟨he,bel⟩=> ?_;subst he;have hfn':s.fn H (ds++[])={results:=[.lit (.bool true)],args:=ds}:=(by rw [List.append_nil];exact hs ds hdl);refine⟨_,rfl,ds,[],p++[],[],p,[],hW', ?_, ?_, ?_,bel.frame _,fun h=>by cases h⟩
 ·rw [hfn',hr];exact trodAll_mk1 (shut_bool htb _)
 ·rw [hfn'];exact qc hlaid bel _ _ _ _ (fun t ht=>⟨(hpl t ht).1.2,(hpl t ht).2⟩) hA
 ·rw [hfn',hv];rfl
end
theorem Qp (cl:List Nat)(t:Nat)(ks:List SK)(h:(J6 cl).eqs t=some ks):Ul Tryz.prog t ks:=by
 have h':xh t=some ks:=h;unfold xh at h';split at h';all_goals first|(cases h';exact Nz (P:=Tryz.prog) 5 (by omega) (by kernel_rfl) (by kernel_rfl) (by kernel_rfl))|cases h'
theorem tf:iK (J6 []) where
 wP:=fun f h=>by
  have:([]:List Nat).contains f=true:=h;simp at this
 eqs:=Qp []
 mixed:=by kernel_rfl
theorem ZV:iK KC where
 wP:=fun f h=>by
  have h1:J5.contains f=true:=h;simp only [J5,List.contains_cons,List.contains_nil,Bool.or_false,Bool.or_eq_true,beq_iff_eq]at h1;rcases h1 with rfl|rfl|rfl|rfl|rfl|rfl
  ·exact kQ (J6 []) tf (n:=20) (g:=Tryz.f99) Tryz.func99 rfl rfl rfl (by kernel_rfl)
  ·exact kQ (J6 []) tf (n:=20) (g:=Tryz.f100) Tryz.func100 rfl rfl rfl (by kernel_rfl)
  ·exact kQ (J6 []) tf (n:=20) (g:=Tryz.f101) Tryz.func101 rfl rfl rfl (by kernel_rfl)
  ·exact kQ (J6 []) tf (n:=20) (g:=Tryz.f102) Tryz.func102 rfl rfl rfl (by kernel_rfl)
  ·exact kQ (J6 []) tf (n:=20) (g:=Tryz.f103) Tryz.func103 rfl rfl rfl (by kernel_rfl)
  ·exact kQ (J6 []) tf (n:=20) (g:=Tryz.f75) Tryz.func75 rfl rfl rfl (by kernel_rfl)
 eqs:=Qp J5
 mixed:=by kernel_rfl
end Go.Gh
