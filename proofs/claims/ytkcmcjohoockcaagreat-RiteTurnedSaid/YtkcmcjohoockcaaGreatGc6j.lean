/- Texts joined: the evaluator over ghost values, its soundness, the walks. Spaces struck and names made short by a program, for the size. -/
import Derived.Test.YtkcmcjohoockcaaGreatGc6i
import Derived.Test.YtkcmcjohoockcaaGreatGc6h
namespace Go.Gh
open Go.Proofs
set_option linter.unusedVariables false
set_option linter.unusedSimpArgs false
set_option linter.unnecessarySimpa false
set_option maxRecDepth 100000
set_option maxHeartbeats 8000000
section
variable {c:Nat} {H:ai}
theorem uC {nm:Nm}: ∀(fs:List Fr) (G:ai),nm.1<G.length→ai.get (fs++G) nm=ai.get G nm
 | [],G,_=>rfl
 |f::fs,G,h=>by
  have ne: ¬nm.1=(fs++G).length:=(by simp;omega);rw [List.cons_append,ai.fb,if_neg ne];exact uC fs G h
theorem yK {nm:Nm}{b:dB}: ∀(fs:List Fr) (G:ai),nm.1<G.length→ai.set (fs++G) nm b=fs++ai.set G nm b
 | [],G,_=>rfl
 |f::fs,G,h=>by
  have ne: ¬nm.1=(fs++G).length:=(by simp;omega);rw [List.cons_append,ai.jB,if_neg ne,List.cons_append];rw [yK fs G h]
theorem sB (r:aC)(G:ai)(hG:0<G.length):R7 r (.pure (.fn 59)) (fun _=>G) G.length where
 len:=fun _=>rfl
 pos:=hG
 can:=rfl
 EM:=fun _=>rfl
 cl:=fun fs l n _=>by simp
 VU:=fun fs l s' c hf _ _ _=>by
  rw [uZ];refine aM (ba KC aw Tryz.func59 rfl rfl R8 rfl rfl rfl (by simp) (by simp;omega) ?_);unfold aP;simp;rw [ah (by simp)];simp
def kv (r:aC)(L:Nat)(l:List ay):Fr:=fD 8 3 (l.map ay.row) [(1,aX r),(5, .box [dh (L,8) 3 (l.map ay.row)])]
theorem HE (r:aC)(H:ai):R7 r (.func 62 [] [.aA (H.length,5) 0]) (fun l=>kv r H.length l::H) (H.length+1) where
 len:=fun _=>by simp
 pos:=by omega
 can:=rfl
 EM:=fun _=>rfl
 cl:=fun fs l n hn=>by
  have:H.length≤n:=(by omega);simp [this]
 VU:=fun fs l s' c hf hl hS hF=>by
  rw [nj];refine aM (ba KC aw Tryz.func62 rfl rfl R9 rfl rfl rfl (by simp) (by simp;omega) ?_);obtain⟨G,hG⟩: ∃G,fs++kv r H.length l::H=G:=⟨_,rfl⟩;have hGl:H.length<G.length:=(by rw [←hG];simp;omega);have g5:ai.get G (H.length,5)=some (.box [dh (H.length,8) 3 (l.map ay.row)]):=by
   rw [←hG,uC _ _ (by simp)];simp [kv]
  have g8:l.map ay.row≠[]→ai.get G (H.length,8)=some (.arr 3 (l.map ay.row) 0 false):=fun h=>by
   rw [←hG,uC _ _ (by simp)];simp only [ai.fb,if_true,kv];exact dH h
  have g80:l.map ay.row=[]→ai.get G (H.length,8)=none:=fun h=>by
   rw [←hG,uC _ _ (by simp)];simp only [ai.fb,if_true,kv,h,gP];simp
  have hset:ai.set (ai.set G (H.length,8) (.arr 3 ((l++[s']).map ay.row) 0 false)) (H.length,5) (.box [dh (H.length,8) 3 ((l++[s']).map ay.row)])=fs++kv r H.length (l++[s'])::H:=by
   rw [←hG,yK _ _ (by simp),yK _ _ (by simp [ai.length_set])];congr 1;have hne:(l++[s']).map ay.row≠[]:=(by simp);simp only [ai.jB,if_true,kv];congr 1;rw [qZ];unfold fD;rw [if_neg hne];simp
  have k1:ak 5 28679=117469190:=(by decide);have k2:ak 5 28683=117485574:=(by decide);have k3:ak 5 28687=117501958:=(by decide);have ne: ¬H.length=G.length:=(by omega);have b1:(l.length+1)*72≤1099511627776:=(by omega);have AP:=fun(F:Fr)=>rb (H':=F::G) (l:=H.length) (key:=8) (es:=3) (bytes:=72) (rows:=l.map ay.row) (r:=s'.row) (fun h=>by simp [ne,g80 h]) (fun h=>by simp [ne,g8 h]) (by simp;omega) (by simpa using b1);have t1:List.take s'.ae.length (s'.ae.map aD)=s'.ae.map aD:=List.take_of_length_le (by simp);have t2:List.take s'.ao.length (s'.ao.map aI.row)=s'.ao.map aI.row:=List.take_of_length_le (by simp);have t3:List.take s'.aa.length (s'.aa.map br.row)=s'.aa.map br.row:=List.take_of_length_le (by simp);have g5': ∀b,(ai.set G (H.length,8) b).get (H.length,5)=some (.box [dh (H.length,8) 3 (l.map ay.row)]):=fun b=>(ai.aG b (fun e=>by have:=(Prod.mk.inj e).2;omega)).trans g5;have hGl':(ai.set G (H.length,8) (.arr 3 (l.map ay.row++[s'.row]) 0 false)).length=G.length:=ai.length_set _ _ _;have rs:s'.row=[PV.slice (s'.ae.map aD),PV.slice (s'.ao.map aI.row),PV.slice (s'.aa.map br.row)]:=rfl;rw [←hset];by_cases ht0:s'.aa=[]
  ·have C:=u4 (c:=5) (H:=[(2,bL r s')]::G) r hF ht0 (by simp) (by simp [k1]) (by simp [k2]);simp only [List.length_cons,Nat.add_sub_cancel,k1,k2]at C;simp only [bL,aP,Sa]at C⊢;simp [ne,ht0]at AP C;simp [ay.row,ht0]at AP;simp [hG,ne,g5,ht0,C,t1,t2,AP,g5',aH];rw [ah (by simp)];simp [rs,ht0]
  ·have C:=xv (c:=5) (H:=[(2,bL r s')]::G) r hF ht0 (by simp) (by simp [k1]) (by simp [k2]) (by simp [k3]);simp only [List.length_cons,Nat.add_sub_cancel,k1,k2,k3]at C;simp only [bL,aP,tw,cu]at C⊢;simp [ne]at AP C;simp [ay.row]at AP;simp [hG,ne,g5,C,t1,t2,t3,AP,g5',aH];rw [ah (by simp)];simp [rs]
end
section
variable {c:Nat} {H:ai}
structure O4 (r:aC):Prop where
 w:WB r
 snd:fB r (aL r)
 p0:r.ae≠[]
 al:r.aj.length≤1000000
 ab: ∀a∈r.aj,AB r a.aR.toNat a
 sh:gA r
structure Cd (r:aC):Prop extends O4 r where
 ck:cn r=0
theorem KM {r:aC}(h:Cd r)(hH:0<H.length):
  bJ KC (aF KC) 15 [.pure (.agg r.row)] c H=
   some (.pure (.tuple (if (di r).2.2.2=0 then [.agg (di r).2.1.row, .int .i64 (-1), .int .i64 0]else [.agg [.slice [], .slice [], .slice []], .int .i64 (di r).2.2.1, .int .i64 (di r).2.2.2])),H):=by
 refine aM (aK KC aw Tryz.func15 rfl rfl HF (by simp) hH ?_);have C:=fun c (H:ai) (hH:0<H.length)=>re (c:=c) (H:=H) r h.sh.s h.sh.l h.sh.p h.sh.t h.sh.a hH;rw [h.ck]at C;have A:=fun(F:Fr)=>rf (c:=15) h.w h.snd h.p0 h.al h.ab (sB r (F::H) (by simp));have A2: ∀F:Fr,aN KC (aF KC) 58 [.pure (.agg r.row), .pure (.fn 59)] 15 (F::H)=some (.pure (.tuple [.agg (aP r (di r).2.1), .int .i64 (di r).2.2.1, .int .i64 (di r).2.2.2]),F::H):=fun F=>by
  rw [jC rfl rfl rfl];have:bz (F::H) [.pure (.agg r.row), .pure (.fn 59)]=([.pure (.agg r.row), .pure (.fn 59)],F::H):=rfl;rw [this];exact A F
 generalize di r=q at A2⊢;obtain⟨l,s,bR,e⟩:=q;simp only [aP]at A2;rw [gK]at C A2⊢;unfold ay.row;by_cases he:e=0
 ·subst he;simp [C,A2,aH];rw [ah (by simp)];simp
 ·have he':(e !=0)=true:=(by simpa using he);simp [C,A2,he,he',aH];rw [ah (by simp)];simp
theorem Ce {r:aC}(h:Cd r)(hH:0<H.length):
  bJ KC (aF KC) 17 [.pure (.agg r.row)] c H=
   some (.pure (.tuple (if (di r).2.2.2=0 then [.slice ((di r).1.map ay.row), .int .i64 0]else [.slice [], .int .i64 (di r).2.2.2])),H):=by
 refine aM (aK KC aw Tryz.func17 rfl rfl HG (by simp) hH ?_);have C:=fun c (H:ai) (hH:0<H.length)=>re (c:=c) (H:=H) r h.sh.s h.sh.l h.sh.p h.sh.t h.sh.a hH;rw [h.ck]at C;have A:=rf (c:=17) h.w h.snd h.p0 h.al h.ab (HE r H);have A2:aN KC (aF KC) 58 [.pure (.agg r.row), .func 62 [] [.aA (H.length,5) 0]] 17 (kv r H.length []::H)=some (.pure (.tuple [.agg (aP r (di r).2.1), .int .i64 (di r).2.2.1, .int .i64 (di r).2.2.2]),kv r H.length (di r).1::H):=by
  rw [jC rfl rfl rfl];have:bz (kv r H.length []::H) [.pure (.agg r.row), .func 62 [] [.aA (H.length,5) 0]]=([.pure (.agg r.row), .func 62 [] [.aA (H.length,5) 0]],kv r H.length []::H):=rfl;rw [this];exact A
 have hne:(di r).1≠[]:=(by unfold di;simp);generalize di r=q at A2 hne⊢;obtain⟨l,s,bR,e⟩:=q;simp only at hne;have hl:l.map ay.row≠[]:=(by simpa using hne);obtain⟨F,hF⟩: ∃F,kv r H.length l=F:=⟨_,rfl⟩;have f6:F.get 6=none:=(by rw [←hF];unfold kv;rw [bO (by decide)];simp);have f5:F.get 5=some (.box [.bd (H.length,8) 3 l.length 0 l.length]):=(by rw [←hF];unfold kv;rw [bO (by decide),dh,if_neg hl];simp);have f8:F.get 8=some (.arr 3 (l.map ay.row) 0 false):=(by rw [←hF];unfold kv;rw [dH hl]);simp only [aP]at A2;rw [hF]at A2;simp only [kv,List.map_nil,gQ,gP,aX]at A2;rw [gK]at C A2⊢;have F5: ∀x:dB,(F.ins 6 x).get 5=some (.box [.bd (H.length,8) 3 l.length 0 l.length]):=fun x=>(Fr.ax _ (by decide) _).trans f5;have F8: ∀x:dB,(F.ins 6 x).get 8=some (.arr 3 (l.map ay.row) 0 false):=fun x=>(Fr.ax _ (by decide) _).trans f8;have hnl: ¬H.length≤H.length-1:=(by omega);have tk:List.take l.length (l.map ay.row)=l.map ay.row:=List.take_of_length_le (by simp);by_cases he:e=0
 ·subst he;simp [C,A2,f6,F5,aH,Fr.bc,Fr.cP];rw [ah (by simp)];simp [hnl,F8,tk]
 ·have he':(e !=0)=true:=(by simpa using he);simp [C,A2,f6,F5,he,he',aH,Fr.bc,Fr.cP];rw [ah (by simp)];simp
end
section
variable {c:Nat} {H:ai}
def Al:List PV:=[.int .i64 0, .int .i64 0, .int .i64 0, .int .i64 0, .int .i64 0, .int .i64 0, .int .i64 0, .int .i64 0, .int .i64 0]
theorem ET {nm:Nm}{rows:List (List PV)}{v k N:Nat}(hN:rows.length=N)(hg:H.get nm=some (.arr 9 rows v false))(hv:v≤N)(hk:k<N)(hw: ∀r∈rows,r.length=9)(hn:N≤1000000)(hH:0<H.length):
  aN KC (aF KC) 109 [.bd nm 9 N 0 N, .pure (.int .i64 k), .pure (.int .i64 (k+1))] c H=
   some (.bd nm 9 N 0 (N-1),H.set nm (.arr 9 (rows.take k++rows.drop (k+1)++[Al]) N false)):=by
 have l1:=ai.bQ hg;have d1: ¬nm.1=H.length:=(by omega);have d2:nm.1≤H.length-1:=(by omega);have k1: ¬(k:Int)<0:=(by omega);have k2:(k:Int)<(k:Int)+1:=(by omega);have k3:(k:Int)+1≤N:=(by omega);have k4: ¬(k:Int)+1=0:=(by omega);have k5:((k:Int)==(k:Int)+1)=false:=by
  have: ¬(k:Int)=(k:Int)+1:=(by omega);simpa using this
 have k6: ¬(k:Int)+1<0:=(by omega);have k7:Int.toNat ((k:Int)+1)=k+1:=(by omega);have k8:k≤N:=(by omega);have k9:k+1≤N:=(by omega);have hb:N*72≤1099511627776:=(by omega);refine aM (bh KC aw Tryz.func109 rfl rfl KN rfl rfl rfl (by simp) hH ?_);have hdl:(rows.drop (k+1)).length=N-(k+1):=(by rw [List.length_drop,hN]);have hdw: ∀x∈rows.drop (k+1),x.length=9:=fun x hx=>hw x (List.mem_of_mem_drop hx);have hrl:List.replicate 1 Al=[Al]:=rfl;by_cases hl:N=k+1
 ·subst hl;have z0: ¬k+1≤k:=(by omega);have z1: ¬k+1=k:=(by omega);have z2:Int.toNat ((k:Int)+1)=k+1:=(by omega);have hd:rows.drop (k+1)=[]:=List.drop_of_length_le (by omega);have hd2:rows.drop k≠[]:=by
   intro e;have:=congrArg List.length e;rw [List.length_drop,hN]at this;simp at this
  simp [d1,d2,hg,hv,k1,k2,k3,k4,k5,k6,k7,k8,k9,hN,z0,z1,z2,hd,aH];rw [ah (by simp)];simp [d2,Al]
 ·obtain⟨M,rfl⟩: ∃M,N=k+1+M:=⟨N-(k+1),by omega⟩;have hM:rows.drop (k+1)≠[]:=fun e=>by
   have:=congrArg List.length e;rw [List.length_drop,hN]at this;simp at this;omega
  have M0: ¬M=0:=(by omega);have eM:k+1+M-(k+1)=M:=(by omega);have tkd:List.take M (rows.drop (k+1))=rows.drop (k+1):=List.take_of_length_le (by omega);have nk: ¬k=k+1+M:=(by omega);have nk2: ¬k+M=k+1+M:=(by omega);have le1:k+M≤k+1+M:=(by omega);have le2: ¬k+1+M≤k+M:=(by omega);have le3: ¬k+1+M≤k+1:=(by omega);have e1:k+1+M-(k+M)=1:=(by omega);have z0: ¬(k:Int)+(M:Int)<0:=(by omega);have z1:Int.toNat ((k:Int)+(M:Int))=k+M:=(by omega);have z2:Int.toNat ((k:Int)+1+(M:Int))=k+1+M:=(by omega);have z3: ¬(k:Int)+1+(M:Int)<0:=(by omega);have z4:k+M+1=k+1+M:=(by omega);have z5:k+1+M-1=k+M:=(by omega);have tk2:List.take (k+M) (rows.take k++(rows.drop (k+1)++rows.drop (k+M)))=rows.take k++rows.drop (k+1):=by
   rw [←List.append_assoc];exact List.take_left' (by rw [List.length_append,List.length_take,List.length_drop,hN];omega)
  have dr2:List.drop (k+1+M) (rows.take k++(rows.drop (k+1)++rows.drop (k+M)))=[]:=List.drop_of_length_le (by
   simp only [List.length_append,List.length_take,List.length_drop,hN];omega)
  have ml:min k (k+1+M)+(M+(k+1+M-(k+M)))=k+1+M:=(by omega);have nle: ¬k+1+M≤k:=(by omega);have z6:(k:Int)+1≤(k:Int)+1+(M:Int):=(by omega);have nl2: ¬k+1=k+1+M:=(by omega);have gs: ∀x,(H.set nm x).get nm=some x:=fun x=>ai.dX x l1;have z7:k+1+M=k+(M+1):=(by omega);have hdP:(∀x,x∈rows.drop (k+1)→x.length=9)=True:=eq_true hdw;simp [d1,d2,hg,hv,k1,k2,k3,k4,k5,k6,k7,k8,k9,hN,hl,hdl,eM,hdP,gs,ai.set_set,tkd,nk,nk2,le1,le2,le3,e1,z0,z1,z2,z3,z4,z5,z6,M0,hM,aH,tk2,dr2,nle,nl2,ml];rw [if_pos z7,fP,ah (by simp)];simp [d2,Al]
end
section
variable {c:Nat} {H:ai}
def Cf (a b:Int):Int:=if a<b then-1 else if b<a then 1 else 0
theorem Sb {x:Int}(hH:0<H.length):aN KC (aF KC) 129 [.pure (.int .i64 x)] c H=some (.pure (.bool false),H):=by
 refine aM (ba KC aw Tryz.func129 rfl rfl KO rfl rfl rfl (by simp) hH ?_);simp [ah]
theorem Cg {x y:Int}(hH:0<H.length):aN KC (aF KC) 108 [.pure (.int .i64 x), .pure (.int .i64 y)] c H=some (.pure (.int .i64 (Cf x y)),H):=by
 refine aM (ba KC aw Tryz.func108 rfl rfl KP rfl rfl rfl (by simp) hH ?_);have N:=fun c x (H:ai) (hH:0<H.length)=>Sb (c:=c) (x:=x) (H:=H) hH;unfold Cf;by_cases h1:x<y
 ·simp [N,h1,ah]
 ·by_cases h2:y<x
  ·simp [N,h1,h2,ah]
  ·simp [N,h1,h2,ah]
theorem KQ {x y:au}(hH:0<H.length):aN KC (aF KC) 107 [.pure (.agg x.row), .pure (.agg y.row)] c H=some (.pure (.int .i64 (Cf x.bR y.bR)),H):=by
 refine aM (ba KC aw Tryz.func107 rfl rfl KR rfl rfl rfl (by simp) hH ?_);have N:=fun c (H:ai) (hH:0<H.length)=>Cg (c:=c) (x:=x.bR) (y:=y.bR) (H:=H) hH;simp [N,au.row,ah]
def kz (P:List (List PV))(A:List au)(x:au)(B:List au)(Q:List (List PV)):List (List PV):=P++A.map au.row++x.row::(B.map au.row++Q)
theorem ri {P:List (List PV)}{A:List au}{x:au}{B:List au}{Q:List (List PV)}:(kz P A x B Q).length=P.length+A.length+1+B.length+Q.length:=by
 unfold kz;simp;omega
theorem HH {P:List (List PV)}{A:List au}{x:au}{B:List au}{Q:List (List PV)}:(kz P A x B Q)[P.length+A.length]? =some x.row:=by
 unfold kz;rw [List.getElem?_append_right (by simp)];simp
theorem EU {P:List (List PV)}{A:List au}{y x:au}{B:List au}{Q:List (List PV)}:(kz P (A++[y]) x B Q)[P.length+A.length]? =some y.row:=by
 unfold kz;rw [List.getElem?_append_left (by simp),List.getElem?_append_right (by simp)];simp
theorem EV {P:List (List PV)}{A:List au}{y x:au}{B:List au}{Q:List (List PV)}:((kz P (A++[y]) x B Q).set (P.length+A.length+1) y.row).set (P.length+A.length) x.row=kz P A x (y::B) Q:=by
 unfold kz;have e1:P++(A++[y]).map au.row++x.row::(B.map au.row++Q)=(P++A.map au.row)++y.row::x.row::(B.map au.row++Q):=(by simp);have l1:(P++A.map au.row).length=P.length+A.length:=(by simp);rw [e1,←l1];rw [List.set_append_right _ _ (by omega),List.set_append_right _ _ (by omega)];simp
theorem EW {nm:Nm}{P Q:List (List PV)}{N a':Nat}(x:au)(i:Nat)(hn:N≤1000000)(hnm:nm.1<H.length)(b:Int)(Q':GX→bM→Prop): ∀(k:Nat) (A B:List au) (v:Nat),A.length=k→P.length=a'→(kz P A x B Q).length=N→v≤N→(∀y∈B,x.bR<y.bR)→
  (∀v',v'≤N→Q' (.exit 2) ⟨[(0, .bd nm 9 N 0 N),(1, .pure (.int .i64 a')),(2, .pure (.int .i64 b)),(3, .pure (.fn 107)),(8, .pure (.int .i64 i))],[]::[]::H.set nm (.arr 9 (P++(oI (A++B) x).map au.row++Q) v' false),53⟩)→
  gZ KC aw 151 (lp Tryz.f151 1) [0,1,2,3,8,9] [0,1,2,3,8] Q' [(0, .bd nm 9 N 0 N),(1, .pure (.int .i64 a')),(2, .pure (.int .i64 b)),(3, .pure (.fn 107)),(8, .pure (.int .i64 i)),(9, .pure (.int .i64 ((P.length+A.length:Nat):Int)))] ([]::[]::H.set nm (.arr 9 (kz P A x B Q) v false)) 53:=by
 intro k;have l0: ∀x,(H.set nm x).length=H.length:=fun x=>ai.length_set _ _ _;have d1: ¬nm.1=H.length:=(by omega);have d2: ¬nm.1=H.length+1:=(by omega);have d3: ¬nm.1=H.length+1+1:=(by omega);have gs: ∀x,(H.set nm x).get nm=some x:=fun x=>ai.dX x hnm;have C:=fun c (x y:au) (H:ai) (hH:0<H.length)=>KQ (c:=c) (x:=x) (y:=y) (H:=H) hH
 induction k with
 |zero=>
  intro A B v hA hP hl hv hB h1;obtain rfl:A=[]:=List.length_eq_zero_iff.1 hA;have e:oI ([]++B) x=[]++x::B:=u5 hB (fun a h=>by simp at h);have h1':=h1 v hv;rw [e]at h1';apply az;conv=>arg 4;whnf
  have d4:nm.1≤H.length+1:=(by omega);simp [hP,d4];simpa [kz]using h1'
 |succ k ih=>
  intro A B v hA hP hl hv hB h1;obtain⟨A',y,rfl⟩: ∃A' y,A=A'++[y]:=by
   have hne:A≠[]:=fun e=>(by rw [e]at hA;simp at hA);exact⟨A.dropLast,A.getLast hne,(List.dropLast_concat_getLast hne).symm⟩
  have hA':A'.length=k:=(by simpa using hA);have d4:nm.1≤H.length+1:=(by omega);obtain⟨j,hj⟩: ∃j,P.length+A'.length=j:=⟨_,rfl⟩;have hj1:P.length+(A'++[y]).length=j+1:=(by simp;omega);have hjN:j+1<N:=(by rw [←hl,ri];simp;omega);have g1:(kz P (A'++[y]) x B Q)[j+1]? =some x.row:=(by rw [←hj1];exact HH);have g0:(kz P (A'++[y]) x B Q)[j]? =some y.row:=(by rw [←hj];exact EU);have gsw:((kz P (A'++[y]) x B Q).set (j+1) y.row).set j x.row=kz P A' x (y::B) Q:=(by rw [←hj];exact EV);have hl2:(kz P A' x (y::B) Q).length=N:=(by rw [←hl,ri,ri];simp;omega);have gt1:(a':Int)<(j:Int)+1:=(by omega);have w1:=c8 (x:=(j:Int)) (by omega) (by omega);have w2:IntKind.i64.wrap ((j:Int)+1-1)=j:=by rw [show (j:Int)+1-1=j by omega];exact w1
  have jn0: ¬(j:Int)+1<0:=(by omega);have jt:Int.toNat ((j:Int)+1)=j+1:=(by omega);have jl:(j:Int)+1<N:=(by omega);have jl0:(j:Int)<N:=(by omega);have jN0:j<N:=(by omega);have l9: ∀z:au,z.row.length=9:=fun _=>rfl;have t9: ∀z:au,List.take 9 z.row=z.row:=fun _=>rfl;have dr9: ∀z:au,List.drop 9 z.row=[]:=fun _=>rfl;have lp9: ∀z:au,∀H:ai,bN H (z.row.map .pure)=(z.row,H):=fun z H=>rfl;rw [hj1];by_cases hlt:x.bR<y.bR
  ·have ih':=ih A' (y::B) N hA' hP hl2 (Nat.le_refl _) (fun b hb=>by
    rcases List.mem_cons.1 hb with rfl|hb
    ·exact hlt
    ·exact hB b hb) (fun v' hv'=>by
    have:=h1 v' hv';rw [show A'++[y]++B=A'++y::B by simp]at this
    exact this)
   rw [hj]at ih';generalize kz P (A'++[y]) x B Q=R at g1 g0 gsw hl⊢;have G1: ∀h,R[j+1]'h=x.row:=fun h=>(by rw [List.getElem?_eq_getElem h]at g1;simpa using g1);have G0: ∀h,R[j]'h=y.row:=fun h=>(by rw [List.getElem?_eq_getElem h]at g0;simpa using g0);have hc:Cf x.bR y.bR<0:=(by unfold Cf;rw [if_pos hlt];omega);apply az;conv=>arg 4;whnf
   simp [hP,d1,d2,d3,d4,gs,l0,hl,hv,gt1,jn0,jt,jl,jl0,jN0,hjN,w1,w2,G1,G0,l9,t9,C,hc,aH,ai.set_set,lp9,dr9,gsw];exact ih'
  ·have h1':=h1 v hv;rw [u5 hB (fun a ha=>by
    have:a=y:=(by simpa using ha.symm);rw [this];exact hlt)]at h1'
   have hc: ¬Cf x.bR y.bR<0:=by
    unfold Cf;rw [if_neg hlt];split<;>omega
   have e:P++((A'++[y])++x::B).map au.row++Q=kz P (A'++[y]) x B Q:=(by simp [kz]);rw [e]at h1';generalize kz P (A'++[y]) x B Q=R at g1 g0 gsw hl h1'⊢;have G1: ∀h,R[j+1]'h=x.row:=fun h=>(by rw [List.getElem?_eq_getElem h]at g1;simpa using g1);have G0: ∀h,R[j]'h=y.row:=fun h=>(by rw [List.getElem?_eq_getElem h]at g0;simpa using g0);apply az;conv=>arg 4;whnf
   simp [hP,d1,d2,d3,d4,gs,l0,hl,hv,gt1,jn0,jt,jl,jl0,jN0,hjN,w1,w2,G1,G0,l9,t9,C,hc];exact h1'
theorem Ch (l:List au)(x:au):dV (l++[x])=oI (dV l) x:=by
 unfold dV;rw [List.foldl_append];rfl
theorem EX {nm:Nm} {P Q:List (List PV)} {N a':Nat} (X:List au) (hn:N≤1000000) (hnm:nm.1<H.length) (hP:P.length=a') (hl:P.length+X.length+Q.length=N) (Q':GX→bM→Prop)
  (h1: ∀v',v'≤N→Q' (.exit 0) ⟨[],[]::H.set nm (.arr 9 (P++(dV X).map au.row++Q) v' false),53⟩): ∀(k i v:Nat),i+k=X.length→v≤N→
  gZ KC aw 151 (lp Tryz.f151 0) [0,1,2,3,8] [] Q' [(0, .bd nm 9 N 0 N),(1, .pure (.int .i64 a')),(2, .pure (.int .i64 ((a'+X.length:Nat):Int))),(3, .pure (.fn 107)),(8, .pure (.int .i64 ((a'+i:Nat):Int)))] ([]::H.set nm (.arr 9 (P++(dV (X.take i)).map au.row++((X.drop i).map au.row++Q)) v false)) 53:=by
 intro k
 induction k with
 |zero=>
  intro i v hi hv;have hx:X.take i=X:=List.take_of_length_le (by omega);have hd:X.drop i=[]:=List.drop_of_length_le (by omega);have h1':=h1 v hv;have e:i=X.length:=(by omega);rw [hx,hd,e];apply az;conv=>arg 4;whnf
  simp;simpa using h1'
 |succ k ih=>
  intro i v hi hv;have hia:i<X.length:=(by omega);have hlt:((a'+i:Nat):Int)<((a'+X.length:Nat):Int):=(by omega);have bd:X.drop i=X[i]::X.drop (i+1):=List.drop_eq_getElem_cons hia;have htk:X.take (i+1)=X.take i++[X[i]]:=(by rw [List.take_add_one,List.getElem?_eq_getElem hia];rfl);have e:P++(dV (X.take i)).map au.row++((X.drop i).map au.row++Q)=kz P (dV (X.take i)) X[i] [] ((X.drop (i+1)).map au.row++Q):=by
   rw [bd];simp only [kz,List.map_cons,List.map_nil,List.nil_append,List.cons_append,List.append_assoc]
  have hsl:(dV (X.take i)).length=i:=(by rw [kH,List.length_take];omega);have hw:=c8 (x:=((a'+i+1:Nat):Int)) (by omega) (by omega);have ih':=fun v' hv'=>ih (i+1) v' (by omega) hv';have L:=fun Q'=>EW (H:=H) (nm:=nm) (P:=P) (Q:=(X.drop (i+1)).map au.row++Q) (N:=N) (a':=a') X[i] (a'+i) hn hnm ((a'+X.length:Nat):Int) Q' i (dV (X.take i)) [] v hsl hP (by rw [ri,hsl];simp;omega) hv (by simp);rw [e];apply az;conv=>arg 4;whnf
  obtain⟨R,hR⟩: ∃R,kz P (dV (X.take i)) X[i] [] ((X.drop (i+1)).map au.row++Q)=R:=⟨_,rfl⟩;rw [hR]at L⊢;have e2: ∀v',ai.set H nm (.arr 9 (P++(oI (dV (X.take i)++[]) X[i]).map au.row++((X.drop (i+1)).map au.row++Q)) v' false)=H.set nm (.arr 9 (P++(dV (X.take (i+1))).map au.row++((X.drop (i+1)).map au.row++Q)) v' false):=fun v'=>by
   rw [htk,Ch,List.append_nil]
  have d4:nm.1≤H.length:=(by omega);have hsl2:((P.length+(dV (X.take i)).length:Nat):Int)=(a':Int)+i:=(by rw [hP,hsl];simp);simp only [e2,hsl2]at L;obtain⟨T,hT⟩: ∃T:List (List PV),P++(dV (X.take (i+1))).map au.row++((X.drop (i+1)).map au.row++Q)=T:=⟨_,rfl⟩;rw [hT]at L ih';have hw':IntKind.i64.wrap ((a':Int)+i+1)=(a':Int)+i+1:=(by simpa using hw);simp at L;simp [hia];refine L _ fun v' hv'=> ?_;have i1:=ih' v' hv';have ec:((a'+(i+1):Nat):Int)=(a':Int)+i+1:=(by omega);rw [ec]at i1;simp [hw',d4];simpa using i1
end
section
variable {c:Nat} {H:ai}
theorem nq {nm:Nm}{P Q:List (List PV)}{N a' v:Nat}(X:List au)(hn:N≤1000000)(hnm:nm.1<H.length)(hP:P.length=a')(hl:P.length+X.length+Q.length=N)(hv:v≤N):
  ∃v',v'≤N∧aN KC (aF KC) 151 [.bd nm 9 N 0 N, .pure (.int .i64 a'), .pure (.int .i64 ((a'+X.length:Nat):Int)), .pure (.fn 107)] c (H.set nm (.arr 9 (P++X.map au.row++Q) v false))=
   some (.pure (.tuple []),H.set nm (.arr 9 (P++(dV X).map au.row++Q) v' false)):=by
 suffices hs:mE (aN KC (aF KC) 151 [.bd nm 9 N 0 N, .pure (.int .i64 a'), .pure (.int .i64 ((a'+X.length:Nat):Int)), .pure (.fn 107)] c (H.set nm (.arr 9 (P++X.map au.row++Q) v false))) (fun x=> ∃v',v'≤N∧x=(.pure (.tuple []),H.set nm (.arr 9 (P++(dV X).map au.row++Q) v' false)))by
  obtain⟨x,hx,v',h1,h2⟩:=hs;exact⟨v',h1,by rw [hx,h2]⟩
 have hH:0<(H.set nm (.arr 9 (P++X.map au.row++Q) v false)).length:=(by rw [ai.length_set];omega);refine bh KC aw Tryz.func151 rfl rfl KS rfl rfl rfl (by simp) hH ?_;by_cases hX:X=[]
 ·subst hX;have hw:=c8 (x:=(a':Int)+1) (by omega) (by omega);have hlt: ¬(a':Int)+1<a':=(by omega);simp [hw];apply az;conv=>arg 4;whnf
  simp [hlt,ah,ai.length_set];exact⟨v,hv,by simp [dV]⟩
 ·have hx1:1≤X.length:=List.length_pos_iff.2 hX;have hw:=c8 (x:=(a':Int)+1) (by omega) (by omega);obtain⟨m,hm⟩: ∃m,1+m=X.length:=⟨X.length-1,by omega⟩;have e1:P++(dV (X.take 1)).map au.row++((X.drop 1).map au.row++Q)=P++X.map au.row++Q:=by
   cases X with
   |nil=>exact absurd rfl hX
   |cons x X=>simp [dV,oI]
  have L:=fun Q' h1=>EX (H:=H) (nm:=nm) (P:=P) (Q:=Q) (N:=N) (a':=a') X hn hnm hP hl Q' h1 m 1 v hm hv;rw [e1]at L;have ec:((a'+1:Nat):Int)=(a':Int)+1:=(by omega);have ec2:((a'+X.length:Nat):Int)=(a':Int)+X.length:=(by omega);rw [ec,ec2]at L;rw [ec2];simp [hw];simp at L;refine L _ fun v' hv'=> ?_;simp [ah,ai.length_set];exact⟨v',hv',rfl⟩
theorem Ci {nm:Nm}{N v:Nat}(X:List au)(hN:X.length=N)(hn:N≤20)(hnm:nm.1<H.length)(hv:v≤N):
  ∃v',v'≤N∧aN KC (aF KC) 128 [.bd nm 9 N 0 N, .pure (.int .i64 N), .pure (.fn 107)] c (H.set nm (.arr 9 (X.map au.row) v false))=
   some (.pure (.tuple []),H.set nm (.arr 9 ((dV X).map au.row) v' false)):=by
 have hl: ∀b,(H.set nm b).length=H.length:=fun b=>ai.length_set _ _ _;have hH:0<(H.set nm (.arr 9 (X.map au.row) v false)).length:=by rw [hl];omega
 suffices hs:mE (aN KC (aF KC) 128 [.bd nm 9 N 0 N, .pure (.int .i64 N), .pure (.fn 107)] c (H.set nm (.arr 9 (X.map au.row) v false))) (fun x=> ∃v',v'≤N∧x=(.pure (.tuple []),H.set nm (.arr 9 ((dV X).map au.row) v' false)))by
  obtain⟨x,hx,v',h1,h2⟩:=hs;exact⟨v',h1,by rw [hx,h2]⟩
 have d1: ¬nm.1=H.length:=(by omega);have up: ∀f b,ai.set (f::H) nm b=f::H.set nm b:=fun f b=>by
  show (if nm.1=H.length then _ else _)=_
  rw [if_neg d1]
 have hlt: ¬(20:Int)<N:=(by omega);refine bh KC aw Tryz.func128 rfl rfl KT rfl rfl rfl (by simp) hH ?_;have d2: ¬nm.1=H.length+1:=(by omega);have d4:nm.1≤H.length:=(by omega);have d5:nm.1≤H.length+1:=(by omega);by_cases h20:N=20
 ·obtain⟨v1,a1,b1⟩:=nq (c:=18) (H:=[]::[]::H) (nm:=nm) (P:=[]) (Q:=[]) (N:=N) (a':=0) (v:=v) X (by omega) (by simp;omega) rfl (by simpa using hN) hv;obtain⟨v2,a2,b2⟩:=nq (c:=27) (H:=[]::H) (nm:=nm) (P:=(dV X).map au.row) (Q:=[]) (N:=N) (a':=N) (v:=v1) [] (by omega) (by simp;omega) (by rw [List.length_map,kH,hN]) (by rw [List.length_map,kH,hN];simp) a1;subst h20;simp [d1,d2,hN]at b1 b2;have es:dV ([]:List au)=[]:=rfl;rw [es]at b2;simp at b2;have w40:IntKind.i64.wrap 40=40:=(by decide);simp;apply az;conv=>arg 4;whnf
  simp [d1,d2,d4,d5,b1,w40];apply az;conv=>arg 4;whnf
  simp [d1,d2,d4,d5,b2];apply az;conv=>arg 4;whnf
  simp [ah,hl];exact⟨v2,a2,rfl⟩
 ·obtain⟨v2,a2,b2⟩:=nq (c:=27) (H:=[]::H) (nm:=nm) (P:=[]) (Q:=[]) (N:=N) (a':=0) (v:=v) X (by omega) (by simp;omega) rfl (by simpa using hN) hv;have hle: ¬(20:Int)≤N:=(by omega);simp [d1,hN]at b2;simp;apply az;conv=>arg 4;whnf
  simp [hle,b2,d1,d4];apply az;conv=>arg 4;whnf
  simp [hlt,ah,hl];exact⟨v2,a2,rfl⟩
theorem EY {nm:Nm}{N v:Nat}(X:List au)(hN:X.length=N)(hn:N≤20)(hnm:nm.1<H.length)(hv:v≤N):
  ∃v',v'≤N∧aN KC (aF KC) 106 [.bd nm 9 N 0 N, .pure (.fn 107)] c (H.set nm (.arr 9 (X.map au.row) v false))=
   some (.pure (.tuple []),H.set nm (.arr 9 ((dV X).map au.row) v' false)):=by
 have hl: ∀b,(H.set nm b).length=H.length:=fun b=>ai.length_set _ _ _;have hH:0<(H.set nm (.arr 9 (X.map au.row) v false)).length:=(by rw [hl];omega);have d1: ¬nm.1=H.length:=(by omega);have d4:nm.1≤H.length:=(by omega);obtain⟨v2,a2,b2⟩:=Ci (c:=8) (H:=[]::H) (nm:=nm) (v:=v) X hN hn (by simp;omega) hv;refine⟨v2,a2,aM (bh KC aw Tryz.func106 rfl rfl KU rfl rfl rfl (by simp) hH ?_)⟩;simp [d1]at b2;simp [b2,d1,d4,ah,hl]
end
section
variable {c:Nat} {H:ai}
theorem HI (r:aC) {act:Nat} (h:act<r.aj.length) (hp:r.aj.Pairwise fun a b=>a.bR≤b.bR) (hn:r.aj.length≤1000000) (Q:GX→bM→Prop)
  (h1:Q (.exit 0) ⟨[(2, .aA (H.length,2) 0),(4, .aA (H.length,4) 0),(5, .pure (.int .i64 ((oJ r.aj r.aj[act]).length:Nat)))],[(2,aX r),(4,oK)]::H,42⟩): ∀(k n:Nat),n=(oJ r.aj r.aj[act]).length+k→n≤act→
  gZ KC aw 104 (lp Tryz.f104 0) [1,2,4,5] [2,4,5] Q [(1, .pure (.int .i64 act)),(2, .aA (H.length,2) 0),(4, .aA (H.length,4) 0),(5, .pure (.int .i64 n))] ([(2,aX r),(4,oK)]::H) 42:=by
 obtain⟨f1,f2,f3⟩:=u6 h hp;intro k
 induction k with
 |zero=>
  intro n hk hna;rw [Nat.add_zero]at hk;rw [←hk]at h1 f2
  cases n with
  |zero=>
   apply az;conv=>arg 4;whnf
   simp [aX,oK];simpa [aX,oK]using h1
  |succ n=>
   have hlt:n<r.aj.length:=(by omega);have:=f2 n hlt (by omega);have hne:(r.aj[n].bR==r.aj[act].bR)=false:=by
    have: ¬r.aj[n].bR=r.aj[act].bR:=(by omega);simpa using this
   have gt:(0:Int)<(n:Int)+1:=(by omega);have w2:=c8 (x:=(n:Int)) (by omega) (by omega);apply az;conv=>arg 4;whnf
   simp [aX,oK,gt,w2,hlt,h,au.row,hne];simpa [aX,oK]using h1
 |succ k ih=>
  intro n hk hna;obtain⟨n',rfl⟩: ∃n',n=n'+1:=⟨n-1,by omega⟩;have hlt:n'<r.aj.length:=(by omega);have:=f3 n' hlt (by omega) (by omega);have heq:(r.aj[n'].bR==r.aj[act].bR)=true:=(by simpa using this);have gt:(0:Int)<(n':Int)+1:=(by omega);have w2:=c8 (x:=(n':Int)) (by omega) (by omega);have ih':=ih n' (by omega) (by omega);apply az;conv=>arg 4;whnf
  simp [aX,oK,gt,w2,hlt,h,au.row,heq];simpa [aX,oK]using ih'
theorem EZ {r:aC}(hr:Cd r){act:Nat}(h:act<r.aj.length)(hp:r.aj.Pairwise fun a b=>a.bR≤b.bR)(hH:0<H.length):
  aN KC (aF KC) 104 [.pure (.agg r.row), .pure (.int .i64 act)] c H=some (.pure (.agg (aP r (u7 r r.aj[act]))),H):=by
 refine aM (ba KC aw Tryz.func104 rfl rfl KV rfl rfl rfl (by simp) hH ?_);obtain⟨f1,f2,f3⟩:=u6 h hp;have C:=fun c (H:ai) (hH:0<H.length)=>sC (c:=c) (H:=H) r hr.w.pl hr.w.tl hH;have hF:Full (aL r):=⟨by simpa [aL]using hr.p0,by simpa [aL]using hr.p0,by simp [aL];exact hr.w.pl,by simp [aL];exact hr.w.pl,by simp [aL];exact hr.w.tl⟩;obtain⟨m,hm⟩: ∃m,(oJ r.aj r.aj[act]).length=m:=⟨_,rfl⟩;have hbt:oJ r.aj r.aj[act]=r.aj.take m:=(by rw [←hm];exact u9 _ _);have hal:=hr.al;have R:=fun(F:Fr)=>yL (c:=37) hr.w (sB r (F::H) (by simp)) (r.aj.take m) (by rw [List.length_take];omega) (fun a ha=>hr.ab a (List.mem_of_mem_take ha)) hr.snd hF;have hml:(r.aj.take m).length=m:=by rw [List.length_take];omega
 have R2: ∀F:Fr,∃y z,aN KC (aF KC) 93 [.pure (.agg (aP r (aL r))), .pure (.slice (List.take m (r.aj.map au.row))), .pure (.fn 59)] 37 (F::H)=
   some (.pure (.tuple [.agg (aP r (u7 r r.aj[act])), .int .i64 y, .int .i64 z]),F::H):=fun F=>by
  refine⟨(dg r (r.aj.take m).length (aL r) (r.aj.take m) 0).2.2.1,(dg r (r.aj.take m).length (aL r) (r.aj.take m) 0).2.2.2, ?_⟩;rw [jC rfl rfl rfl];have e:=R F;rw [List.map_take]at e;have eb:u7 r r.aj[act]=(dg r (r.aj.take m).length (aL r) (r.aj.take m) 0).2.1:=(by unfold u7;rw [hbt]);rw [eb];exact e
 have L:=fun Q h1=>HI (H:=H) r h hp hr.al Q h1 (act-m) act (by omega) (Nat.le_refl _);rw [gK]at C⊢;rw [hm]at L;simp [aX,oK]at L;simp;refine L _ ?_;obtain⟨y,z,e⟩:=R2 [(2,aX r),(4,oK)];simp only [aP,aX,oK]at C e;have hmn:m≤r.aj.length:=(by omega);have hmi: ¬(m:Int)<0:=(by omega);have hall: ∀x:au,x.row.length=9:=fun _=>rfl;simp [C,e,hmn,hmi,aH,hall];rw [ah (by simp)];simp [aP]
end
section
variable {c:Nat} {H:ai}
theorem HJ (r:aC) (aj:List au) (m:Int) (hn:aj.length≤1000000) (Q:GX→bM→Prop)
  (h1:Q (.exit 0) ⟨[(8, .pure (.int .i64 m)),(9, .pure (.int .i64 (gY m aj).length))],[(4,aX r)]::H,37⟩): ∀(k n:Nat),n+k=(gY m aj).length→
  gZ KC aw 74 (lp Tryz.f74 0) [3,8,9] [8,9] Q [(3, .pure (.slice (aj.map au.row))),(8, .pure (.int .i64 m)),(9, .pure (.int .i64 n))] ([(4,aX r)]::H) 37:=by
 have hle:(gY m aj).length≤aj.length:=(List.takeWhile_sublist _).length_le;intro k
 induction k with
 |zero=>
  intro n hk;have e:n=(gY m aj).length:=(by omega);rw [←e]at h1;by_cases hl:n<aj.length
  ·have hout:=sD (fun a:au=>decide (a.bR≤m)) aj (by rw [show (aj.takeWhile fun a:au=>decide (a.bR≤m)).length=n from e.symm];exact hl)
   have hout': ¬aj[n].bR≤m:=by
    have e2:(aj.takeWhile fun a:au=>decide (a.bR≤m)).length=n:=e.symm;simp only [e2]at hout;simpa using hout
   apply az;conv=>arg 4;whnf
   simp [hl,au.row,hout'];exact h1
  ·apply az;conv=>arg 4;whnf
   simp [hl];exact h1
 |succ k ih=>
  intro n hk;have hl:n<aj.length:=(by omega);have hin:=vc (fun a:au=>decide (a.bR≤m)) aj n hl (by show n<(gY m aj).length;omega)
  have hin':aj[n].bR≤m:=(by simpa using hin);have hw:=c8 (x:=(n:Int)+1) (by omega) (by omega);have ih':=ih (n+1) (by omega);apply az;conv=>arg 4;whnf
  simp [hl,au.row,hin',hw];simpa using ih'
theorem E0 {r:aC}{act:Nat}(h:act<r.aj.length)(hn:r.aj.length≤1000000)(ht:0≤r.aj[act].bR∧r.aj[act].bR≤1000000)(kind:Int)(aj:List au)(hal:aj.length≤1000000)(hH:0<H.length):
  bJ KC (aF KC) 74 [.pure (.agg r.row), .pure (.int .i64 act), .pure (.int .i64 kind), .pure (.slice (aj.map au.row))] c H=
   some (.pure (.tuple [.int .i64 (ou r act kind), .int .i64 (gY (ou r act kind) aj).length]),H):=by
 refine aM (aK KC aw Tryz.func74 rfl rfl Sc (by simp) hH ?_);have hl:=aW (d:=cI) h;have L:=fun m Q h1=>HJ (H:=H) r aj m hal Q h1 (gY m aj).length 0 (by omega);rw [gK];unfold ou;rw [hl];by_cases hk:kind=3
 ·have hw:=c8 (x:=r.aj[act].bR+1) (by omega) (by omega);have L1:=L (r.aj[act].bR+1);subst hk;simp [aX]at L1;simp [h,au.row,hw];refine L1 _ ?_;simp;rw [ah (by simp)];simp
 ·have L1:=L r.aj[act].bR;have hk':(kind==3)=false:=(by simpa using hk);simp [aX]at L1;simp [h,au.row,hk,hk'];refine L1 _ ?_;simp;rw [ah (by simp)];simp
theorem E2 {g:GV}{q:PV}(hg:E3 H g q)(ps:List PV):(bz H (ps.map .pure++[g])).1.map canon=ps.map (fun p=>canon (.pure p))++[.pure q]:=by
 have h1: ∀ps:List PV,bz H (ps.map .pure++[g])=(ps.map .pure++[(dx H g).1],(dx H g).2):=fun ps=>by
  induction ps with
  |nil=>rfl
  |cons p ps ih=>
   rw [List.map_cons,List.cons_append];simp only [bz];have e:dx H (.pure p)=(.pure p,H):=rfl;rw [e];simp only [ih,List.cons_append]
 have h2:canon (dx H g).1= .pure q:=by
  have h3:=(qk hg).1
  cases g with
  |bd nm es top lo len=>
   show canon (dY H (.bd nm es top lo len)).1=_
   have e: ∃p,(dY H (.bd nm es top lo len)).1= .pure p:=⟨_,rfl⟩;obtain⟨p,hp⟩:=e;rw [hp]at h3⊢;have:p=q:=by
    have h4:cg (.pure p)=GV.pure p:=rfl;rw [h4]at h3;cases h3;rfl
   rw [this];obtain⟨rows,v,ro,a1,a2,a3,a4,a5,a6⟩:=hg;rw [a6];rfl
  |pure p=>cases hg;rfl
  |aS=>cases hg;rfl
  |_=>exact hg.elim
 rw [h1];simp [h2,Function.comp_def]
theorem HK {r:aC}{act:Nat}(h:act<r.aj.length)(hn:r.aj.length≤1000000)(ht:0≤r.aj[act].bR∧r.aj[act].bR≤1000000)(kind:Int)(aj:List au)(hal:aj.length≤1000000){g:GV}(hg:E3 H g (.slice (aj.map au.row)))(hH:0<H.length):
  aN KC (aF KC) 74 [.pure (.agg r.row), .pure (.int .i64 act), .pure (.int .i64 kind),g] c H=
   some (.pure (.tuple [.int .i64 (ou r act kind), .int .i64 (gY (ou r act kind) aj).length]),H):=
 fO KC rfl rfl (E2 hg [.agg r.row, .int .i64 act, .int .i64 kind]) rfl hH (fun H hH=>E0 (c:=c) h hn ht kind aj hal hH) rfl
end
section
variable {c:Nat} {H:ai}
def lQ (l:List au)(act:Nat)(aR:Int):List au:=l.take act++(l.drop act).map (late aR)
theorem kI (l:List au)(act:Nat)(aR:Int)(h:act≤l.length):(lQ l act aR).length=l.length:=by
 unfold lQ;simp;omega
def jy (l:List au)(act:Nat)(aR:Int)(i:Nat):List au:=(lQ l act aR).take i++l.drop i
theorem E4 (l:List au)(act:Nat)(aR:Int)(h:act≤l.length)(i:Nat)(hi:i≤l.length):(jy l act aR i).length=l.length:=by
 unfold jy;rw [List.length_append,List.length_take,List.length_drop,kI l act aR h];omega
theorem KW (l:List au)(act:Nat)(aR:Int)(h:act≤l.length):jy l act aR act=l:=by
 unfold jy lQ;rw [List.take_left' (by rw [List.length_take];omega),List.take_append_drop]
theorem KX (l:List au)(act:Nat)(aR:Int)(h:act≤l.length):jy l act aR l.length=lQ l act aR:=by
 unfold jy;rw [List.take_of_length_le (by rw [kI l act aR h];exact Nat.le_refl _),List.drop_length,List.append_nil]
theorem E5 (l:List au)(act:Nat)(aR:Int)(h:act≤l.length){i:Nat}(h1:act≤i)(h2:i<l.length):(lQ l act aR)[i]? =some (late aR l[i]):=by
 unfold lQ;rw [List.getElem?_append_right (by rw [List.length_take];omega),List.length_take,List.getElem?_map,List.getElem?_drop];rw [show act+(i-min act l.length)=i by omega,List.getElem?_eq_getElem h2]
 rfl
theorem E6 (l:List au)(act:Nat)(aR:Int)(h:act≤l.length){i:Nat}(h2:i<l.length):(jy l act aR i)[i]? =some l[i]:=by
 unfold jy;rw [List.getElem?_append_right (by rw [List.length_take,kI l act aR h];omega),List.length_take,kI l act aR h,List.getElem?_drop,show i+(i-min i l.length)=i by omega,List.getElem?_eq_getElem h2]
theorem Cj (l:List au)(act:Nat)(aR:Int)(h:act≤l.length){i:Nat}(h1:act≤i)(h2:i<l.length):(jy l act aR i).set i (late aR l[i])=jy l act aR (i+1):=by
 have hl:=kI l act aR h;have e:l.drop i=l[i]::l.drop (i+1):=List.drop_eq_getElem_cons h2;unfold jy;rw [List.set_append_right _ _ (by rw [List.length_take,hl];omega),List.length_take,hl,show i-min i l.length=0 by omega,e,List.set_cons_zero,List.take_add_one,E5 l act aR h h1 h2]
 simp
theorem HL (r:aC) {act:Nat} (aR:Int) (h:act<r.aj.length) (hn:r.aj.length≤1000000) (tm: ∀a∈r.aj,0≤a.bR∧a.bR≤1000000) (Q:GX→bM→Prop)
  (h1: ∀v,v≤r.aj.length→Q (.exit 1) ⟨[(7, .bd (H.length,28685) 9 r.aj.length 0 r.aj.length)],[(3,aX r),(28685, .arr 9 ((lQ r.aj act aR).map au.row) v false)]::H,72⟩): ∀(k i v:Nat),i+k=r.aj.length→act≤i→v≤r.aj.length→
  gZ KC aw 70 (lp Tryz.f70 0) [7,8,9] [7] Q [(7, .bd (H.length,28685) 9 r.aj.length 0 r.aj.length),(8, .pure (.int .i64 aR)),(9, .pure (.int .i64 i))] ([(3,aX r),(28685, .arr 9 ((jy r.aj act aR i).map au.row) v false)]::H) 72:=by
 intro k
 induction k with
 |zero=>
  intro i v hi ha hv;have e:i=r.aj.length:=(by omega);subst e;rw [KX _ _ _ (by omega)];have h1':=h1 v hv;apply az;conv=>arg 4;whnf
  simp;exact h1'
 |succ k ih=>
  intro i v hi ha hv;have hia:i<r.aj.length:=(by omega);have hw:=c8 (x:=(i:Int)+1) (by omega) (by omega);have hml:=E4 r.aj act aR (by omega) i (by omega);have g:=E6 r.aj act aR (by omega) hia;have gs:=Cj r.aj act aR (by omega) ha hia;have tmi:=tm _ (List.getElem_mem hia);have hwt:=c8 (x:=r.aj[i].bR+1) (by omega) (by omega);have G: ∀h,(jy r.aj act aR i)[i]'h=r.aj[i]:=fun h=>(by rw [List.getElem?_eq_getElem h]at g;simpa using g);by_cases hwho:r.aj[i].aR=aR
  ·have ih':=ih (i+1) r.aj.length (by omega) (by omega) (Nat.le_refl _);rw [←gs]at ih';have el:late aR r.aj[i]={r.aj[i]with bR:=r.aj[i].bR+1}:=(by unfold late;rw [if_pos hwho]);rw [el]at ih';generalize jy r.aj act aR i=R at G hml ih'⊢;have hwb:(r.aj[i].aR==aR)=true:=(by simpa using hwho);apply az;conv=>arg 4;whnf
   simp [hia,hml,hv,G,hw,hwt,hwb,hwho,au.row,aH];simpa [au.row,hwho,List.map_set]using ih'
  ·have ih':=ih (i+1) v (by omega) (by omega) hv;rw [←gs]at ih';have el:late aR r.aj[i]=r.aj[i]:=(by unfold late;rw [if_neg hwho]);rw [el]at ih';have es:(jy r.aj act aR i).set i r.aj[i]=jy r.aj act aR i:=by
    have hil:i<(jy r.aj act aR i).length:=(by omega);conv=>lhs;rw [←G hil]
    exact List.set_getElem_self hil
   rw [es]at ih';generalize jy r.aj act aR i=R at G hml ih'⊢;have hwb:(r.aj[i].aR==aR)=false:=(by simpa using hwho);apply az;conv=>arg 4;whnf
   simp [hia,hml,hv,G,hw,hwb,au.row];simpa using ih'
theorem Ck {a:au}(h:a.kind≠1)(x:Int):kY {a with hand:=x}=kY a:=by
 unfold kY;simp [h]
theorem AB.flip {r:aC}{w:Nat}{a:au}(h:AB r w a)(hk:a.kind≠1):AB r w {a with hand:=1-a.hand} where
 aR:=h.aR
 wl:=h.wl
 hand:=by rcases h.hand with e|e<;>simp [e]
 kind:=h.kind
 take:=h.take
 pR:=h.pR
 step:=h.step
 form:=by rw [Ck hk];exact h.form
theorem HM {r:aC}(hr:Cd r)(a:au):fB r (u7 r a):=
 (iL _ _ _ _ hr.snd (fun x hx=>hr.ab x ((List.takeWhile_sublist _).subset hx))).1
theorem E7 {r:aC}(hr:Cd r){act:Nat}(h:act<r.aj.length)(hp:r.aj.Pairwise fun a b=>a.bR≤b.bR)(tm: ∀a∈r.aj,0≤a.bR∧a.bR≤1000000)(h20:r.aj.length≤20){kind:Int}(hk2:kind=2→r.aj[act].kind≠1)(hH:0<H.length):
  aN KC (aF KC) 70 [.pure (.agg r.row), .pure (.int .i64 act), .pure (.int .i64 kind)] c H=some (.pure (.slice ((nr r act kind).map au.row)),H):=by
 have hne:r.aj≠[]:=fun e=>(by rw [e]at h;simp at h);have k1:ak 12 7=28685:=(by decide);have C:=tx (c:=12) (H:=[(3,aX r)]::H) r.aj hne (by omega) (by simp) (by simp [k1]);simp only [List.length_cons,Nat.add_sub_cancel,k1]at C;have hset:ai.set ([(3,aX r)]::H) (H.length,28685) (.arr 9 (r.aj.map au.row) 0 false)=[(3,aX r),(28685, .arr 9 (r.aj.map au.row) 0 false)]::H:=(by simp);rw [hset]at C;have hg:r.aj.getD act cI=r.aj[act]:=aW h
 have D: ∀(rows:List (List PV)) (v:Nat),rows.length=r.aj.length→v≤r.aj.length→(∀x∈rows,x.length=9)→aN KC (aF KC) 109 [.bd (H.length,28685) 9 r.aj.length 0 r.aj.length, .pure (.int .i64 act), .pure (.int .i64 (act+1))] 71 ([(3,aX r),(28685, .arr 9 rows v false)]::H)=
   some (.bd (H.length,28685) 9 r.aj.length 0 (r.aj.length-1),[(3,aX r),(28685, .arr 9 (rows.take act++rows.drop (act+1)++[Al]) r.aj.length false)]::H):=fun rows v hl hv hw=>by
  have:=ET (c:=71) (H:=[(3,aX r),(28685, .arr 9 rows v false)]::H) (nm:=(H.length,28685)) (rows:=rows) (v:=v) (k:=act) hl (by simp) hv h hw (by omega) (by simp);simpa using this
 have w9: ∀l:List au,∀x∈l.map au.row,x.length=9:=fun l x hx=>by
  obtain⟨a,_,rfl⟩:=List.mem_map.1 hx;rfl
 refine aM (ba KC aw Tryz.func70 rfl rfl Sd rfl rfl rfl (by simp) hH ?_);have hw:=c8 (x:=(act:Int)+1) (by omega) (by omega);have hnl: ¬H.length≤H.length-1:=(by omega);rw [gK];simp only [aX]at C D;unfold nr;rw [hg];by_cases e2:kind=2
 ·subst e2;have hab:=hr.ab _ (List.getElem_mem h);have hfl:=hab.flip (hk2 rfl);have hhand:r.aj[act].hand=0∨r.aj[act].hand=1:=hab.hand;have hwh:IntKind.i64.wrap (1-r.aj[act].hand)=1-r.aj[act].hand:=c8 (by omega) (by omega);have B:=EZ (c:=28) (H:=[(3,aX r),(28685, .arr 9 ((r.aj.map au.row).set act ({r.aj[act]with hand:=1-r.aj[act].hand}:au).row) r.aj.length false)]::H) hr h hp (by simp);have M:=fun c (H:ai) (hH:0<H.length)=>yM (c:=c) (H:=H) (HM hr r.aj[act]) hr.w hfl hH;rw [if_pos rfl];simp only [aX,au.row]at B;rw [gK]at B;obtain⟨a',ha'⟩: ∃a':au,{r.aj[act]with hand:=1-r.aj[act].hand}=a':=⟨_,rfl⟩;have hrow:(r.aj.map au.row).set act [.int .i64 r.aj[act].bR, .int .i64 r.aj[act].aR, .int .i64 r.aj[act].kind, .int .i64 (1-r.aj[act].hand), .int .i64 r.aj[act].bf, .int .i64 r.aj[act].cell, .int .i64 r.aj[act].other, .int .i64 r.aj[act].dQ, .int .i64 r.aj[act].mH]=(r.aj.set act a').map au.row:=by
   rw [List.map_set,←ha'];rfl
  obtain⟨T,hT⟩: ∃T,(r.aj.set act a').map au.row=T:=⟨_,rfl⟩;have hTl:T.length=r.aj.length:=(by rw [←hT];simp);have hTg: ∀h,T[act]'h=a'.row:=fun h=>(by simp only [←hT,List.getElem_map,List.getElem_set_self]);have hT9:=w9 (r.aj.set act a');rw [hT]at hrow hT9;rw [hrow]at B;have D2:=D T r.aj.length hTl (Nat.le_refl _) hT9;have ee:r.aj.eraseIdx act=r.aj.take act++r.aj.drop (act+1):=List.eraseIdx_eq_take_drop_succ ..;have tkd:List.take act T=(r.aj.take act).map au.row:=by
   rw [←hT,←List.map_take,List.take_set_of_le (Nat.le_refl _)]
  have drd:List.drop (act+1) T=(r.aj.drop (act+1)).map au.row:=by
   rw [←hT,←List.map_drop,List.drop_set_of_lt (by omega)]
  rw [ha']at M⊢;simp only [au.row]at M hTg
  cases hpos:bV r (u7 r r.aj[act]) r.aj[act].aR.toNat a' with
  |true=>
   rw [hpos]at M;simp [C,au.row,h,hwh,aH,hrow,B,M,hTl,hTg];rw [ah (by simp)];have tl:List.take r.aj.length T=(r.aj.set act a').map au.row:=(by rw [hT];exact List.take_of_length_le (by omega));simp [hnl,hTl,tl];rfl
  |false=>
   rw [hpos]at M;simp [C,au.row,h,hwh,aH,hrow,B,M,hTl,hTg,D2,hw];rw [ah (by simp)];have tl:List.take (r.aj.length-1) (List.take act T++(List.drop (act+1) T++[Al]))=(r.aj.eraseIdx act).map au.row:=by
    rw [tkd,drd,ee,List.map_append,←List.append_assoc];exact List.take_left' (by simp only [List.length_append,List.length_map,List.length_take,List.length_drop];omega)
   have ml:min act r.aj.length+(r.aj.length-(act+1)+1)=r.aj.length:=(by omega);simp [hnl,tl,ml,hTl]
 ·have e2':(kind==2)=false:=(by simpa using e2);rw [if_neg e2];by_cases e3:kind=3
  ·subst e3;rw [if_pos rfl,show r.aj.take act++(r.aj.drop act).map (late r.aj[act].aR)=lQ r.aj act r.aj[act].aR from rfl]
   have hn6:r.aj.length≤1000000:=(by omega);have hk6:act+(r.aj.length-act)=r.aj.length:=(by omega);have L:=fun Q h1=>HL (H:=H) r (r.aj[act]'h).aR h hn6 tm Q h1 (r.aj.length-act) act 0 hk6 (Nat.le_refl _) (Nat.zero_le _);rw [KW _ _ _ (by omega)]at L;simp only [aX]at L;have hll:=kI r.aj act r.aj[act].aR (by omega);simp [C,h,au.row];refine L _ fun v hv=> ?_;obtain⟨v',hv',S⟩:=EY (c:=65) (H:=[(3,aX r),(28685, .arr 9 ((lQ r.aj act r.aj[act].aR).map au.row) v false)]::H) (nm:=(H.length,28685)) (v:=v) (lQ r.aj act r.aj[act].aR) hll h20 (by simp) hv;simp [aX]at S;simp [S];rw [ah (by simp)];have tl:List.take r.aj.length ((dV (lQ r.aj act r.aj[act].aR)).map au.row)=(dV (lQ r.aj act r.aj[act].aR)).map au.row:=List.take_of_length_le (by rw [List.length_map,kH,hll];exact Nat.le_refl _);have sl:(dV (lQ r.aj act r.aj[act].aR)).length=r.aj.length:=(by rw [kH,hll]);simp [hnl,tl,sl,hv']
  ·have e3':(kind==3)=false:=(by simpa using e3);rw [if_neg e3];have D1:=D (r.aj.map au.row) 0 (by simp) (Nat.zero_le _) (w9 _);have ee:r.aj.eraseIdx act=r.aj.take act++r.aj.drop (act+1):=List.eraseIdx_eq_take_drop_succ ..;simp [C,D1,e2',e3',hw];rw [ah (by simp)];have tl:List.take (r.aj.length-1) (List.take act (r.aj.map au.row)++(List.drop (act+1) (r.aj.map au.row)++[Al]))=(r.aj.eraseIdx act).map au.row:=by
    rw [ee,List.map_append,List.map_take,List.map_drop,←List.append_assoc];exact List.take_left' (by rw [List.length_append,List.length_take,List.length_drop,List.length_map];omega)
   have ml:min act r.aj.length+(r.aj.length-(act+1)+1)=r.aj.length:=(by omega);simp [hnl,tl,ml]
end
section
variable {c:Nat} {H:ai}
end
section
variable {c:Nat} {H:ai}
def Se (L k1 k2 k3:Nat)(s:ay):GV:= .agg [.bd (L,k1) 1 s.ae.length 0 s.ae.length, .bd (L,k2) 2 s.ao.length 0 s.ao.length,dh (L,k3) 2 (s.aa.map br.row)]
theorem Y0 {L k1 k2 k3:Nat}{s:ay}(h:s.aa≠[]):Se L k1 k2 k3 s=kJ (L,k1) (L,k2) (L,k3) s:=by
 unfold Se kJ dh;rw [if_neg (by simpa using h)];simp
theorem Y1 {L k1 k2 k3:Nat}{s:ay}(h:s.aa=[]):Se L k1 k2 k3 s= .agg [.bd (L,k1) 1 s.ae.length 0 s.ae.length, .bd (L,k2) 2 s.ao.length 0 s.ao.length, .aS]:=by
 unfold Se dh;rw [if_pos (by simp [h])]
theorem KY {s:ay}(h:Full s)(hH:0<H.length)(hf1:H.get (H.length-1,ak c 6)=none)(hf2:H.get (H.length-1,ak c 10)=none)(hf3:H.get (H.length-1,ak c 14)=none):
  aN KC (aF KC) 50 [.pure (.agg s.row)] c H=some (Se (H.length-1) (ak c 6) (ak c 10) (ak c 14) s,
   ic ((H.set (H.length-1,ak c 6) (.arr 1 (s.ae.map aD) 0 false)).set (H.length-1,ak c 10) (.arr 2 (s.ao.map aI.row) 0 false)) (H.length-1,ak c 14) 2 (s.aa.map br.row)):=by
 refine aM (ba KC aw Tryz.func50 rfl rfl HN rfl rfl rfl (by simp) hH ?_);have pl:=h.pl;have hl:=h.hl;have tl:=h.tl;have p0:=h.p0;have h0:=h.h0;have b1:s.ae.length*8≤1099511627776:=(by omega);have b2:s.ao.length*16≤1099511627776:=(by omega);have b3:s.aa.length*16≤1099511627776:=(by omega);have mz:ak c 6≠ak c 10:=(by unfold ak;omega);have mc:ak c 6≠ak c 14:=(by unfold ak;omega);have kK:ak c 10≠ak c 14:=(by unfold ak;omega);have k1:(H.length-1,ak c 10)≠((H.length-1,ak c 6):Nm):=fun e=>mz (Prod.mk.inj e).2.symm;have k2:(H.length-1,ak c 14)≠((H.length-1,ak c 6):Nm):=fun e=>mc (Prod.mk.inj e).2.symm;have k3:(H.length-1,ak c 14)≠((H.length-1,ak c 10):Nm):=fun e=>kK (Prod.mk.inj e).2.symm;have g2: ∀b,(H.set (H.length-1,ak c 6) b).get (H.length-1,ak c 10)=none:=fun b=>(ai.aG b k1).trans hf2;have g3: ∀b b',((H.set (H.length-1,ak c 6) b).set (H.length-1,ak c 10) b').get (H.length-1,ak c 14)=none:=fun b b'=>(ai.aG b' k3).trans ((ai.aG b k2).trans hf3);have hn: ¬H.length+1≤H.length:=(by omega);unfold ay.row;by_cases t0:s.aa=[]
 ·rw [Y1 t0];simp [hn,p0,h0,t0,b1,b2];simp [bT,refs,dN,cY,cv,dq,dr,dedup,cH,cb,tz,hf1,g2,uD,j3,ie,ic]
 ·rw [Y0 t0];simp [hn,p0,h0,t0,b1,b2,b3];simp [bT,refs,dN,cY,cv,dq,dr,dedup,cH,cb,tz,hf1,g2,g3,uD,j3,ie,ic,kJ,t0]
end
section
variable {c:Nat} {H:ai}
end
section
variable {c:Nat} {H:ai}
end
section
variable {c:Nat} {H:ai}
end
section
variable {c:Nat} {H:ai}
end
section
theorem Am {r:aC}{s:ay}: ∀{g p:List au} {tk:List (Int×Int)} {nx:ay} {i:Nat},w7 s p tk→qT r s (p++g)→nx=kZ s p→cQ r s g tk nx i=(kZ s (p++g),0,0)
 | [],p,tk,nx,i,_,hG,hn=>by rw [List.append_nil];unfold cQ;rw [hn]
 |a::g,p,tk,nx,i,hT,hG,hn=>by
  have ha:=hG.ab a (by simp);have hd: ∀x∈eI s a.aR.toNat a,x∉tk:=fun x hx h=>by
   obtain⟨b,hb,hy⟩:=(hT x).1 h;have:=(List.pairwise_append.1 hG.ap).2.2 b hb a (List.mem_cons_self ..);exact vd.1 this x hy hx
  unfold cQ;rw [if_neg (by rw [ha.2];simp),if_pos hd,Am (p:=p++[a]) hT.snoc (by rw [List.append_assoc];exact hG) (by rw [hn,iS];rfl),List.append_assoc];rfl
noncomputable def yN:ay→List (List au)→List ay
 |_,[]=> []
 |s,g::gs=>kZ s g::yN (kZ s g) gs
theorem An {r:aC}: ∀(gs:List (List au)) (k:Nat) (s:ay) (i:Nat),JY r s gs→(gs.Pairwise fun g h=> ∀a∈g,∀b∈h,a.bR<b.bR)→gs.flatten.length≤k→dg r k s gs.flatten i=(yN s gs,kZ s gs.flatten,-1,0)
 | [],k,s,i,_,_,_=>by cases k<;>rfl
 |g::gs,k,s,i,hT,hP,hk=>by
  obtain⟨⟨hG,hne,hat⟩,hT'⟩:=hT;obtain⟨a,g',rfl⟩:=List.exists_cons_of_ne_nil hne;have hP':=List.pairwise_cons.1 hP;obtain⟨k,rfl⟩: ∃k',k=k'+1:=⟨k-1,by simp at hk;omega⟩;have htw:((a::g')++gs.flatten).takeWhile (b7 a)=a::g':=by
   have h1: ∀b∈a::g',b7 a b=true:=fun b hb=>by
    unfold b7;simp [hat b hb a (List.mem_cons_self ..)]
   rw [List.takeWhile_append_of_pos h1];have h2:gs.flatten.takeWhile (b7 a)=[]:=by
    cases hf:gs.flatten with
    |nil=>rfl
    |cons b l=>
     have hb:b∈gs.flatten:=(by rw [hf];exact List.mem_cons_self ..);obtain⟨h,hh,hb⟩:=List.mem_flatten.1 hb;have:=hP'.1 h hh a (List.mem_cons_self ..) b hb;rw [List.takeWhile_cons,if_neg];unfold b7;simp;omega
   rw [h2,List.append_nil]
  have m:=Am (r:=r) (s:=s) (g:=a::g') (p:=[]) (tk:=[]) (nx:=s) (i:=0) (fun x=>by simp) hG rfl;rw [List.nil_append]at m;have ih:=An gs k (kZ s (a::g')) (i+(a::g').length) hT' hP'.2 (by simp at hk⊢;omega);rw [List.flatten_cons];conv=>lhs;rw [show (a::g')++gs.flatten=a::(g'++gs.flatten)from rfl]
  unfold dg;simp only;rw [show a::(g'++gs.flatten)=(a::g')++gs.flatten from rfl,htw,m]
  simp only [ne_eq,not_true_eq_false,if_false];rw [List.drop_left,ih,iS];rfl
theorem yO {r:aC}: ∀{gs:List (List au)} {s:ay},JY r s gs→ ∀g∈gs,∃s',qT r s' g∧ ∀a∈g,∀b∈g,a.bR=b.bR
 | [],_,_,_,h=>by simp at h
 |g0::gs,s,h,g,hg=>by
  rcases List.mem_cons.1 hg with rfl|hg
  ·exact⟨s,h.1.1,h.1.2.2⟩
  ·exact yO h.2 g hg
theorem xw {s:ay}{w:Nat}{a:au}:a.aR∈(b8 s w a).ae:=by
 rw [dS]
 repeat' split
 all_goals simp
theorem KZ {r:aC}{gs:List (List au)}{s:ay}(h:JY r s gs)(hP:gs.Pairwise fun g h=> ∀a∈g,∀b∈h,a.bR<b.bR):gs.flatten.Pairwise fun a b=>a.bR≤b.bR∧(a.bR=b.bR→a.aR≠b.aR):=by
 rw [List.pairwise_flatten];refine⟨fun g hg=> ?_,hP.imp fun {g h} q x hx y hy=>⟨by have:=q x hx y hy;omega,fun e=>by have:=q x hx y hy;omega⟩⟩;obtain⟨s',hG,hat⟩:=yO h g hg;refine hG.ap.imp_of_mem fun {a b} ha hb q=>⟨by have:=hat a ha b hb;omega,fun _ e=> ?_⟩;exact q.ap a.aR xw (by rw [e];exact xw)
section
variable {r0:aC} {aj:List au} {s:ay}
theorem Cl (i:Nat):((fX r0 aj s).aa.getD i cA).mI=(r0.aa.getD i cA).mI:=by
 show ((kA r0.aa s.aa r0.aa.length).getD i cA).mI=_
 by_cases h:i<r0.aa.length
 ·rw [aW (by rw [mJ];exact h),aW h,j4 _ _ _ _ h,if_pos h];rfl
 ·simp [List.getD_eq_getElem?_getD,kA,h]
theorem HP {x:ay}{w:Nat}{a:au}:bV (fX r0 aj s) x w a=bV r0 x w a:=by
 rw [cT,cT,Cl];rfl
theorem yP:(fX r0 aj s).aa.length=r0.aa.length:=mJ _ _ _
theorem D4 {w:Nat}{a:au}(h:AB r0 w a):AB (fX r0 aj s) w a:=
 ⟨h.aR,h.wl,h.hand,h.kind,fun k=>by rw [yP];exact h.take k,h.pR,h.step,h.form⟩
theorem Cm:aL (fX r0 aj s)=aL r0:=by
 unfold aL;have:(fX r0 aj s).aa.map eV=r0.aa.map eV:=by
  show (kA r0.aa s.aa r0.aa.length).map eV=_
  refine List.ext_getElem (by simp [kA]) fun j h1 h2=> ?_;have hj:j<r0.aa.length:=(by simpa using h2);rw [List.getElem_map,List.getElem_map,j4 _ _ _ _ hj,if_pos hj];rfl
 rw [this];rfl
theorem HQ {x:ay}{g:List au}(h:qT r0 x g):qT (fX r0 aj s) x g:=⟨fun a ha=>⟨D4 (h.ab a ha).1,by rw [HP];exact(h.ab a ha).2⟩,h.ap⟩
theorem Ao: ∀{gs:List (List au)} {x:ay},JY r0 x gs→JY (fX r0 aj s) x gs
 | [],_,_=>trivial
 |g::gs,x,h=>⟨⟨HQ h.1.1,h.1.2⟩,Ao h.2⟩
end
end
section
theorem jD {g:Nat→Int}: ∀{k i:Nat},(∀j,i≤j→j<i+k→g j=0)→bI g k i=0
 |0,_,_=>rfl
 |k+1,i,h=>by
  unfold bI;rw [h i (Nat.le_refl _) (by omega)];simp;exact jD fun j a b=>h j (by omega) (by omega)
theorem dI {x lo hi:Int}(h1:lo≤x)(h2:x≤hi):cV x lo hi=true:=by simp [cV,h1,h2]
theorem lR {w d:Int}(h1:1≤w*d)(h2:w*d≤1000000):cW w d=w*d-1:=by
 rw [Ap,c8 (x:=w*d) (by omega) (by omega),c8 (x:=w*d-1) (by omega) (by omega)]
theorem E8 {r:aC}{w:Nat}{a:au}(h:AB r w a)(h1:1≤r.wide*r.deep)(h2:r.wide*r.deep≤1000000):fo (cW r.wide r.deep) r.aa.length r.ae.length a=0:=by
 have hk:=h.kind;have hh:=h.hand;rw [j5,if_neg (by rw [dI hk.1 hk.2];simp),if_neg (by rw [h.form];simp),if_neg,if_neg (by rw [dI (by omega) (by omega)];simp),if_neg,if_neg,if_neg]
 ·rintro⟨k,e⟩;obtain⟨o,ho,_,hne⟩:=h.pR k;rw [ho,h.aR]at e;exact hne (by omega)
 ·rintro⟨k,e⟩;obtain⟨o,ho,hl,_⟩:=h.pR k;rw [ho,dI (by omega) (by omega)]at e;cases e
 ·rintro⟨k,e⟩;obtain⟨t,ht,hl⟩:=h.take k;rw [ht,dI (by omega) (by omega)]at e;cases e
 ·rintro⟨k,e⟩;obtain⟨c1,c2⟩:=h.step k;rw [lR h1 h2,dI c1 (by omega)]at e;cases e
section
variable {r0:aC} {aj:List au} {s:ay} {m:Nat}
theorem mK.AB (h:mK r0 aj s m): ∀a∈aj,AB r0 a.aR.toNat a:=fun a ha=>by
 obtain⟨t,hM,_⟩:=h.made;obtain⟨gs,e,hT,_⟩:=hM.gs;rw [e]at ha;obtain⟨g,hg,ha⟩:=List.mem_flatten.1 ha;obtain⟨s',hG,_⟩:=yO hT g hg;exact(hG.ab a ha).1
theorem mK.uq (h:mK r0 aj s m):1≤r0.wide*r0.deep∧r0.wide*r0.deep≤9:=by
 obtain⟨n,hb,hn⟩:=O5 h.room;have:=hb.n0;have:=hb.n9;omega
theorem mK.empty (h:mK r0 aj s m):s.ao=s.ao.map fun _=>empty:=by
 obtain⟨t,hM,_⟩:=h.made;refine List.ext_getElem (by simp) fun j h1 h2=> ?_;have hj:j<r0.ae.length:=(by rw [←hM.snd.hl];exact h1);have a:=h.ao j 0 hj (.inl rfl);have b:=h.ao j 1 hj (.inr rfl);unfold aU at a b;rw [aW h1]at a b;simp at a b;rw [List.getElem_map];cases hh:s.ao[j];rw [hh]at a b;simp only at a b;rw [a,b];rfl
theorem xx: ∀{l:List aI} {t:Nat},l=l.map (fun _=>empty)→fR l t=0
 | [],_,_=>rfl
 |x::l,t,h=>by
  rw [List.map_cons]at h;obtain⟨h1,h2⟩:=List.cons.inj h;have hn: ¬(-1:Int)=t:=(by omega);simp only [fR];rw [xx h2,h1];simp [ur,Go.Gh.empty,hn]
theorem mK.ends (h:mK r0 aj s m)(t:Nat)(ht:t<r0.aa.length):(0≤(s.aa.getD t aQ).cell∧(s.aa.getD t aQ).cell<r0.wide*r0.deep)∧0≤(s.aa.getD t aQ).state∧(s.aa.getD t aQ).state<16:=by
 obtain⟨_,hM,_⟩:=h.made;have ht':t<s.aa.length:=(by rw [hM.snd.tl];exact ht);rcases hM.snd.th t ht' with ⟨a,_⟩|⟨_,a⟩
 ·rw [xx h.empty]at a;cases a
 ·exact⟨a,hM.snd.st t ht'⟩
theorem Cn (h:mK r0 aj s m)(hm:m≤40):cn (fX r0 aj s)=0:=by
 have A:=h.uq;have R:=h.room;have ar1:1≤(fX r0 aj s).wide*(fX r0 aj s).deep:=A.1;obtain⟨t,hM,htm⟩:=h.made;obtain⟨gs,e,hT,hP⟩:=hM.gs;have hpw:=KZ hT hP;rw [←e]at hpw;have top:cW r0.wide r0.deep=r0.wide*r0.deep-1:=lR A.1 (by omega);have tl:(fX r0 aj s).aa.length=r0.aa.length:=yP;have hp0:0<r0.ae.length:=List.length_pos_iff.2 R.p0;have room:lS (fX r0 aj s)=0:=by
  rw [jE,tl];show (if cV r0.wide 1 6=false∨cV r0.deep 1 6=false then (2:Int)else if r0.ae.length=0 then 6 else if 4<r0.ae.length then 8 else if bI (iu (cW r0.wide r0.deep) r0.ae) r0.ae.length 0≠0 then bI (iu (cW r0.wide r0.deep) r0.ae) r0.ae.length 0 else if 8<r0.aa.length then 8 else if bI (jF (cW r0.wide r0.deep) (fX r0 aj s).aa) r0.aa.length 0≠0 then bI (jF (cW r0.wide r0.deep) (fX r0 aj s).aa) r0.aa.length 0 else if bI (mf (fun x=>cV x 0 (cW r0.wide r0.deep)) 7 r0.seen) r0.seen.length 0≠0 then bI (mf (fun x=>cV x 0 (cW r0.wide r0.deep)) 7 r0.seen) r0.seen.length 0 else bI (mf (fun x=>cV x 1 3) 4 r0.a7) r0.a7.length 0)=0
  have e1:=R.w1;have e2:=R.w3;have e3:=R.d1;have e4:=R.d3;have e5:=R.p3;have e6:=R.t4;have f1:bI (iu (cW r0.wide r0.deep) r0.ae) r0.ae.length 0=0:=jD fun j _ hj=>by
   have hj':j<r0.ae.length:=(by omega);have pc:=R.pc _ (List.getElem_mem hj');rw [j6,aW hj',dI pc.1.1 pc.1.2,top,dI pc.2.1 (by omega)];simp only [Bool.true_eq_false,if_false];rw [if_neg];intro hs;unfold du at hs;rw [List.any_eq_true]at hs;obtain⟨q,hq,he⟩:=hs;obtain⟨i,hi,rfl⟩:=List.mem_take_iff_getElem.1 hq;have hij:i<j:=(by omega);have hil:i<r0.ae.length:=(by omega);have:=List.pairwise_iff_getElem.1 R.pn i j (by simpa using hil) (by simpa using hj') hij;simp at this he;exact this he
  have f2:bI (jF (cW r0.wide r0.deep) (fX r0 aj s).aa) r0.aa.length 0=0:=jD fun j _ hj=>by
   have hj':j<r0.aa.length:=(by omega);have tc:=R.tc _ (List.getElem_mem hj');obtain⟨t1,t2,t3,t4,t5,t6⟩:=tc;have E:=h.ends j hj';have g:(fX r0 aj s).aa.getD j ⟨0,0,0,0,false⟩=Aq r0.aa[j] (s.aa.getD j aQ):=by
    show (kA r0.aa s.aa r0.aa.length).getD j _=_
    rw [aW (by rw [mJ];exact hj'),j4 _ _ _ _ hj',if_pos hj']
   have x1:cV r0.aa[j].cell 0 (r0.wide*r0.deep-1)=true:=dI t1 (by omega);have x2:cV (s.aa.getD j aQ).cell 0 (r0.wide*r0.deep-1)=true:=dI E.1.1 (by omega);have x3:cV r0.aa[j].state 0 15=true:=dI t3 (by omega);have x4:cV (s.aa.getD j aQ).state 0 15=true:=dI E.2.1 (by omega);generalize s.aa.getD j aQ=sp at g x2 x4;rw [jG,g,top];simp [Aq,x1,x2,x3,x4]
  have f3:bI (mf (fun x=>cV x 1 3) 4 r0.a7) r0.a7.length 0=0:=jD fun j _ hj=>by
   have hj':j<r0.a7.length:=(by omega);have lr:=R.lr _ (List.getElem_mem hj');rw [oL,aW hj',dI lr.1 (by omega)];simp only [Bool.true_eq_false,if_false];rw [if_neg];rintro⟨h0,hle⟩;rw [aW (by omega)]at hle;have:=List.pairwise_iff_getElem.1 R.lp (j-1) j (by omega) hj' (by omega);omega
  rw [dI e1 (by omega),dI e3 (by omega),f1,f2,f3,R.seen];rw [if_neg (by simp),if_neg (by omega),if_neg (by omega),if_neg (by simp),if_neg (by omega),if_neg (by simp)];simp [bI]
 rw [jH,room];have hl: ¬40<(fX r0 aj s).aj.length:=by show¬40<aj.length;have:=h.len;omega
 rw [if_neg (by simp),if_neg hl];refine jD fun j _ hj=> ?_;have hj':j<aj.length:=(by have:(fX r0 aj s).aj.length=aj.length:=rfl;omega);have hA:=h.AB _ (List.getElem_mem hj');have hz:=hM.z _ (List.getElem_mem hj');have hlt:=hM.lt _ (List.getElem_mem hj');have hF:=E8 (D4 (aj:=aj) (s:=s) hA) ar1 (by show r0.wide*r0.deep≤_;omega)
 have hwl:=hA.wl;have hwho:=hA.aR;rw [ld];show (if cV (aj.getD j cI).bR 0 1000=false then (2:Int)else if 0<j∧(aj.getD j cI).bR<(aj.getD (j-1) cI).bR then 11 else if cV (aj.getD j cI).aR 0 ((r0.ae.length:Int)-1)=false then 7 else if (aj.take j).any (lf (aj.getD j cI))=true then 12 else if fo (cW (fX r0 aj s).wide (fX r0 aj s).deep) (fX r0 aj s).aa.length (fX r0 aj s).ae.length (aj.getD j cI)≠0 then fo (cW (fX r0 aj s).wide (fX r0 aj s).deep) (fX r0 aj s).aa.length (fX r0 aj s).ae.length (aj.getD j cI)else if cV (aj.getD j cI).dQ 0 15=false∨cV (aj.getD j cI).mH 0 9=false then 2 else 0)=0
 rw [aW hj',dI hz.1 (by omega),dI (x:=aj[j].aR) (by omega) (by omega),hF,hz.2.1,hz.2.2];simp only [Bool.true_eq_false,if_false];rw [if_neg,if_neg]
 ·simp [cV]
 ·intro hs;rw [List.any_eq_true]at hs;obtain⟨q,hq,he⟩:=hs;obtain⟨i,hi,rfl⟩:=List.mem_take_iff_getElem.1 hq;have hil:i<aj.length:=(by omega);have:=List.pairwise_iff_getElem.1 hpw i j hil hj' (by omega);unfold lf at he;simp at he;exact this.2 he.1 he.2
 ·rintro⟨h0,hle⟩;rw [aW (by omega)]at hle;have:=(List.pairwise_iff_getElem.1 hpw (j-1) j (by omega) hj' (by omega)).1;omega
theorem HR (h:mK r0 aj s m): ∃gs:List (List au),aj=gs.flatten∧JY r0 (aL r0) gs∧(gs.Pairwise fun g h=> ∀a∈g,∀b∈h,a.bR<b.bR)∧s=kZ (aL r0) aj∧
  di (fX r0 aj s)=(aL r0::yN (aL r0) gs,s,-1,0):=by
 obtain⟨t,hM,_⟩:=h.made;obtain⟨gs,e,hT,hP⟩:=hM.gs;refine⟨gs,e,hT,hP,hM.sc, ?_⟩;have run:=An (r:=fX r0 aj s) gs aj.length (aL r0) 0 (Ao hT) hP (by rw [←e];exact Nat.le_refl _);rw [←e,←hM.sc]at run;have ho:ql (fX r0 aj s) s=true:=by
  rw [mL,decide_eq_true h.empty,Bool.true_and];refine decide_eq_true fun i hi=> ?_;have hi':i<r0.aa.length:=(by rwa [yP]at hi);have g:(fX r0 aj s).aa.getD i cA=Aq r0.aa[i] (s.aa.getD i aQ):=by
   show (kA r0.aa s.aa r0.aa.length).getD i _=_
   rw [aW (by rw [mJ];exact hi'),j4 _ _ _ _ hi',if_pos hi']
  rw [g];rfl
 unfold di;simp only [Cm];rw [show (fX r0 aj s).aj=aj from rfl,run]
 simp [ho]
end
end
theorem gb {g:Nat→Int}: ∀{k i:Nat},bI g k i=0→ ∀j,i≤j→j<i+k→g j=0
 |0,_,_=>fun j a b=>by omega
 |k+1,i,h=>fun j a b=>by
  unfold bI at h;by_cases h0:g i=0
  ·by_cases e:j=i
   ·rw [e];exact h0
   ·refine gb (k:=k) (i:=i+1) ?_ j (by omega) (by omega);simpa [h0]using h
  ·simp [h0]at h
theorem gR {x lo hi:Int}(h:cV x lo hi≠false):lo≤x∧x≤hi:=by
 cases e:cV x lo hi with
 |false=>exact absurd e h
 |true=>exact pz.1 e
theorem bB {p:Prop} [Decidable p]{a b:Int}(ha:a≠0)(h:(if p then a else b)=0): ¬p∧b=0:=by
 by_cases hp:p
 ·rw [if_pos hp]at h;exact absurd h ha
 ·rw [if_neg hp]at h;exact⟨hp,h⟩
theorem ite_self {a b:Int}(h:(if a≠0 then a else b)=0):a=0∧b=0:=by
 by_cases hp:a≠0
 ·rw [if_pos hp]at h;exact absurd h hp
 ·rw [if_neg hp]at h;exact⟨by simpa using hp,h⟩
structure pY (r:aC):Prop where
 w:1≤r.wide∧r.wide≤6
 d:1≤r.deep∧r.deep≤6
 p0:r.ae≠[]
 p4:r.ae.length≤4
 t8:r.aa.length≤8
 pc: ∀p∈r.ae,0≤p.cell∧p.cell<r.wide*r.deep
 pn:(r.ae.map (·.cell)).Nodup
 tc: ∀t∈r.aa,(0≤t.cell∧t.cell<r.wide*r.deep)∧0≤t.state∧t.state<16
 ls: ∀x∈r.a7,1≤x∧x≤3
theorem pY.uq {r:aC}(h:pY r):1≤r.wide*r.deep∧r.wide*r.deep≤36:=by
 have h1:=h.w;have h2:=h.d;constructor
 ·have:=Int.mul_le_mul h1.1 h2.1 (by omega) (by omega);omega
 ·have:=Int.mul_le_mul h1.2 h2.2 (by omega) (by omega);omega
theorem D5 {r:aC}(h:lS r=0):pY r:=by
 rw [jE]at h;obtain⟨h1,h⟩:=bB (by decide) h;obtain⟨h2,h⟩:=bB (by decide) h;obtain⟨h3,h⟩:=bB (by decide) h;obtain⟨h4,h⟩:=ite_self h;obtain⟨h5,h⟩:=bB (by decide) h;obtain⟨h6,h⟩:=ite_self h;obtain⟨h7,h8⟩:=ite_self h;have w:=gR (fun e=>h1 (.inl e));have d:=gR (fun e=>h1 (.inr e));have ar:1≤r.wide*r.deep∧r.wide*r.deep≤36:=by
  constructor
  ·have:=Int.mul_le_mul w.1 d.1 (by omega) (by omega);omega
  ·have:=Int.mul_le_mul w.2 d.2 (by omega) (by omega);omega
 have top:cW r.wide r.deep=r.wide*r.deep-1:=lR ar.1 (by omega);rw [top]at h4 h6;have P: ∀j (hj:j<r.ae.length),(0≤r.ae[j].cell∧r.ae[j].cell<r.wide*r.deep)∧du r.ae j r.ae[j].cell=false:=fun j hj=>by
  have e:=gb h4 j (Nat.zero_le _) (by omega);rw [j6,aW hj]at e;obtain⟨_,e⟩:=bB (by decide) e;obtain⟨e2,e⟩:=bB (by decide) e;obtain⟨e3,_⟩:=bB (by decide) e;have:=gR e2;exact⟨⟨this.1,by omega⟩,by simpa using e3⟩
 refine⟨w,d,fun e=>h2 (by rw [e];rfl),by omega,by omega,fun p hp=> ?_, ?_,fun t ht=> ?_,fun x hx=> ?_⟩
 ·obtain⟨j,hj,rfl⟩:=List.getElem_of_mem hp;exact(P j hj).1
 ·rw [List.Nodup,List.pairwise_iff_getElem];intro i j hi hj hij;simp only [List.length_map]at hi hj;simp only [List.getElem_map];intro e;have:=(P j hj).2;unfold du at this;rw [List.any_eq_false]at this;exact this r.ae[i] (List.mem_take_iff_getElem.2 ⟨i,by omega,rfl⟩) (by simpa using e)
 ·obtain⟨j,hj,rfl⟩:=List.getElem_of_mem ht;have e:=gb h6 j (Nat.zero_le _) (by omega);rw [jG,aW hj]at e;obtain⟨e1,e⟩:=bB (by decide) e;obtain⟨e2,_⟩:=bB (by decide) e;have a:=gR (fun x=>e1 (.inl x));have b:=gR (fun x=>e2 (.inl x));exact⟨⟨a.1,by omega⟩,b.1,by omega⟩
 ·obtain⟨j,hj,rfl⟩:=List.getElem_of_mem hx;have e:=gb h8 j (Nat.zero_le _) (by omega);rw [oL,aW hj]at e;obtain⟨e1,_⟩:=bB (by decide) e;exact gR e1
theorem K0 {r:aC}(h:pY r){a:au}(hw:0≤a.aR∧a.aR<r.ae.length)(hf:fo (cW r.wide r.deep) r.aa.length r.ae.length a=0):AB r a.aR.toNat a:=by
 have ar:=h.uq;rw [lR ar.1 (by omega),j5]at hf;obtain⟨h1,hf⟩:=bB (by decide) hf;obtain⟨h2,hf⟩:=bB (by decide) hf;obtain⟨h3,hf⟩:=bB (by decide) hf;obtain⟨h4,hf⟩:=bB (by decide) hf;obtain⟨h5,hf⟩:=bB (by decide) hf;obtain⟨h6,hf⟩:=bB (by decide) hf;obtain⟨h7,_⟩:=bB (by decide) hf;have k:=gR h1;have hd:=gR h4;refine⟨by omega,by omega,by omega,k,fun e=> ?_,fun e=> ?_,fun e=> ?_,by simpa using h2⟩
 ·have:=gR (fun x=>h5 ⟨e,x⟩);exact⟨a.bf.toNat,by omega,by omega⟩
 ·have:=gR (fun x=>h6 ⟨e,x⟩);have h7': ¬a.other=a.aR:=fun x=>h7 ⟨e,x⟩;exact⟨a.other.toNat,by omega,by omega,by omega⟩
 ·have:=gR (fun x=>h3 ⟨e,x⟩);exact⟨this.1,by omega⟩
structure O6 (r:aC):Prop where
 n:r.aj.length≤40
 ab: ∀a∈r.aj,AB r a.aR.toNat a
 tm: ∀a∈r.aj,0≤a.bR∧a.bR≤1000
 pw:r.aj.Pairwise fun a b=>a.bR≤b.bR∧(a.bR=b.bR→a.aR≠b.aR)
theorem jh {r:aC}(h:cn r=0):pY r∧O6 r:=by
 rw [jH]at h;obtain⟨h1,h⟩:=ite_self h;obtain⟨h2,h⟩:=bB (by decide) h;have R:=D5 h1;have A: ∀j (hj:j<r.aj.length),AB r r.aj[j].aR.toNat r.aj[j]∧(0≤r.aj[j].bR∧r.aj[j].bR≤1000)∧(0<j→(r.aj.getD (j-1) cI).bR≤r.aj[j].bR)∧(r.aj.take j).any (lf r.aj[j])=false:=fun j hj=>by
  have e:=gb h j (Nat.zero_le _) (by omega);rw [ld,aW hj]at e;obtain⟨e1,e⟩:=bB (by decide) e;obtain⟨e2,e⟩:=bB (by decide) e;obtain⟨e3,e⟩:=bB (by decide) e;obtain⟨e4,e⟩:=bB (by decide) e;obtain⟨e5,e⟩:=ite_self e;have w:=gR e3;refine⟨K0 R ⟨w.1,by omega⟩ e5,gR e1,fun h0=> ?_,by simpa using e4⟩;have: ¬r.aj[j].bR<(r.aj.getD (j-1) cI).bR:=fun x=>e2 ⟨h0,x⟩;omega
 have mono: ∀i j (hi:i<r.aj.length) (hj:j<r.aj.length),i<j→r.aj[i].bR≤r.aj[j].bR:=fun i j=>by
  induction j with
  |zero=>intro _ _ h;omega
  |succ j ih=>
   intro hi hj hij;have s:=(A (j+1) hj).2.2.1 (by omega);rw [Nat.add_sub_cancel,aW (by omega)]at s;by_cases e:i=j
   ·subst e;exact s
   ·have:=ih hi (by omega) (by omega);omega
 refine⟨R,by omega,fun a ha=> ?_,fun a ha=> ?_, ?_⟩
 ·obtain⟨j,hj,rfl⟩:=List.getElem_of_mem ha;exact(A j hj).1
 ·obtain⟨j,hj,rfl⟩:=List.getElem_of_mem ha;exact(A j hj).2.1
 ·rw [List.pairwise_iff_getElem];intro i j hi hj hij;refine⟨mono i j hi hj hij,fun e1 e2=> ?_⟩;have:=(A j hj).2.2.2;rw [List.any_eq_false]at this;refine this r.aj[i] (List.mem_take_iff_getElem.2 ⟨i,by omega,rfl⟩) ?_;unfold lf;simp [e1,e2]
theorem lg {r:aC}(h:pY r):fB r (aL r):=by
 have ce: ∀l:List aV,∀t:Nat,fR (l.map fun _=>empty) t=0:=fun l t=>by
  induction l with
  |nil=>rfl
  |cons a l ih=>
   have: ¬(-1:Int)=t:=(by omega);simp only [List.map_cons,fR,ih];simp [ur,empty,this]
 refine {pl:=by simp [aL],hl:=by simp [aL],tl:=by simp [aL],hr:=fun i hi=> ?_,pr:=fun x hx=> ?_,pn:=h.pn,th:=fun t ht=> ?_,st:=fun t ht=> ?_}
 ·simp only [aL,List.getElem_map,empty,List.length_map];omega
 ·simp only [aL,List.mem_map]at hx;obtain⟨p,hp,rfl⟩:=hx;exact h.pc p hp
 ·have ht':t<r.aa.length:=(by simpa [aL]using ht);have e:((aL r).aa.getD t aQ)=eV r.aa[t]:=by
   rw [aW ht];simp [aL]
  rw [e];exact .inr ⟨ce _ _,(h.tc _ (List.getElem_mem ht')).1.1,(h.tc _ (List.getElem_mem ht')).1.2⟩
 ·have ht':t<r.aa.length:=(by simpa [aL]using ht);have e:((aL r).aa.getD t aQ)=eV r.aa[t]:=by
   rw [aW ht];simp [aL]
  rw [e];exact⟨(h.tc _ (List.getElem_mem ht')).2.1,(h.tc _ (List.getElem_mem ht')).2.2⟩
theorem yQ {r:aC}(h:cn r=0)(sh:gA r):Cd r:=by
 obtain⟨R,A⟩:=jh h;have ar:=R.uq;have w:=R.w;have:=R.p4;have:=R.t8;have:=A.n;exact {w:=⟨w.1,by omega,by omega,by omega,by omega⟩,snd:=lg R,p0:=R.p0,al:=by omega,ab:=A.ab,sh:=sh,ck:=h}
section
variable {c:Nat} {H:ai}
end
section
variable {c:Nat} {H:ai}
theorem Ar {r:aC}: ∀(k:Nat) (s:ay) (aj:List au) (i:Nat),(dg r k s aj i).1.length≤k
 |0,s,_,_=>Nat.le_refl _
 |_+1,s,[],_=>Nat.zero_le _
 |k+1,s,a::rest,i=>by
  unfold dg;simp only;split
  ·exact Nat.zero_le _
  ·have:=Ar (r:=r) k (cQ r s ((a::rest).takeWhile (b7 a)) [] s 0).1 ((a::rest).drop ((a::rest).takeWhile (b7 a)).length) (i+((a::rest).takeWhile (b7 a)).length);simp only [List.length_cons];omega
end
section
variable {c:Nat} {H:ai}
end
section
variable {c:Nat} {H:ai}
noncomputable def K3 (r:aC):PV:= .tuple (if cn r=0 then (if (di r).2.2.2=0 then [.agg (di r).2.1.row, .int .i64 (-1), .int .i64 0]else [.agg [.slice [], .slice [], .slice []], .int .i64 (di r).2.2.1, .int .i64 (di r).2.2.2])else [.agg [.slice [], .slice [], .slice []], .int .i64 0, .int .i64 (cn r)])
noncomputable def HT (r:aC):PV:= .tuple (if cn r=0 then (if (di r).2.2.2=0 then [.slice ((di r).1.map ay.row), .int .i64 0]else [.slice [], .int .i64 (di r).2.2.2])else [.slice [], .int .i64 (cn r)])
theorem As {r:aC}(sh:gA r)(hH:0<H.length):bJ KC (aF KC) 15 [.pure (.agg r.row)] c H=some (.pure (K3 r),H):=by
 unfold K3;by_cases h0:cn r=0
 ·rw [if_pos h0];exact KM (yQ h0 sh) hH
 ·rw [if_neg h0];refine aM (aK KC aw Tryz.func15 rfl rfl HF (by simp) hH ?_);have C:=fun c (H:ai) (hH:0<H.length)=>re (c:=c) (H:=H) r sh.s sh.l sh.p sh.t sh.a hH;have he':(cn r !=0)=true:=(by simpa using h0);rw [gK]at C⊢;simp [C,he',aH];rw [ah (by simp)];simp
theorem tB {r:aC}(sh:gA r)(hH:0<H.length):bJ KC (aF KC) 17 [.pure (.agg r.row)] c H=some (.pure (HT r),H):=by
 unfold HT;by_cases h0:cn r=0
 ·rw [if_pos h0];exact Ce (yQ h0 sh) hH
 ·rw [if_neg h0];refine aM (aK KC aw Tryz.func17 rfl rfl HG (by simp) hH ?_);have C:=fun c (H:ai) (hH:0<H.length)=>re (c:=c) (H:=H) r sh.s sh.l sh.p sh.t sh.a hH;have he':(cn r !=0)=true:=(by simpa using h0);rw [gK]at C⊢;simp [C,he',aH];rw [ah (by simp)];simp
end
section
variable {c:Nat} {H:ai}
theorem sE {rows:List (List PV)}:cg (if rows=[]then .aS else .pure (.slice rows))= .pure (.slice rows):=by
 split
 ·rename_i h;subst h;rfl
 ·rfl
end
section
variable {c:Nat} {H:ai}
theorem HU (l:List au)(hn:l.length≤1000000){F:Fr}(hf:F.get (ak c 7)=none):
  aN KC (aF KC) 75 [.pure (.slice (l.map au.row))] c (F::H)=some (dh (H.length,ak c 7) 9 (l.map au.row),fD (ak c 7) 9 (l.map au.row) F::H):=by
 by_cases h:l=[]
 ·subst h;unfold aN;rw [show KC.zV 75=true from rfl]
  simp [mM,gQ,gP]
 ·have h':l.map au.row≠[]:=(by simpa using h);rw [tx (c:=c) (H:=F::H) l h hn (by simp) (by simpa using hf)];unfold dh fD;rw [if_neg h',if_neg h'];simp
end
section
variable {c:Nat} {H:ai}
end
section
variable {c:Nat} {H:ai}
end
section
variable {c:Nat} {H:ai}
end
section
variable {c:Nat} {H:ai}
def rj (f f':Fr):Prop:=(f.ji→f'.ji)∧ ∀k,f'.get k=f.get k∨ ∃es rows v ro,f.get k=some (.arr es rows v ro)∧f'.get k=some (.arr es rows v true)
theorem rj.refl (f:Fr):rj f f:=⟨id,fun _=> .inl rfl⟩
theorem rj.trans {a b d:Fr}(h1:rj a b)(h2:rj b d):rj a d:=by
 refine⟨fun h=>h2.1 (h1.1 h),fun k=> ?_⟩;rcases h1.2 k with e1|⟨es,rows,v,ro,x1,y1⟩
 ·rcases h2.2 k with e2|⟨es,rows,v,ro,x2,y2⟩
  ·exact .inl (e2.trans e1)
  ·exact .inr ⟨es,rows,v,ro,e1▸x2,y2⟩
 ·rcases h2.2 k with e2|⟨es',rows',v',ro',x2,y2⟩
  ·exact .inr ⟨es,rows,v,ro,x1,e2.trans y1⟩
  ·rw [y1]at x2;cases x2;exact .inr ⟨es,rows,v,ro,x1,y2⟩
theorem rj.none {f f':Fr}(h:rj f f'){k:Nat}(hk:f.get k=none):f'.get k=none:=by
 rcases h.2 k with e|⟨es,rows,v,ro,x,y⟩
 ·rw [e,hk]
 ·rw [hk]at x;cases x
theorem rj.empty {f':Fr}(h:rj [] f'):f'=[]:=by
 cases f' with
 |nil=>rfl
 |cons x r=>
  obtain⟨k,b⟩:=x;have:=h.none (k:=k) rfl;simp at this
inductive oa:ai→ai→Prop
 |nil:oa [] []
 |cons {f f':Fr} {H H':ai} (h:rj f f') (t:oa H H'):oa (f::H) (f'::H')
theorem oa.refl: ∀H:ai,oa H H
 | []=> .nil
 |f::H=> .cons (rj.refl f) (oa.refl H)
theorem oa.trans {A B D:ai}(h1:oa A B)(h2:oa B D):oa A D:=by
 induction h1 generalizing D with
 |nil=>exact h2
 |cons h t ih=>cases h2 with|cons h' t'=>exact .cons (h.trans h') (ih t')
theorem oa.len {A B:ai}(h:oa A B):B.length=A.length:=by
 induction h with
 |nil=>rfl
 |cons _ _ ih=>simp [ih]
theorem oa.get {A B:ai}(h:oa A B)(nm:Nm):B.get nm=A.get nm∨ ∃es rows v ro,A.get nm=some (.arr es rows v ro)∧B.get nm=some (.arr es rows v true):=by
 induction h with
 |nil=>exact .inl rfl
 | @cons f f' H H' h t ih=>
  have hl:=t.len;rw [ai.fb,ai.fb,hl];by_cases e:nm.1=H.length
  ·rw [if_pos e,if_pos e];exact h.2 nm.2
  ·rw [if_neg e,if_neg e];exact ih
theorem oa.sim {A B:ai}(h:oa A B):j7 A B:=fun nm es rows v ro hg=>by
 rcases h.get nm with e|⟨es',rows',v',ro',x,y⟩
 ·exact⟨ro,e.trans hg⟩
 ·rw [hg]at x;cases x;exact⟨true,y⟩
theorem rj.ins {f:Fr}{k es:Nat}{rows:List (List PV)}{v:Nat}{ro:Bool}(h:f.get k=some (.arr es rows v ro)):rj f (f.ins k (.arr es rows v true)):=by
 refine⟨fun hs=>Fr.dZ hs,fun j=> ?_⟩;by_cases e:j=k
 ·subst e;exact .inr ⟨es,rows,v,ro,h,Fr.bc ..⟩
 ·exact .inl (Fr.ax _ e _)
theorem oa.set {nm:Nm}{es:Nat}{rows:List (List PV)}{v:Nat}{ro:Bool}: ∀{H:ai},H.get nm=some (.arr es rows v ro)→oa H (H.set nm (.arr es rows v true))
 | [],h=>by simp [ai.get]at h
 |f::H,h=>by
  rw [ai.fb]at h;simp only [ai.set];by_cases e:nm.1=H.length
  ·rw [if_pos e]at h⊢;exact .cons (rj.ins h) (oa.refl H)
  ·rw [if_neg e]at h⊢;exact .cons (rj.refl f) (oa.set h)
theorem ve (H:ai)(g:GV):oa H (dY H g).2:=by
 cases g with
 |bd nm es top lo len=>
  simp only [dY,dG]
  cases hg:H.get nm with
  |none=>exact oa.refl H
  |some b=>
   cases b with
   |arr es' elems vf ro=>
    simp only;split
    ·exact oa.set hg
    ·exact oa.refl H
   |_=>exact oa.refl H
 |_=>exact oa.refl H
theorem tC: ∀(l:List GV) (H:ai),oa H (gB H l).2
 | [],H=>oa.refl H
 |g::l,H=>(ve H g).trans (tC l _)
theorem xy (H:ai)(g:GV):oa H (dx H g).2:=by
 cases g with
 |agg l=>exact tC l H
 |_=>exact ve H _
theorem rm: ∀(l:List PV) (H:ai),bz H (l.map .pure)=(l.map .pure,H)
 | [],H=>rfl
 |p::l,H=>by
  rw [List.map_cons];simp only [bz];have e:dx H (.pure p)=(.pure p,H):=rfl;rw [e];simp only [rm l H]
end
section
variable {c:Nat} {H:ai}
theorem lh {f:FuncId}(h1:KC.zV f=false)(h2:KC.Ai f=false)(h3:KC.EM f=true)(ps:List PV):aN KC (aF KC) f (ps.map .pure) c H=bJ KC (aF KC) f (ps.map .pure) c H:=by
 rw [jC h1 h2 h3,rm]
end
section
variable {c:Nat} {H:ai}
noncomputable def mg:aC→Int:=ov fun r=>if cn r=0 then (di r).2.2.2 else cn r
theorem mN (r:aC):mg r=if cn r=0 then (di r).2.2.2 else cn r:=by rw [mg,cN]
theorem HV {r:aC}: ∃(s:ay) (n:Int),K3 r= .tuple [.agg s.row, .int .i64 n, .int .i64 (mg r)]:=by
 unfold K3;rw [mN];by_cases h0:cn r=0
 ·rw [if_pos h0,if_pos h0];by_cases he:(di r).2.2.2=0
  ·rw [if_pos he,he];exact⟨_,_,rfl⟩
  ·rw [if_neg he];exact⟨⟨[],[],[]⟩,_,rfl⟩
 ·rw [if_neg h0,if_neg h0];exact⟨⟨[],[],[]⟩,0,rfl⟩
noncomputable def E9:aC→Int→Int→Int:=ov fun r act kind=>
 if mg r≠0 then mg r else if cV act 0 ((r.aj.length:Int)-1)=false then 7 else if cV kind 1 3=false then 4 else if kind=2∧(r.aj.getD act.toNat cI).kind=1 then 3 else 0
theorem rq (r:aC)(act kind:Int):E9 r act kind=if mg r≠0 then mg r else if cV act 0 ((r.aj.length:Int)-1)=false then 7 else if cV kind 1 3=false then 4 else if kind=2∧(r.aj.getD act.toNat cI).kind=1 then 3 else 0:=by rw [E9,cN]
theorem vg {r:aC}(sh:gA r)(act kind:Int)(hH:0<H.length):
  bJ KC (aF KC) 69 [.pure (.agg r.row), .pure (.int .i64 act), .pure (.int .i64 kind)] c H=some (.pure (.int .i64 (E9 r act kind)),H):=by
 refine aM (aK KC aw Tryz.func69 rfl rfl Sf (by simp) hH ?_);have R:=fun(c:Nat) (H:ai) (hH:0<H.length)=>(lh (f:=15) (c:=c) (H:=H) rfl rfl rfl [.agg r.row]).trans (As (c:=c) sh hH);obtain⟨s,n,hs⟩:=HV (r:=r);rw [hs]at R;have I:=fun(c:Nat) (x lo hi:Int) (H:ai) (hH:0<H.length)=>cZ (c:=c) (x:=x) (lo:=lo) (hi:=hi) (H:=H) hH;have ha:=sh.a;have hw:IntKind.i64.wrap ((r.aj.length:Int)-1)=(r.aj.length:Int)-1:=c8 (by omega) (by omega);simp only [List.map_cons,List.map_nil]at R;rw [gK]at R⊢;rw [rq];unfold ay.row at R;by_cases he:mg r=0
 ·rw [he]at R⊢;by_cases h1:cV act 0 ((r.aj.length:Int)-1)=true
  ·obtain⟨a1,a2⟩:=pz.1 h1;obtain⟨k,rfl⟩:=Int.eq_ofNat_of_zero_le a1;have hk:k<r.aj.length:=(by omega);have hg:r.aj.getD k cI=r.aj[k]:=aW hk;by_cases h2:cV kind 1 3=true
   ·by_cases h3:kind=2
    ·subst h3;have h2':cV 2 1 3=true:=(by decide);by_cases h4:r.aj[k].kind=1
     ·simp [R,I,hw,h1,h2',hk,au.row,h4,ah,aH,hg]
     ·have h4':(r.aj[k].kind==1)=false:=(by simpa using h4);simp [R,I,hw,h1,h2',hk,au.row,h4,h4',ah,aH,hg]
    ·have h3':(kind==2)=false:=(by simpa using h3);simp [R,I,hw,h1,h2,h3,h3',ah,aH]
   ·have h2':cV kind 1 3=false:=(by simpa using h2);simp [R,I,hw,h1,h2',ah,aH]
  ·have h1':cV act 0 ((r.aj.length:Int)-1)=false:=(by simpa using h1);simp [R,I,hw,h1',ah,aH]
 ·have he':(mg r !=0)=true:=(by simpa using he);simp [R,he,he',ah,aH]
end
section
variable {c:Nat} {H:ai}
end
section
variable {c:Nat} {H:ai}
def Sg (H:ai)(fr:Fr)(g:GV)(A:List au):Prop:=
 (g= .aS∧A=[])∨(A≠[]∧ ∃key v,g= .bd (H.length,key) 9 A.length 0 A.length∧fr.get key=some (.arr 9 (A.map au.row) v false)∧v≤A.length)
theorem HW {key:Nat} {fr:Fr} {g:GV} {A:List au} (a:au) (L:Sg H fr g A) (hf:fr.get key=none) (hn:A.length+1≤1000000) (R:GV×ai→Prop)
  (h: ∀g' fr',Sg H fr' g' (A++[a])→(∀q top,g'= .bd (H.length,q) 9 top 0 top→q=key∨ ∃top,g= .bd (H.length,q) 9 top 0 top)→(∀k,k≠key→(∀top,g≠ .bd (H.length,k) 9 top 0 top)→fr'.get k=fr.get k)→R (g',fr'::H)):
  mE (zW H.length key g 9 72 [a.row] (fr::H)) R:=by
 rcases L with ⟨rfl,rfl⟩|⟨hne,dm,v,rfl,hg,hv⟩
 ·have hm: ¬H.length+1≤H.length:=(by omega);have:=h (.bd (H.length,key) 9 1 0 1) (fr.ins key (.arr 9 [a.row] 0 false)) (Or.inr ⟨by simp,key,0,rfl,Fr.bc _ _ _,Nat.zero_le _⟩) (fun q top e=>by cases e;exact Or.inl rfl) (fun k hk _=>Fr.ax _ hk _);simp [hf,hm];exact this
 ·have hb:(A.length+1)*72≤1099511627776:=(by omega);have:=h (.bd (H.length,dm) 9 (A.length+1) 0 (A.length+1)) (fr.ins dm (.arr 9 (A.map au.row++[a.row]) v false)) (Or.inr ⟨by simp,dm,v,by simp,by rw [Fr.bc];simp,by simp;omega⟩) (fun q top e=>by cases e;exact Or.inr ⟨_,rfl⟩) (fun k _ hk=>Fr.ax _ (fun e=>by subst e;exact hk _ rfl) _);simp [hg,hv,hb];exact this
end
section
variable {c:Nat} {H:ai}
end
section
variable {c:Nat} {H:ai}
end
section
structure sF (r:aC)(k:Nat)(kind:Int):Prop where
 run:Cd r
 lt:k<r.aj.length
 kd:kind=1∨kind=2∨kind=3
 hand:kind=2→(r.aj[k]'lt).kind≠1
 ok:(di r).2.2.2=0
 tm: ∀a∈r.aj,0≤a.bR∧a.bR≤1000
 pw:r.aj.Pairwise fun a b=>a.bR≤b.bR
 n40:r.aj.length≤40
 room:pY r
theorem rr {r:aC}(sh:gA r){act kind:Int}(h:E9 r act kind=0): ∃k:Nat,act=k∧sF r k kind:=by
 rw [rq]at h;obtain⟨h1,h⟩:=ite_self h;obtain⟨h2,h⟩:=bB (by decide) h;obtain⟨h3,h⟩:=bB (by decide) h;obtain⟨h4,h⟩:=bB (by decide) h;have h2':cV act 0 ((r.aj.length:Int)-1)=true:=(by simpa using h2);have h3':cV kind 1 3=true:=(by simpa using h3);obtain⟨a1,a2⟩:=pz.1 h2';obtain⟨b1,b2⟩:=pz.1 h3';obtain⟨k,rfl⟩:=Int.eq_ofNat_of_zero_le a1;have hk:k<r.aj.length:=(by omega);rw [mN]at h1;have hc:cn r=0:=by
  rcases Decidable.em (cn r=0)with e|e
  ·exact e
  ·rw [if_neg e]at h1;exact h1
 rw [if_pos hc]at h1;obtain⟨R,A⟩:=jh hc;refine⟨k,rfl,yQ hc sh,hk,by omega,fun e=> ?_,h1,A.tm,A.pw.imp fun x=>x.1,A.n,R⟩;have hg:r.aj.getD (Int.toNat (k:Int)) cI=r.aj[k]:=aW hk;rw [hg]at h4;exact fun e2=>h4 ⟨e,e2⟩
section
variable {r:aC} {k:Nat} {kind:Int} (h:sF r k kind)
include h
theorem sF.get:r.aj.getD k cI=r.aj[k]'h.lt:=aW h.lt
theorem HX:(nr r k kind).length≤r.aj.length:=by
 unfold nr;have:=h.lt;split
 ·split
  ·simp
  ·rw [List.length_eraseIdx];split<;>omega
 ·split
  ·rw [kH];simp;omega
  ·rw [List.length_eraseIdx];split<;>omega
omit h in
theorem Co (aR:Int)(a:au):(late aR a=a∨late aR a=setAt a (a.bR+1)):=by
 unfold late;split
 ·exact Or.inr rfl
 ·exact Or.inl rfl
theorem ru {x:au}(hx:x∈nr r k kind):AB r x.aR.toNat x∧0≤x.bR∧x.bR≤1001:=by
 have hm: ∀a∈r.aj,AB r a.aR.toNat a∧0≤a.bR∧a.bR≤1001:=fun a ha=>by
  have:=h.tm a ha;exact⟨h.run.ab a ha,by omega,by omega⟩
 unfold nr at hx;rw [h.get]at hx;split at hx
 ·rename_i hk;split at hx
  ·rcases List.mem_or_eq_of_mem_set hx with hx|rfl
   ·exact hm x hx
   ·have h1:=hm _ (List.getElem_mem h.lt);exact⟨h1.1.flip (h.hand hk),h1.2⟩
  ·exact hm x (List.mem_of_mem_eraseIdx hx)
 ·split at hx
  ·have hx:=(vh _).mem_iff.1 hx;rcases List.mem_append.1 hx with hx|hx
   ·exact hm x (List.mem_of_mem_take hx)
   ·obtain⟨a,ha,rfl⟩:=List.mem_map.1 hx;have ha':=List.mem_of_mem_drop ha;have h1:=hm a ha';have h2:=h.tm a ha';rcases Co (r.aj[k]'h.lt).aR a with e|e
    ·rw [e];exact h1
    ·rw [e];exact⟨vl h1.1,by show 0≤a.bR+1;omega,by show a.bR+1≤1001;omega⟩
  ·exact hm x (List.mem_of_mem_eraseIdx hx)
end
def ob (r:aC)(w:Nat):List au:=bK (r.wide*r.deep).toNat r.aa.length r.ae.length w
def mO (r:aC)(k:Nat):Nat:=(r.aj.getD k cI).aR.toNat
noncomputable def ry (r:aC)(k:Nat)(kind:Int):List ay×ay×Int×Int:=dg r (gY (ou r k kind) (nr r k kind)).length (aL r) (gY (ou r k kind) (nr r k kind)) 0
noncomputable def HY (fin:ay→List au→Bool)(r:aC)(k:Nat)(kind:Int):Option (List au):=
 if (ry r k kind).2.2.2≠0 then none else (List.range 4).findSome? fun n=>uu r (mO r k) (ob r (mO r k)) fin n (ry r k kind).2.1 []
noncomputable def j8 (r:aC)(k:Nat)(kind:Int):Option (List au):=HY (lK r (behind (ou r k kind) (nr r k kind))) r k kind
theorem sF.wl {r:aC}{k:Nat}{kind:Int}(h:sF r k kind):mO r k<r.ae.length:=by
 unfold mO;rw [h.get];exact(h.run.ab _ (List.getElem_mem h.lt)).wl
theorem sF.uq {r:aC}{k:Nat}{kind:Int}(h:sF r k kind):((r.wide*r.deep).toNat:Int)=r.wide*r.deep∧0<(r.wide*r.deep).toNat∧(r.wide*r.deep).toNat≤36:=by
 have:=h.room.uq;omega
theorem HZ {r:aC}{w:Nat}(ha:0≤r.wide*r.deep)(hw:w<r.ae.length){a:au}(h:a∈ob r w):AB r w a∧a.bR=0∧a.dQ=0∧a.mH=0:=
 mP (n:=(r.wide*r.deep).toNat) (by omega) hw h
noncomputable def Au (r:aC)(act kind:Int):PV:= .tuple (if E9 r act kind≠0 then [.slice [], .int .i64 (E9 r act kind)]else match j8 r act.toNat kind with|some l=> [.slice (l.map au.row), .int .i64 0]|none=> [.slice [], .int .i64 7])
noncomputable def rz (r:aC)(i:Nat)(x:Int):Bool:=decide (x=2∧(r.aj.getD i cI).kind=1)||(j8 r i x).isSome
noncomputable def rA (r:aC)(i:Nat)(l:List Int):Option (Int×Int):=l.findSome? fun x=>if rz r i x=true then none else some ((i:Int),x)
noncomputable def oM (r:aC)(k i:Nat):Option (Int×Int):=(List.range' i k).findSome? fun i=>rA r i r.a7
noncomputable def vn (r:aC):PV:= .tuple (if mg r≠0 then [.int .i64 0, .int .i64 0, .int .i64 (mg r)]else match oM r r.aj.length 0 with|some (i,x)=> [.int .i64 i, .int .i64 x, .int .i64 0]|none=> [.int .i64 (-1), .int .i64 0, .int .i64 0])
theorem D6 {r:aC}(h:mg r=0){i:Nat}(hi:i<r.aj.length){x:Int}(hx:1≤x∧x≤3)(hk: ¬(x=2∧(r.aj.getD i cI).kind=1)):E9 r i x=0:=by
 rw [rq,if_neg (by simpa using h),if_neg (by have:cV (i:Int) 0 ((r.aj.length:Int)-1)=true:=pz.2 ⟨by omega,by omega⟩;simp [this]),if_neg (by have:cV x 1 3=true:=pz.2 hx;simp [this]),if_neg (by simpa using hk)]
end
section
variable {c:Nat} {H:ai}
@[simp] theorem Sh {cs:List PV}:canon (.bX cs)= .bX cs:= .trans rfl rfl
theorem nu {G:ai}{nm:Nm}(h:nm.1<G.length): ∀pre:ai,ai.get (pre++G) nm=ai.get G nm
 | []=>rfl
 |X::pre=>by
  show ai.get (X::(pre++G)) nm=_
  rw [ai.fb,if_neg (by simp;omega),nu h pre]
structure Av (nm:Nm)(n0:Nat)(α:Type)(C:α→ai)(ps:au→Bool)(cont:au→α→Bool)(next:au→α→α)(ok:α→Prop)(A:au→Prop):Prop where
 pos:0<n0
 lp:nm.1<n0
 len: ∀a,(C a).length=n0
 gr: ∀(x:au) (a:α) (pre:ai),A x→ps x=true→ok a→ground (aF KC) nm [.pure (.agg x.row)] (pre++C a)=some (.pure (.bool (cont x a)),pre++C (next x a))
 Y2: ∀(x:au) (a:α),A x→ok a→cont x a=true→ok (next x a)
def fq {α:Type}(pos:au→Bool)(cont:au→α→Bool)(next:au→α→α):List au→α→α×Bool
 | [],a=>(a,true)
 |x::l,a=>if pos x=true then (if cont x a=true then fq pos cont next l (next x a)else (next x a,false))else fq pos cont next l a
theorem jj {α:Type}{pos:au→Bool}{cont:au→α→Bool}{next:au→α→α}: ∀(l m:List au) (a:α),fq pos cont next (l++m) a=if (fq pos cont next l a).2=true then fq pos cont next m (fq pos cont next l a).1 else fq pos cont next l a
 | [],m,a=>by simp [fq]
 |x::l,m,a=>by
  simp only [List.cons_append,fq];split
  ·split
   ·exact jj l m _
   ·simp
  ·exact jj l m a
section
variable {r:aC} {s:ay} {w:Nat} {nm:Nm} {n0:Nat} {α:Type} {C:α→ai} {cont:au→α→Bool} {next:au→α→α} {ok:α→Prop} {A:au→Prop} (hC:Av nm n0 α C (bV r s w) cont next ok A) (hS:fB r s) (hW:WB r) (hA: ∀x,A x→AB r w x)
include hC hS hW hA
theorem uE {F0:Fr}(f3:F0.get 3=some (.box [.yield nm])){x:au}(hx:A x){a:α}(ha:ok a)(pre:ai):
  aN KC (aF KC) 133 [.pure (.agg x.row), .bX (aP r s), .aA (n0,3) 0] c (pre++F0::C a)=
   some (.pure (.bool (if bV r s w x=true then cont x a else true)),pre++F0::C (if bV r s w x=true then next x a else a)):=by
 refine aM (ba KC aw Tryz.func133 rfl rfl K4 rfl rfl rfl (by simp) (by simp;omega) ?_);have hlen:=hC.len;have g3:ai.get (pre++F0::C a) (n0,3)=some (.box [.yield nm]):=by
  rw [nu (by simp [hlen])];rw [ai.fb,if_pos (by simp [hlen])];exact f3
 have M:=fun(c:Nat) (H:ai) (hH:0<H.length)=>yM (c:=c) (H:=H) hS hW (hA x hx) hH;have G:=fun hp=>hC.gr x a ([(3, .box (x.row.map .pure))]::(pre++[F0])) hx hp ha;simp only [List.cons_append,List.append_assoc,List.nil_append]at G;have ne: ¬n0=pre.length+(n0+1):=(by omega);rw [bH]at G;rw [aP,bH]at M;rw [aP,bH]
 cases hp:bV r s w x with
 |true=>
  have G:=G hp;simp at G;simp [g3,hlen,ne,M,hp,G,ah]
 |false=>simp [g3,hlen,ne,M,hp,ah]
end
end
section
variable {c:Nat} {H:ai}
def j9 (r:aC)(s:ay)(n0:Nat):GV:= .func 133 [] [.bX (aP r s), .aA (n0,3) 0]
section
variable {r:aC} {s:ay} {n0:Nat}
theorem jI {G:ai}{l0:Nat}(h:n0≤l0):clean G l0 (j9 r s n0)=j9 r s n0:=by
 show iH G l0 (.func _ [] [_,_])=_
 have e:dF l0 ([]:List GV)=true:=rfl;have e2:dF l0 [.bX (aP r s), .aA (n0,3) 0]=true:=(by simp [dF,h]);show (if (dF l0 [] && dF l0 [.bX (aP r s), .aA (n0,3) 0])=true then _ else _)=_
 rw [e,e2];rfl
theorem fe {rec:Rec}{x:GV}{c:Nat}{G:ai}:dM KC rec (j9 r s n0) [x] c G=aN KC rec 133 [x, .bX (aP r s), .aA (n0,3) 0] c G:=rfl
end
section
variable {r:aC} {s:ay} {w:Nat} {nm:Nm} {n0:Nat} {α:Type} {C:α→ai} {cont:au→α→Bool} {next:au→α→α} {ok:α→Prop} {A:au→Prop} (hC:Av nm n0 α C (bV r s w) cont next ok A) (hS:fB r s) (hW:WB r) (hA: ∀x,A x→AB r w x)
include hC hS hW hA
theorem Cp {F0:Fr}(f3:F0.get 3=some (.box [.yield nm])){n:Nat}(hn:n≤1000000)(hall: ∀x∈gS w n 0,A x)(Q:GX→bM→Prop): ∀(k i:Nat) (a:α),i+k=n→ok a→
  (∀a',fq (bV r s w) cont next (gS w k i) a=(a',true)→ok a'→Q (.exit 2) ⟨[(1, .bX (aP r s)),(2, .bX [.int .i64 w]),(4,j9 r s n0),(5, .pure (.int .i64 1))],[]::F0::C a',79⟩)→
  (∀a',fq (bV r s w) cont next (gS w k i) a=(a',false)→Q .ret ⟨[(1, .bX (aP r s)),(2, .bX [.int .i64 w]),(4,j9 r s n0),(5, .pure (.int .i64 1))],[]::F0::C a',79⟩)→
  gZ KC aw 132 (lp Tryz.f132 1) [1,2,4,5,18,19] [1,2,4,5] Q
   [(1, .bX (aP r s)),(2, .bX [.int .i64 w]),(4,j9 r s n0),(5, .pure (.int .i64 1)),(18, .pure (.int .i64 n)),(19, .pure (.int .i64 i))] ([]::F0::C a) 79:=by
 have hlen:=hC.len;have CL:=fun(G:ai) (l0:Nat) (h:n0≤l0)=>jI (r:=r) (s:=s) (G:=G) h;have c1:=fun G=>CL G n0 (by omega);have c2:=fun G=>CL G (n0+1) (by omega);intro k
 induction k with
 |zero=>
  intro i a hk ho h1 _;have h1':=h1 a rfl ho;have hnl: ¬i<n:=(by omega);apply az;conv=>arg 4;whnf
  simp [hnl,hlen,c1,c2];simpa using h1'
 |succ k ih=>
  intro i a hk ho h1 h2;have hil:i<n:=(by omega);have hw:=c8 (x:=(i:Int)+1) (by omega) (by omega)
  have hx:A (bW w 1 0 0 i 0):=hall _ (by
   unfold gS;exact List.mem_map.2 ⟨i,by simp [List.mem_range'];omega,rfl⟩)
  have HO:=fun(c:Nat)=>uE (c:=c) hC hS hW hA f3 hx ho [[],[]];rw [qm]at h1 h2;simp only [fq]at h1 h2;simp only [List.cons_append,List.nil_append]at HO;generalize hB:bV r s w (bW w 1 0 0 i 0)=b at HO h1 h2;have hrow:(bW w 1 0 0 i 0).row=[.int .i64 0, .int .i64 w, .int .i64 1, .int .i64 0, .int .i64 0, .int .i64 i, .int .i64 0, .int .i64 0, .int .i64 0]:=rfl;rw [hrow]at HO;apply az;conv=>arg 4;whnf
  cases b with
  |false=>
   simp only [Bool.false_eq_true,if_false]at HO h1 h2;have ih':=ih (i+1) a (by omega) ho h1 h2;simp [hil,hlen,c1,c2,fe,HO,hw];simpa using ih'
  |true=>
   simp only [if_true]at HO h1 h2
   cases hc:cont (bW w 1 0 0 i 0) a with
   |true=>
    rw [hc]at HO h1 h2;simp only [if_true]at h1 h2;have ih':=ih (i+1) (next (bW w 1 0 0 i 0) a) (by omega) (hC.Y2 _ _ hx ho hc) h1 h2
    simp [hil,hlen,c1,c2,fe,HO,hw];simpa using ih'
   |false=>
    rw [hc]at HO h1 h2;have h2':=h2 _ rfl;simp [hil,hlen,c1,c2,fe,HO,hw];simpa using h2'
def aB (x:au):Fr:=[(8, .box [.pure (.int .i64 x.bR), .pure (.int .i64 x.aR), .pure (.int .i64 x.kind), .pure (.int .i64 x.hand), .pure (.int .i64 x.bf), .pure (.int .i64 x.cell), .pure (.int .i64 x.other), .pure (.int .i64 x.dQ), .pure (.int .i64 x.mH)])]
theorem Aw {F0:Fr}(f3:F0.get 3=some (.box [.yield nm])){n h:Nat}(hn:n≤1000000)(hall: ∀x∈ig w h n 0,A x)(Q:GX→bM→Prop): ∀(k i:Nat) (t:Int) (a:α),i+k=n→ok a→
  (∀a' t',fq (bV r s w) cont next (ig w h k i) a=(a',true)→ok a'→Q (.exit 7) ⟨[(1, .bX (aP r s)),(2, .bX [.int .i64 w]),(4,j9 r s n0),(5, .pure (.int .i64 2)),(30, .pure (.int .i64 h))],aB (bW w 2 h t' 0 0)::[]::F0::C a',79⟩)→
  (∀a' F1,fq (bV r s w) cont next (ig w h k i) a=(a',false)→Q .ret ⟨[(1, .bX (aP r s)),(2, .bX [.int .i64 w]),(4,j9 r s n0),(5, .pure (.int .i64 2)),(30, .pure (.int .i64 h))],F1::[]::F0::C a',79⟩)→
  gZ KC aw 132 (lp Tryz.f132 3) [1,2,4,5,8,30,47,48] [1,2,4,5,30] Q
   [(1, .bX (aP r s)),(2, .bX [.int .i64 w]),(4,j9 r s n0),(5, .pure (.int .i64 2)),(8, .aA (n0+2,8) 0),(30, .pure (.int .i64 h)),(47, .pure (.int .i64 n)),(48, .pure (.int .i64 i))] (aB (bW w 2 h t 0 0)::[]::F0::C a) 79:=by
 have hlen:=hC.len;have CL:=fun(G:ai) (l0:Nat) (h:n0≤l0)=>jI (r:=r) (s:=s) (G:=G) h;have c1:=fun G=>CL G (n0+1) (by omega);have c2:=fun G=>CL G (n0+2) (by omega);have ne1: ¬n0+2=n0+3:=(by omega);intro k
 induction k with
 |zero=>
  intro i t a hk ho h1 _;have h1':=h1 a t rfl ho;have hnl: ¬i<n:=(by omega);apply az;conv=>arg 4;whnf
  simp [hnl,hlen,c1,c2];simpa using h1'
 |succ k ih=>
  intro i t a hk ho h1 h2;have hil:i<n:=(by omega);have hw:=c8 (x:=(i:Int)+1) (by omega) (by omega)
  have hx:A (bW w 2 h i 0 0):=hall _ (by
   unfold ig;exact List.mem_map.2 ⟨i,by simp [List.mem_range'];omega,rfl⟩)
  have HO:=fun(c:Nat)=>uE (c:=c) hC hS hW hA f3 hx ho [[],aB (bW w 2 h i 0 0),[]];rw [tD]at h1 h2;simp only [fq]at h1 h2;simp only [List.cons_append,List.nil_append]at HO;generalize hB:bV r s w (bW w 2 h i 0 0)=b at HO h1 h2;have hrow:(bW w 2 h i 0 0).row=[.int .i64 0, .int .i64 w, .int .i64 2, .int .i64 h, .int .i64 i, .int .i64 0, .int .i64 0, .int .i64 0, .int .i64 0]:=rfl;rw [hrow]at HO;simp only [aB,bW]at HO ih⊢;apply az;conv=>arg 4;whnf
  cases b with
  |false=>
   simp only [Bool.false_eq_true,if_false]at HO h1 h2;have ih':=ih (i+1) i a (by omega) ho h1 h2;simp [hil,hlen,c1,c2,ne1,fe,HO,hw];simpa using ih'
  |true=>
   simp only [if_true]at HO h1 h2
   cases hc:cont (bW w 2 h i 0 0) a with
   |true=>
    rw [hc]at h1 h2;simp only [bW]at hc;rw [hc]at HO;simp only [if_true]at h1 h2;have ih':=ih (i+1) i (next (bW w 2 h i 0 0) a) (by omega) (hC.Y2 _ _ hx ho hc) h1 h2
    simp only [bW]at ih';simp [hil,hlen,c1,c2,ne1,fe,HO,hw];simpa using ih'
   |false=>
    rw [hc]at h1 h2;have h2':=h2 _ [(8, .box [.pure (.int .i64 0), .pure (.int .i64 w), .pure (.int .i64 2), .pure (.int .i64 h), .pure (.int .i64 i), .pure (.int .i64 0), .pure (.int .i64 0), .pure (.int .i64 0), .pure (.int .i64 0)])] rfl;simp only [bW]at hc h2';rw [hc]at HO;simp [hil,hlen,c1,c2,ne1,fe,HO,hw];simpa using h2'
theorem Ax {F0:Fr}(f3:F0.get 3=some (.box [.yield nm])){n h:Nat}(hn:n≤1000000)(hall: ∀x∈gd w h n 0,A x)(Q:GX→bM→Prop): ∀(k i:Nat) (t:Int) (a:α),i+k=n→ok a→
  (∀a' t',fq (bV r s w) cont next (gd w h k i) a=(a',true)→ok a'→Q (.exit 9) ⟨[(1, .bX (aP r s)),(2, .bX [.int .i64 w]),(4,j9 r s n0),(5, .pure (.int .i64 4)),(30, .pure (.int .i64 h))],aB (bW w 4 h 0 0 t')::[]::F0::C a',79⟩)→
  (∀a' F1,fq (bV r s w) cont next (gd w h k i) a=(a',false)→Q .ret ⟨[(1, .bX (aP r s)),(2, .bX [.int .i64 w]),(4,j9 r s n0),(5, .pure (.int .i64 4)),(30, .pure (.int .i64 h))],F1::[]::F0::C a',79⟩)→
  gZ KC aw 132 (lp Tryz.f132 4) [1,2,4,5,8,30,62,63] [1,2,4,5,30] Q
   [(1, .bX (aP r s)),(2, .bX [.int .i64 w]),(4,j9 r s n0),(5, .pure (.int .i64 4)),(8, .aA (n0+2,8) 0),(30, .pure (.int .i64 h)),(62, .pure (.int .i64 n)),(63, .pure (.int .i64 i))] (aB (bW w 4 h 0 0 t)::[]::F0::C a) 79:=by
 have hlen:=hC.len;have CL:=fun(G:ai) (l0:Nat) (h:n0≤l0)=>jI (r:=r) (s:=s) (G:=G) h;have c1:=fun G=>CL G (n0+1) (by omega);have c2:=fun G=>CL G (n0+2) (by omega);have ne1: ¬n0+2=n0+3:=(by omega);intro k
 induction k with
 |zero=>
  intro i t a hk ho h1 _;have h1':=h1 a t rfl ho;have hnl: ¬i<n:=(by omega);apply az;conv=>arg 4;whnf
  simp [hnl,hlen,c1,c2];simpa using h1'
 |succ k ih=>
  intro i t a hk ho h1 h2;have hil:i<n:=(by omega);have hw:=c8 (x:=(i:Int)+1) (by omega) (by omega);by_cases hiw:(i:Int)=w
  ·rw [oN,if_pos hiw]at h1 h2;have ih':=ih (i+1) i a (by omega) ho h1 h2;have hiw2:i=w:=(by omega);subst hiw2;simp only [aB,bW]at ih'⊢;apply az;conv=>arg 4;whnf
   simp [hil,hlen,c1,c2,ne1,hw];simpa using ih'
  ·have hiw':((i:Int)==(w:Int))=false:=by simpa using hiw
   have hx:A (bW w 4 h 0 0 i):=hall _ (by
    unfold gd;exact List.mem_map.2 ⟨i,List.mem_filter.2 ⟨by simp [List.mem_range'];omega,by simpa using hiw⟩,rfl⟩)
   have HO:=fun(c:Nat)=>uE (c:=c) hC hS hW hA f3 hx ho [[],aB (bW w 4 h 0 0 i),[]];rw [oN,if_neg hiw]at h1 h2;simp only [fq]at h1 h2;simp only [List.cons_append,List.nil_append]at HO;generalize hB:bV r s w (bW w 4 h 0 0 i)=b at HO h1 h2;have hrow:(bW w 4 h 0 0 i).row=[.int .i64 0, .int .i64 w, .int .i64 4, .int .i64 h, .int .i64 0, .int .i64 0, .int .i64 i, .int .i64 0, .int .i64 0]:=rfl;rw [hrow]at HO;simp only [aB,bW]at HO ih⊢;apply az;conv=>arg 4;whnf
   cases b with
   |false=>
    simp only [Bool.false_eq_true,if_false]at HO h1 h2;have ih':=ih (i+1) i a (by omega) ho h1 h2;simp [hil,hlen,c1,c2,ne1,fe,HO,hw,hiw,hiw'];simpa using ih'
   |true=>
    simp only [if_true]at HO h1 h2
    cases hc:cont (bW w 4 h 0 0 i) a with
    |true=>
     rw [hc]at h1 h2;simp only [bW]at hc;rw [hc]at HO;simp only [if_true]at h1 h2;have ih':=ih (i+1) i (next (bW w 4 h 0 0 i) a) (by omega) (hC.Y2 _ _ hx ho hc) h1 h2
     simp only [bW]at ih';simp [hil,hlen,c1,c2,ne1,fe,HO,hw,hiw,hiw'];simpa using ih'
    |false=>
     rw [hc]at h1 h2;have h2':=h2 _ [(8, .box [.pure (.int .i64 0), .pure (.int .i64 w), .pure (.int .i64 4), .pure (.int .i64 h), .pure (.int .i64 0), .pure (.int .i64 0), .pure (.int .i64 i), .pure (.int .i64 0), .pure (.int .i64 0)])] rfl;simp only [bW]at hc h2';rw [hc]at HO;simp [hil,hlen,c1,c2,ne1,fe,HO,hw,hiw,hiw'];simpa using h2'
end
end
section
variable {c:Nat} {H:ai}
def w8 (r:aC)(w kind:Nat)(k h:Nat):List au:=(List.range' h k).flatMap fun(h:Nat)=>gC r.aa.length r.ae.length w kind h
theorem sG (r:aC)(w kind k h:Nat):w8 r w kind (k+1) h=gC r.aa.length r.ae.length w kind h++w8 r w kind k (h+1):=by simp [w8,List.range'_succ]
theorem xz (r:aC)(w kind:Nat):w8 r w kind 2 0=oc r.aa.length r.ae.length w kind:=by
 rw [sG,sG];simp [w8,oc]
section
variable {r:aC} {s:ay} {w:Nat} {nm:Nm} {n0:Nat} {α:Type} {C:α→ai} {cont:au→α→Bool} {next:au→α→α} {ok:α→Prop} {A:au→Prop} (hC:Av nm n0 α C (bV r s w) cont next ok A) (hS:fB r s) (hW:WB r) (hA: ∀x,A x→AB r w x)
include hC hS hW hA
theorem Ay {F0:Fr}(f3:F0.get 3=some (.box [.yield nm])){kind:Nat}(hk1:kind≠1)(hk:kind≤8)(hall: ∀x∈w8 r w kind 2 0,A x)(Q:GX→bM→Prop): ∀(k h:Nat) (a:α),h+k=2→ok a→
  (∀a',fq (bV r s w) cont next (w8 r w kind k h) a=(a',true)→ok a'→Q (.exit 4) ⟨[(1, .bX (aP r s)),(2, .bX [.int .i64 w]),(4,j9 r s n0),(5, .pure (.int .i64 kind))],[]::F0::C a',79⟩)→
  (∀a',fq (bV r s w) cont next (w8 r w kind k h) a=(a',false)→Q .ret ⟨[(1, .bX (aP r s)),(2, .bX [.int .i64 w]),(4,j9 r s n0),(5, .pure (.int .i64 kind))],[]::F0::C a',79⟩)→
  gZ KC aw 132 (lp Tryz.f132 2) [1,2,4,5,30] [1,2,4,5] Q
   [(1, .bX (aP r s)),(2, .bX [.int .i64 w]),(4,j9 r s n0),(5, .pure (.int .i64 kind)),(30, .pure (.int .i64 h))] ([]::F0::C a) 79:=by
 have hlen:=hC.len;have CL:=fun(G:ai) (l0:Nat) (h:n0≤l0)=>jI (r:=r) (s:=s) (G:=G) h;have c0:=fun G=>CL G n0 (by omega);have c1:=fun G=>CL G (n0+1) (by omega);have c2:=fun G=>CL G (n0+2) (by omega);intro k
 induction k with
 |zero=>
  intro h a hk ho h1 _;have h1':=h1 a rfl ho;have hnl: ¬h<2:=(by omega);have hnl': ¬(h:Int)<2:=(by omega);apply az;conv=>arg 4;whnf
  simp [hnl,hnl',hlen,c0,c1,c2];simpa using h1'
 |succ k ih=>
  intro h a hkh ho h1 h2;have hil:h<2:=(by omega);have hil':(h:Int)<2:=(by omega);have hw:=c8 (x:=(h:Int)+1) (by omega) (by omega);rw [sG,jj]at h1 h2
  have hsub: ∀x∈gC r.aa.length r.ae.length w kind h,A x:=fun x hx=>hall x (by
   unfold w8;exact List.mem_flatMap.2 ⟨h,by simp [List.mem_range'];omega,hx⟩)
  have hsl:3≤(aP r s).length:=by show 3≤10;omega
  have hsl2:2≤(aP r s).length:=by show 2≤10;omega
  have hpt:List.drop 3 (aP r s)= .slice (r.aa.map a8.row)::List.drop 4 (aP r s):=rfl;have hpp:List.drop 2 (aP r s)= .slice (r.ae.map aV.row)::List.drop 3 (aP r s):=rfl;by_cases k2:kind=2
  ·subst k2;have ek:gC r.aa.length r.ae.length w 2 h=ig w h r.aa.length 0:=rfl;rw [ek]at hsub h1 h2;have L:=fun Q t h1 h2=>Aw hC hS hW hA f3 (n:=r.aa.length) (h:=h) hW.tl hsub Q r.aa.length 0 t a (by omega) ho h1 h2;simp only [aB,bW]at L;apply az;conv=>arg 4;whnf
   simp [hil,hil',hlen,c0,c1,c2,hsl,hsl2,hpt,hpp];refine L _ _ (fun a' t' e ho'=> ?_) (fun a' F1 e=> ?_)
   ·rw [e]at h1 h2;simp only [if_true]at h1 h2;have ih':=ih (h+1) a' (by omega) ho' h1 h2;simp [hlen,c0,c1,c2,hw];simpa using ih'
   ·rw [e]at h2;have h2':=h2 a' rfl;simp [hlen,c0,c1,c2];simpa using h2'
  ·have k2':((kind:Int)==2)=false:=(by simp;omega);by_cases k4:kind=4
   ·subst k4;have ek:gC r.aa.length r.ae.length w 4 h=gd w h r.ae.length 0:=rfl;rw [ek]at hsub h1 h2;have L:=fun Q t h1 h2=>Ax hC hS hW hA f3 (n:=r.ae.length) (h:=h) hW.pl hsub Q r.ae.length 0 t a (by omega) ho h1 h2;simp only [aB,bW]at L;apply az;conv=>arg 4;whnf
    simp [hil,hil',hlen,c0,c1,c2,hsl,hsl2,hpt,hpp];refine L _ _ (fun a' t' e ho'=> ?_) (fun a' F1 e=> ?_)
    ·rw [e]at h1 h2;simp only [if_true]at h1 h2;have ih':=ih (h+1) a' (by omega) ho' h1 h2;simp [hlen,c0,c1,c2,hw];simpa using ih'
    ·rw [e]at h2;have h2':=h2 a' rfl;simp [hlen,c0,c1,c2];simpa using h2'
   ·have k4':((kind:Int)==4)=false:=(by simp;omega);have ek:gC r.aa.length r.ae.length w kind h=[bW w kind h 0 0 0]:=(by unfold gC;rw [if_neg k2,if_neg k4]);rw [ek]at hsub h1 h2;have hx:=hsub _ (List.mem_singleton.2 rfl);have HO:=fun(c:Nat)=>uE (c:=c) hC hS hW hA f3 hx ho [aB (bW w kind h 0 0 0),[]];simp only [fq]at h1 h2;simp only [List.cons_append,List.nil_append]at HO;have hrow:(bW w kind h 0 0 0).row=[.int .i64 0, .int .i64 w, .int .i64 kind, .int .i64 h, .int .i64 0, .int .i64 0, .int .i64 0, .int .i64 0, .int .i64 0]:=rfl;rw [hrow]at HO;apply az;conv=>arg 4;whnf
    cases hB:bV r s w (bW w kind h 0 0 0)with
    |false=>
     simp only [hB,Bool.false_eq_true,if_false,if_true]at HO h1 h2;have ih':=ih (h+1) a (by omega) ho h1 h2;simp only [aB,bW]at HO;simp [hil,hil',hlen,c0,c1,c2,k2',k4',fe,HO,hw];simpa using ih'
    |true=>
     simp only [hB,if_true]at HO h1 h2
     cases hc:cont (bW w kind h 0 0 0) a with
     |true=>
      simp only [hc,if_true]at HO h1 h2;have ih':=ih (h+1) (next (bW w kind h 0 0 0) a) (by omega) (hC.Y2 _ _ hx ho hc) h1 h2
      simp only [aB,bW]at HO ih';simp [hil,hil',hlen,c0,c1,c2,k2',k4',fe,HO,hw];simpa using ih'
     |false=>
      simp only [hc,Bool.false_eq_true,if_false]at HO h2;have h2':=h2 _ rfl;simp only [aB,bW]at HO h2';simp [hil,hil',hlen,c0,c1,c2,k2',k4',fe,HO,hw];simpa using h2'
end
end
section
variable {c:Nat} {H:ai}
section
variable {r:aC} {s:ay} {w:Nat} {nm:Nm} {n0:Nat} {α:Type} {C:α→ai} {cont:au→α→Bool} {next:au→α→α} {ok:α→Prop} {A:au→Prop} (hC:Av nm n0 α C (bV r s w) cont next ok A) (hS:fB r s) (hW:WB r) (hA: ∀x,A x→AB r w x)
include hC hS hW hA
theorem Az {F0:Fr}(f3:F0.get 3=some (.box [.yield nm]))(hall: ∀x∈eJ r.aa.length r.ae.length w 7 2,A x)(Q:GX→bM→Prop): ∀(k i:Nat) (a:α),i+k=9→2≤i→ok a→
  (∀a',fq (bV r s w) cont next (eJ r.aa.length r.ae.length w k i) a=(a',true)→ok a'→Q (.exit 0) ⟨[],F0::C a',79⟩)→
  (∀a',fq (bV r s w) cont next (eJ r.aa.length r.ae.length w k i) a=(a',false)→Q .ret ⟨[],F0::C a',79⟩)→
  gZ KC aw 132 (lp Tryz.f132 0) [1,2,4,5] [] Q
   [(1, .bX (aP r s)),(2, .bX [.int .i64 w]),(4,j9 r s n0),(5, .pure (.int .i64 i))] (F0::C a) 79:=by
 have hlen:=hC.len;have CL:=fun(G:ai) (l0:Nat) (h:n0≤l0)=>jI (r:=r) (s:=s) (G:=G) h;have c0:=fun G=>CL G n0 (by omega);have c1:=fun G=>CL G (n0+1) (by omega);intro k
 induction k with
 |zero=>
  intro i a hk hi ho h1 _;have h1':=h1 a rfl ho;have hnl': ¬(i:Int)≤8:=(by omega);apply az;conv=>arg 4;whnf
  simp [hnl',hlen,c0,c1];simpa using h1'
 |succ k ih=>
  intro i a hk hi ho h1 h2;have hil':(i:Int)≤8:=(by omega);have hi1:((i:Int)==1)=false:=(by simp;omega);have hw:=c8 (x:=(i:Int)+1) (by omega) (by omega);rw [oO,jj,←xz]at h1 h2
  have hsub: ∀x∈w8 r w i 2 0,A x:=fun x hx=>hall x (by
   unfold eJ;rw [xz]at hx;exact List.mem_flatMap.2 ⟨i,List.mem_range'_1.2 ⟨hi,by omega⟩,hx⟩)
  have L:=fun Q h1 h2=>Ay hC hS hW hA f3 (kind:=i) (by omega) (by omega) hsub Q 2 0 a rfl ho h1 h2;apply az;conv=>arg 4;whnf
  simp [hil',hi1,hlen,c0,c1];refine L _ (fun a' e ho'=> ?_) (fun a' e=> ?_)
  ·rw [e]at h1 h2;simp only [if_true]at h1 h2;have ih':=ih (i+1) a' (by omega) (by omega) ho' h1 h2;simp [hlen,c0,c1,hw];simpa using ih'
  ·rw [e]at h2;have h2':=h2 a' rfl;simp [hlen,c0,c1];simpa using h2'
theorem yR {n:Nat}(hn:IntKind.i64.wrap (r.wide*r.deep)=n)(hn0:n≤1000000)(hall: ∀x∈bK n r.aa.length r.ae.length w,A x){a:α}(ha:ok a):
  aN KC (aF KC) 132 [.yield nm, .bX (aP r s), .bX [.int .i64 w]] c (C a)=some (.pure (.tuple []),C (fq (bV r s w) cont next (bK n r.aa.length r.ae.length w) a).1):=by
 have hlen:=hC.len;have hpos:=hC.pos;refine aM (ba KC aw Tryz.func132 rfl rfl K5 rfl rfl rfl (by simp) (by rw [hlen];exact hpos) ?_);have CL:=fun(G:ai) (l0:Nat) (h:n0≤l0)=>jI (r:=r) (s:=s) (G:=G) h;have c0:=fun G=>CL G n0 (by omega);have c1:=fun G=>CL G (n0+1) (by omega);have f3:Fr.get [(3, .box [.yield nm])] 3=some (.box [.yield nm]):=rfl;have es:bK n r.aa.length r.ae.length w=gS w n 0++eJ r.aa.length r.ae.length w 7 2:=rfl;rw [es]at hall⊢;rw [jj];have h1: ∀x∈gS w n 0,A x:=fun x hx=>hall x (List.mem_append_left _ hx);have h2: ∀x∈eJ r.aa.length r.ae.length w 7 2,A x:=fun x hx=>hall x (List.mem_append_right _ hx);have L1:=fun Q q1 q2=>Cp hC hS hW hA f3 hn0 h1 Q n 0 a (by omega) ha q1 q2;have hlp:=hC.lp;have hm:=fun(c:Nat) (H:ai) (hH:0<H.length)=>AA (c:=c) (H:=H) (hH:=hH) (w:=r.wide) (d:=r.deep) (x1:= .slice (r.ae.map aV.row)) (x2:= .slice (r.aa.map a8.row)) (x3:= .slice (r.seen.map aD)) (x4:= .slice (r.a7.map aD)) (x5:= .slice (r.aj.map au.row));have hsl:(aP r s).length=10:=rfl;have hpp:List.take 7 (aP r s)=[.int .i64 r.wide, .int .i64 r.deep, .slice (r.ae.map aV.row), .slice (r.aa.map a8.row), .slice (r.seen.map aD), .slice (r.a7.map aD), .slice (r.aj.map au.row)]:=rfl;simp [hlen];rw [show GV.func 133 [] [.bX (aP r s), .aA (n0,3) 0]=j9 r s n0 from rfl]
 apply az;conv=>arg 4;whnf
 simp [hlen,c0,c1,hm,hsl,hpp,hn];refine L1 _ (fun a' e ho'=> ?_) (fun a' e=> ?_)
 ·rw [e];simp only [if_true];have L2:=fun Q q1 q2=>Az hC hS hW hA f3 h2 Q 7 2 a' rfl (Nat.le_refl _) ho' q1 q2;simp [hlen,c0,c1];refine L2 _ (fun a2 e2 ho2=> ?_) (fun a2 e2=> ?_)
  ·rw [e2];simp [ah,hlen]
  ·rw [e2];simp [ah,hlen]
 ·rw [e];simp [ah,hlen,c0,c1]
end
theorem H4 {r:aC}{s:ay}{w:Nat}(hH:0<H.length):
  aN KC (aF KC) 117 [.pure (.agg (aP r s)), .pure (.int .i64 w)] c H=some (.func 132 [] [.bX (aP r s), .bX [.int .i64 w]],H):=by
 refine aM (ba KC aw Tryz.func117 rfl rfl K6 rfl rfl rfl (by simp) hH ?_);have h1: ¬H.length≤H.length-1:=(by omega);rw [aP];simp;rw [ah (by simp)];simp [clean,iH,dF,pX,rB,h1,bp,canon,cg]
end
section
variable {c:Nat} {H:ai}
noncomputable def gT:aC→Nat→ay→Bool:=ov fun r w s=>r.seen.contains (s.ae.getD w 0)
theorem sH (r:aC)(w:Nat)(s:ay):gT r w s=r.seen.contains (s.ae.getD w 0):=by rw [gT,cN]
theorem xA {r:aC}{w:Nat}{s:ay}{a:au}(hk:1≤a.kind∧a.kind≤8)(hw:w<s.ae.length):sI r s w a=(bV r s w a && !(gT r w s||gT r w (dn s w a))):=by
 have e:(dn s w a).ae.getD w 0=if a.kind=1 then a.cell else s.ae.getD w 0:=by
  by_cases k1:a.kind=1
  ·rw [if_pos k1,lT k1];simp [List.getD_eq_getElem?_getD,hw]
  ·rw [if_neg k1,vo hk k1]
 rw [rC,sH,sH,e,ke];congr 2;rw [Bool.eq_iff_iff];simp;constructor
 ·rintro⟨x,h1,h2|h2⟩
  ·exact Or.inl (h2▸h1)
  ·exact Or.inr (h2▸h1)
 ·rintro(h|h)
  ·exact⟨_,h,Or.inl rfl⟩
  ·exact⟨_,h,Or.inr rfl⟩
noncomputable def ij (r:aC)(w:Nat)(all:List au)(fin:ay→List au→Bool):Nat→ay→List au→GV→GV×Bool
 |0,s,l,g=>(.pure (.slice (l.map au.row)),fin s l)
 |n+1,s,l,g=>if gT r w s=true then (g,false)else
  (fq (bV r s w) (fun x (a:GV×Bool)=>if gT r w (dn s w x)=true then true else !(ij r w all fin n (dn s w x) (l++[x]) a.1).2)
   (fun x (a:GV×Bool)=>if gT r w (dn s w x)=true then a else ij r w all fin n (dn s w x) (l++[x]) a.1) all (g,false)).1
theorem D7 {r:aC}{w:Nat}{all:List au}{fin:ay→List au→Bool}(hab: ∀x∈all,AB r w x): ∀(n:Nat) (s:ay) (l:List au) (g:GV),fB r s→
  (ij r w all fin n s l g).2=(uu r w all fin n s l).isSome∧ ∀x,uu r w all fin n s l=some x→(ij r w all fin n s l g).1= .pure (.slice (x.map au.row))
 |0,s,l,g,_=>by
  unfold ij uu
  cases fin s l with
  |true=>exact⟨rfl,fun x e=>by cases e;rfl⟩
  |false=>exact⟨rfl,fun x e=>by cases e⟩
 |n+1,s,l,g,hS=>by
  unfold ij uu
  have hf: ∀(all':List au),(∀x∈all',AB r w x)→ ∀g:GV,gT r w s=false→
    let q:=(fq (bV r s w) (fun x (a:GV×Bool)=>if gT r w (dn s w x)=true then true else !(ij r w all fin n (dn s w x) (l++[x]) a.1).2)
     (fun x (a:GV×Bool)=>if gT r w (dn s w x)=true then a else ij r w all fin n (dn s w x) (l++[x]) a.1) all' (g,false)).1
    let o:=all'.findSome? fun a=>if sI r s w a=true then uu r w all fin n (dn s w a) (l++[a])else none
    q.2=o.isSome∧ ∀x,o=some x→q.1= .pure (.slice (x.map au.row)):=fun all'=>by
   induction all' with
   |nil=>intro _ g _;exact⟨rfl,fun x e=>by cases e⟩
   |cons a all' ih=>
    intro ha g hs;have hA:=ha a (by simp);have hu:=xA (r:=r) (s:=s) hA.kind (by rw [hS.pl];exact hA.wl);rw [hs,Bool.false_or]at hu;simp only [fq,List.findSome?_cons]
    cases hp:bV r s w a with
    |false=>
     rw [hp,Bool.false_and]at hu;rw [if_neg (by simp),if_neg (by simp [hu])];exact ih (fun x hx=>ha x (by simp [hx])) g hs
    |true=>
     rw [hp,Bool.true_and]at hu;rw [if_pos rfl]
     cases hs2:gT r w (dn s w a)with
     |true=>
      rw [hs2]at hu;simp only [hs2,if_true];rw [if_neg (show¬sI r s w a=true by simp [hu])]
      exact ih (fun x hx=>ha x (by simp [hx])) g hs
     |false=>
      rw [hs2]at hu;obtain⟨t1,t2⟩:=D7 hab n (dn s w a) (l++[a]) g (hS.Si hA hp);simp only [hs2,Bool.false_eq_true,if_false];rw [if_pos (show sI r s w a=true by simp [hu])]
      generalize hT:ij r w all fin n (dn s w a) (l++[a]) g=T at t1 t2⊢
      cases ho:uu r w all fin n (dn s w a) (l++[a])with
      |some x=>
       rw [ho]at t1 t2;have t1':T.2=true:=t1;rw [if_neg (by simp [t1'])];exact⟨t1,fun y e=>t2 y e⟩
      |none=>
       rw [ho]at t1;have t1':T.2=false:=t1;rw [if_pos (by simp [t1'])];have e2:T=(T.1,false):=(by rw [←t1']);rw [e2];exact ih (fun x hx=>ha x (by simp [hx])) T.1 hs
  cases hs:gT r w s with
  |true=>
   rw [if_pos rfl];have:(all.findSome? fun a=>if sI r s w a=true then uu r w all fin n (dn s w a) (l++[a])else none)=none:=by
    rw [List.findSome?_eq_none_iff];intro x hx;have hA:=hab x hx;have hu:=xA (r:=r) (s:=s) hA.kind (by rw [hS.pl];exact hA.wl);rw [hs]at hu;simp [hu]
   rw [this];exact⟨rfl,fun x e=>by cases e⟩
  |false=>
   rw [if_neg (by simp)];exact hf all hab g hs
theorem D8 {r:aC}(sh:gA r){s:ay}{w:Nat}(hw:w<s.ae.length){n3 n9:Nm}(g3:H.get n3=some (aX r))(g9:H.get n9=some (.box [.pure (.int .i64 w)]))(hH:0<H.length):
  aN KC (aF KC) 114 [.pure (.agg (aP r s)), .aA n3 0, .aA n9 0] c H=some (.pure (.bool (gT r w s)),H):=by
 refine aM (ba KC aw Tryz.func114 rfl rfl K7 rfl rfl rfl (by simp) hH ?_);have l3:=ai.bQ g3;have l9:=ai.bQ g9;have ne3: ¬n3.1=H.length:=(by omega);have ne9: ¬n9.1=H.length:=(by omega);have C:=fun(c:Nat) (H:ai) (hH:0<H.length)=>od (c:=c) (H:=H) r.seen s.ae[w] sh.s hH;have hgd:s.ae.getD w 0=s.ae[w]:=aW hw;rw [sH,hgd];simp only [aX]at g3;rw [aP];simp [g3,g9,ne3,ne9,l3,l9,hw,aD,C,ah]
theorem D9 {r:aC}(hW:WB r)(aj:List au)(hal:aj.length≤1000000)(hA: ∀a∈aj,AB r a.aR.toNat a){s:ay}(hS:fB r s)(hF:Full s)(hH:0<H.length):
  aN KC (aF KC) 93 [.pure (.agg (aP r s)), .pure (.slice (aj.map au.row)), .pure (.fn 59)] c H=
   some (.pure (.tuple [.agg (aP r (dg r aj.length s aj 0).2.1), .int .i64 (dg r aj.length s aj 0).2.2.1, .int .i64 (dg r aj.length s aj 0).2.2.2]),H):=by
 rw [jC rfl rfl rfl];exact yL (c:=c) hW (sB r H hH) aj hal hA hS hF
end
section
variable {c:Nat} {H:ai}
theorem rE {G:ai}{nm:Nm}{b:dB}(h:nm.1<G.length): ∀pre:ai,ai.set (pre++G) nm b=pre++ai.set G nm b
 | []=>rfl
 |X::pre=>by
  show ai.set (X::(pre++G)) nm b=_
  rw [ai.jB,if_neg (by simp;omega),rE h pre];rfl
structure Y3 (r:aC)(w:Nat)(aj:List au)(nU:Nat)(n3 n8 n9 n11 n15 n16 n17:Nm)(n0:Nat)(C:GV→ai):Prop where
 pos:0<n0
 len: ∀g,(C g).length=n0
 l3:n3.1<n0
 l8:n8.1<n0
 l9:n9.1<n0
 l11:n11.1<n0
 Y4:n15.1<n0
 l16:n16.1<n0
 l17:n17.1<n0
 g3: ∀g,(C g).get n3=some (aX r)
 g8: ∀g,(C g).get n8=some (.box [.pure (.slice (aj.map au.row))])
 g9: ∀g,(C g).get n9=some (.box [.pure (.int .i64 w)])
 VW: ∀g,(C g).get n11=some (.box [.pure (.int .i64 nU)])
 O7: ∀g,(C g).get n15=some (.box [.func 114 [] [.aA n3 0, .aA n9 0]])
 g16: ∀g,(C g).get n16=some (.box [g])
 s16: ∀g g',(C g).set n16 (.box [g'])=C g'
 VX: ∀g,(C g).get n17=some (.box [.func 116 [] [.aA n8 0, .aA n11 0, .aA n16 0, .aA n15 0, .aA n9 0, .aA n17 0]])
structure xB (r:aC)(w:Nat)(aj:List au)(nU:Nat):Prop where
 hr:O4 r
 wl:w<r.ae.length
 ab: ∀a∈aj,AB r a.aR.toNat a
 len:aj.length≤1000000
 u:nU≤aj.length
section
variable {r:aC} {w:Nat} {aj:List au} {nU:Nat} {n3 n8 n9 n11 n15 n16 n17:Nm} {n0:Nat} {C:GV→ai} (M:Y3 r w aj nU n3 n8 n9 n11 n15 n16 n17 n0 C) (P:xB r w aj nU)
include M P
theorem Y5 {s:ay}(hS:fB r s)(hF:Full s)(l:List au)(g:GV)(pre:ai):
  bJ KC (aF KC) 116 [.pure (.agg (aP r s)), .pure (.slice (l.map au.row)), .pure (.int .i64 0), .aA n8 0, .aA n11 0, .aA n16 0, .aA n15 0, .aA n9 0, .aA n17 0] c (pre++C g)=
   some (.pure (.bool (lK r (aj.drop nU) s l)),pre++C (.pure (.slice (l.map au.row)))):=by
 refine aM (aK KC aw Tryz.func116 rfl rfl Ea (by simp) (by simp [M.len];have:=M.pos;omega) ?_);have hlen:=M.len;have G:=fun(g:GV) (nm:Nm) (h:nm.1<n0)=>nu (G:=C g) (nm:=nm) (by rw [hlen];exact h) pre;have G8:=fun g=>(G g n8 M.l8).trans (M.g8 g);have G11:=fun g=>(G g n11 M.l11).trans (M.VW g);have G16:=fun g=>(G g n16 M.l16).trans (M.g16 g);have S16:=fun g g'=>(rE (G:=C g) (nm:=n16) (b:= .box [g']) (by rw [hlen];exact M.l16) pre).trans (by rw [M.s16 g g']);have ne8: ¬n8.1=pre.length+n0:=(by have:=M.l8;omega);have ne11: ¬n11.1=pre.length+n0:=(by have:=M.l11;omega);have ne16: ¬n16.1=pre.length+n0:=(by have:=M.l16;omega);have R:=fun(c:Nat) (H:ai) (hH:0<H.length)=>D9 (c:=c) (H:=H) P.hr.w (aj.drop nU) (by have:=P.len;simp;omega) (fun a ha=>P.ab a (List.mem_of_mem_drop ha)) hS hF hH;have hsn:=(iL (aj.drop nU).length s (aj.drop nU) 0 hS (fun a ha=>P.ab a (List.mem_of_mem_drop ha))).1;unfold lK;obtain⟨q,hq⟩: ∃q,dg r (aj.drop nU).length s (aj.drop nU) 0=q:=⟨_,rfl⟩;rw [hq]at R hsn⊢;have O:=fun(c:Nat) (H:ai) (hH:0<H.length)=>vp (c:=c) (H:=H) r q.2.1 P.hr.w.tl (by rw [hsn.hl];exact P.hr.w.pl) hsn.tl hH;rw [aP]at R O;rw [aP]at R;rw [aP];have hu:=P.u;have hdm:List.drop nU (aj.map au.row)=(aj.drop nU).map au.row:=(by rw [List.map_drop]);have hall: ∀x:au,x.row.length=9:=fun _=>rfl;have tl:List.take aj.length (aj.map au.row)=aj.map au.row:=List.take_of_length_le (by simp);by_cases he:q.2.2.2=0
 ·rw [he]at R⊢;simp [hlen,G8,G11,G16,S16,ne8,ne11,ne16,hu,hdm,hall,tl,R,O,-List.map_drop,ah]
 ·have he':(q.2.2.2==0)=false:=(by simpa using he);simp [hlen,G8,G11,G16,S16,ne8,ne11,ne16,hu,hdm,hall,tl,R,O,he,he',-List.map_drop,ah]
end
end
section
variable {c:Nat} {H:ai}
end
section
variable {c:Nat} {H:ai}
def H5 (l:Nat)(g:GV):Prop:= ∀nm es top lo len,g= .bd nm es top lo len→nm.1=l
theorem pA {l:Nat}{p:PV}:H5 l (.pure p):=fun _ _ _ _ _ h=>by cases h
theorem Eb {F:Fr}{nm:Nm}{b:dB}(h:nm.1=H.length): ∀pre:ai,ai.set (pre++F::H) nm b=pre++F.ins nm.2 b::H
 | []=>by
  show ai.set (F::H) nm b=_
  rw [ai.jB,if_pos h];rfl
 |X::pre=>by
  show ai.set (X::(pre++F::H)) nm b=_
  rw [ai.jB,if_neg (by simp;omega),Eb h pre];rfl
theorem tE {F:Fr}{g:GV}(h:H5 H.length g)(pre:ai): ∃F',(dY (pre++F::H) g).2=pre++F'::H:=by
 cases g with
 |bd nm es top lo len=>
  have hn:=h _ _ _ _ _ rfl;simp only [dY,dG];split
  ·split
   ·exact⟨_,Eb hn pre⟩
   ·exact⟨F,rfl⟩
  ·exact⟨F,rfl⟩
 |_=>exact⟨F,rfl⟩
theorem rF (pre:ai): ∀{l:List GV} {F:Fr},(∀g∈l,H5 H.length g)→ ∃F',(gB (pre++F::H) l).2=pre++F'::H
 | [],F,_=>⟨F,rfl⟩
 |g::l,F,h=>by
  obtain⟨F1,e1⟩:=tE (F:=F) (h g (List.mem_cons_self ..)) pre;obtain⟨F2,e2⟩:=rF pre (l:=l) (F:=F1) fun x hx=>h x (List.mem_cons_of_mem _ hx);exact⟨F2,by simp only [gB,e1,e2]⟩
def K8 (L:Nat):GV→Prop
 | .agg l=> ∀x∈l,H5 L x
 |g=>H5 L g
theorem vq {F:Fr}{g:GV}(h:K8 H.length g)(pre:ai): ∃F',(dx (pre++F::H) g).2=pre++F'::H:=by
 cases g with
 |agg l=>
  obtain⟨F',e⟩:=rF pre (F:=F) (l:=l) h;exact⟨F',by simp only [dx,e]⟩
 |_=>exact tE h pre
theorem Fa {H:ai}{g:GV}{q:PV}(hg:E3 H g q):canon (dx H g).1= .pure q:=by
 have h3:=(qk hg).1
 cases g with
 |bd nm es top lo len=>
  show canon (dY H (.bd nm es top lo len)).1=_
  have e: ∃p,(dY H (.bd nm es top lo len)).1= .pure p:=⟨_,rfl⟩;obtain⟨p,hp⟩:=e;rw [hp]at h3⊢;have:p=q:=by
   have h4:cg (.pure p)=GV.pure p:=rfl;rw [h4]at h3;cases h3;rfl
  rw [this];obtain⟨rows,v,ro,a1,a2,a3,a4,a5,a6⟩:=hg;rw [a6];rfl
 |pure p=>cases hg;rfl
 |aS=>cases hg;rfl
 |_=>exact hg.elim
inductive oe (H:ai) (F:Fr) (pre:ai):List GV→List GV→Prop
 |nil:oe H F pre [] []
 |ptr {nm:Nm} {o:Nat} {l m:List GV} (h:oe H F pre l m):oe H F pre (.aA nm o::l) (.aA nm o::m)
 |rd {g:GV} {q:PV} {l m:List GV} (hg:oP (pre++F::H) g q) (ht:K8 H.length g) (h:oe H F pre l m):oe H F pre (g::l) (.pure q::m)
 |Y6 {g:GV} {q:PV} {l m:List GV} (hg:E3 (pre++F::H) g q) (hq:canon (.pure q)= .pure q) (ht:K8 H.length g) (h:oe H F pre l m):oe H F pre (g::l) (.pure q::m)
theorem oa.pre {F F':Fr}(h:rj F F'): ∀pre:ai,oa (pre++F::H) (pre++F'::H)
 | []=> .cons h (oa.refl H)
 |X::pre=> .cons (rj.refl X) (oa.pre h pre)
theorem rj.Cq {F F':Fr}: ∀{pre:ai},oa (pre++F::H) (pre++F'::H)→rj F F'
 | [],h=>by cases h with|cons a _=>exact a
 |X::pre,h=>by cases h with|cons _ b=>exact rj.Cq b
theorem oe.ro {F F':Fr}{pre:ai}(hr:rj F F'){l m:List GV}(h:oe H F pre l m):oe H F' pre l m:=by
 induction h with
 |nil=>exact .nil
 |ptr _ ih=>exact .ptr ih
 |rd hg ht _ ih=>exact .rd (rG (oa.sim (oa.pre hr pre)) hg) ht ih
 |Y6 hg hq ht _ ih=>exact .Y6 (Ec (oa.sim (oa.pre hr pre)) hg) hq ht ih
theorem uF {pre:ai}: ∀{l m:List GV} {F:Fr},oe H F pre l m→ ∃F',rj F F'∧(bz (pre++F::H) l).2=pre++F'::H∧(bz (pre++F::H) l).1.map canon=m.map canon
 |_,_,F, .nil=>⟨F,rj.refl F,rfl,rfl⟩
 |_,_,F, .ptr h=>by
  obtain⟨F',r,e1,e2⟩:=uF h;refine⟨F',r, ?_, ?_⟩
  ·simp only [bz,dx,dY,e1]
  ·simp only [bz,dx,dY,List.map_cons,e2]
 |g::l,_,F, .rd hg ht h=>by
  obtain⟨F1,e1⟩:=vq (F:=F) ht pre;have r1:rj F F1:=by
   have:=xy (pre++F::H) g;rw [e1]at this;exact rj.Cq this
  obtain⟨F',r,e2,e3⟩:=uF (h.ro r1);have hc:=(nv hg).1;refine⟨F',r1.trans r, ?_, ?_⟩
  ·simp only [bz,e1,e2]
  ·simp only [bz,e1,List.map_cons,e3,hc];congr 1
 |g::l,_,F, .Y6 hg hq ht h=>by
  obtain⟨F1,e1⟩:=vq (F:=F) ht pre;have r1:rj F F1:=by
   have:=xy (pre++F::H) g;rw [e1]at this;exact rj.Cq this
  obtain⟨F',r,e2,e3⟩:=uF (h.ro r1);have hc:=Fa hg;refine⟨F',r1.trans r, ?_, ?_⟩
  ·simp only [bz,e1,e2]
  ·simp only [bz,e1,List.map_cons,e3,hc,hq]
theorem AD {f:FuncId}(h1:KC.zV f=false)(h2:KC.Ai f=false)(h3:KC.EM f=true)(pre:ai){l m:List GV}{F:Fr}(h:oe H F pre l m):
  ∃F',rj F F'∧ ∀c,aN KC (aF KC) f l c (pre++F::H)=bJ KC (aF KC) f m c (pre++F'::H):=by
 obtain⟨F',r,e1,e2⟩:=uF h;refine⟨F',r,fun c=> ?_⟩;rw [jC h1 h2 h3,e1];exact xa e2
theorem Sg.rd {F:Fr}{g:GV}{A:List au}(h:Sg H F g A):E3 (F::H) g (.slice (A.map au.row)):=by
 rcases h with ⟨rfl,rfl⟩|⟨hne,key,v,rfl,hg,hv⟩
 ·rfl
 ·exact⟨A.map au.row,v,false,by simpa using hg,by simpa using hv,by simp,rfl,rfl,rfl⟩
theorem Sg.top {F:Fr}{g:GV}{A:List au}(h:Sg H F g A):K8 H.length g:=by
 rcases h with ⟨rfl,rfl⟩|⟨hne,key,v,rfl,hg,hv⟩
 ·intro nm es top lo len e;cases e
 ·intro nm es top lo len e;cases e;rfl
end
end Go.Gh
