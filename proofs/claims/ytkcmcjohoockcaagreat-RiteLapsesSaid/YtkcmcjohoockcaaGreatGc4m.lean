/- Texts joined: the evaluator over ghost values, its soundness, the walks. Spaces struck and names made short by a program, for the size. -/
import Derived.Test.YtkcmcjohoockcaaGreatGc4l
import Derived.Test.YtkcmcjohoockcaaGreatGc4e
import Derived.ProofKit
import Derived.OpenShut
import Derived.ChangeOld
import Derived.Below
import Derived.Carry
import Derived.Test.YtkcmcjohoockcaaGreatGc4b
import Derived.ChangeKeysEq
import Derived.Test.YtkcmcjohoockcaaGreatGc4f
namespace Go.Gh
open Go.Proofs
set_option linter.unusedVariables false
set_option linter.unusedSimpArgs false
set_option linter.unnecessarySimpa false
set_option maxRecDepth 100000
set_option maxHeartbeats 8000000
def jG (r m:aH)(A:List ak)(w:Int):Fr:=dS 78 9 (A.map ak.row) [(5,aA r),(12,aA m),(24618,bL w)]
theorem od {r m:aH}{A:List ak}{w:Int}{k:Nat}(h:k≠78):(jG r m A w).get k=Fr.get [(5,aA r),(12,aA m),(24618,bL w)] k:=by unfold jG;exact bu h
theorem rq {r m:aH}{A:List ak}{w w':Int}:(jG r m A w).ins 24618 (bL w')=jG r m A w':=by
 unfold jG;rw [pB (by decide)];simp
theorem Fq (r m:aH) {k:Nat} (hk:k<m.ai.length) (mS:eN m) {n:Nat} (hn:m.wide*m.deep=n) (hn1:1≤n) (hn2:n≤1000000) (p1 p2 p3:PV) (Q:GX→bP→Prop)
  (h1: ∀A w,A.length≤6→Q (.exit 0) ⟨[(1, .pure p1),(2, .pure p2),(3, .pure p3),(5, .aD (1,5) 0),(11, .aD (1,24618) 0),(12, .aD (1,12) 0),(13, .pure (.int .i64 k)),(14,cv (1,78) 9 (A.map ak.row))],[jG r m A w,[]],215⟩): ∀(i:Nat) (A:List ak) (w:Int),A.length+i≤6→
  fL KC au 4 (lp Tryz.f4 0) [1,2,3,5,11,12,13,14,15] [1,2,3,5,11,12,13,14] Q [(1, .pure p1),(2, .pure p2),(3, .pure p3),(5, .aD (1,5) 0),(11, .aD (1,24618) 0),(12, .aD (1,12) 0),(13, .pure (.int .i64 k)),(14,cv (1,78) 9 (A.map ak.row)),(15, .pure (.int .i64 i))] [jG r m A w,[]] 215:=by
 have gm: ∀A w,(jG r m A w).get 12=some (aA m):=fun A w=>od (by decide);have gw: ∀A w,(jG r m A w).get 24618=some (bL w):=fun A w=>od (by decide);intro i
 induction i with
 |zero=>
  intro A w hA;have h1':=h1 A w (by omega);apply aw;conv=>arg 4;whnf
  simp;simpa using h1'
 |succ i ih=>
  intro A w hA;have mt:=mS.t;have mp:=mS.p;obtain⟨a,ha⟩: ∃a,m.ai[k]=a:=⟨_,rfl⟩;obtain⟨E,hE⟩: ∃E,dn n m.ae.length m.ah.length a.aO=E:=⟨_,rfl⟩;have EV:=fun(c:Nat) (H:aj) (hH:0<H.length)=>Ax (c:=c) (H:=H) m a.aO n m.ae.length m.ah.length (by rw [hn];exact cu (by omega) (by omega)) (by omega) hn2 rfl rfl mt mp hH;rw [hE]at EV;have hE1:1≤E.length:=by
   rw [←hE];unfold dn;rw [List.length_append];have:(jb a.aO n 0).length=n:=(by unfold jb;simp);omega
  have hE2:=qn n m.ae.length m.ah.length a.aO;rw [hE]at hE2;have hBx:fW [[],jG r m A w,[]] (1,24618):=⟨w,by simp [gw],by simp [rq]⟩;have hw:bK [[],jG r m A w,[]] (1,24618)=w:=(by simp [bK,bL,gw]);have U:=j3 (c:=74) (n:=(E.length:Int)) hBx (by omega);obtain⟨u,w',hu,hul⟩:=lO w (E.length:Int) (by omega) (by omega);rw [hw,hu]at U;have hset:aj.set [[],jG r m A w,[]] (1,24618) (bL w')=[[],jG r m A w',[]]:=(by simp [rq]);simp only [hset]at U;have hul':u<E.length:=(by omega);have ih':=ih (A++[E[u]]) w' (by rw [List.length_append,List.length_singleton];omega);have hl9: ∀x:ak,x.row.length=9:=fun _=>rfl;have AK:=vn (H:=[[]]) (key:=78) (es:=9) (rows:=A.map ak.row) (fr:=[(5,aA r),(12,aA m),(24618,bL w')]) (l:=1) (bytes:=72) (r:=E[u].row) (f0:=[]) rfl rfl (by rw [List.length_map];omega);rw [show A.map ak.row++[E[u].row]=(A++[E[u]]).map ak.row by simp]at AK
  change vo 1 78 _ 9 72 _ ([]::jG r m A w'::[[]])=some (_,[]::jG r m (A++[E[u]]) w'::[[]])at AK;have ec:((i+1:Nat):Int)=(i:Int)+1:=(by omega);have wi:IntKind.i64.wrap ((i:Int)+1-1)=i:=by rw [show (i:Int)+1-1=i by omega];exact cu (by omega) (by omega)
  have gp:(0:Int)<(i:Int)+1:=(by omega);have mk0:0<m.ai.length:=(by omega);have gm': ∀A w,(jG r m A w).get 12=some (aA m):=gm;simp only [aA]at gm';rw [cQ]at EV;obtain⟨g,hg⟩: ∃g,cv (1,78) 9 (A.map ak.row)=g:=⟨_,rfl⟩;rw [ec,hg];rw [hg]at AK;obtain⟨b,hb⟩: ∃b,E[u]=b:=⟨_,rfl⟩;rw [hb]at AK ih';simp only [bz]at AK;have wi2:=cu (x:=(i:Int)) (by omega) (by omega);have cl1: ∀X,clean X 1 (cv (1,78) 9 ((A++[b]).map ak.row))=cv (1,78) 9 ((A++[b]).map ak.row):=fun X=>(by simp);obtain⟨g',hg'⟩: ∃g',cv (1,78) 9 ((A++[b]).map ak.row)=g':=⟨_,rfl⟩;rw [hg']at AK ih' cl1;apply aw;conv=>arg 4;whnf
  simp [gp,gm',mk0,hk,ha,bz,EV,U,hul',wi,wi2,AK,hb,cl1];exact ih'
theorem adV (r:aH)(act kind:Int)(mend:List ak)(nums:List Int)(hmend:mend.length≤9223372036854775807)(hnums:nums.length≤9223372036854775807):
  ∃H',aI KC (aC KC) 4 [.pure (.agg r.row), .pure (.int .i64 act), .pure (.int .i64 kind), .pure (.slice (mend.map ak.row)), .pure (.slice (nums.map aG))] 0 [[]]=some (.pure (.bool true),H'):=by
 suffices hs:ku (aI KC (aC KC) 4 [.pure (.agg r.row), .pure (.int .i64 act), .pure (.int .i64 kind), .pure (.slice (mend.map ak.row)), .pure (.slice (nums.map aG))] 0 [[]]) (fun x=>x.1= .pure (.bool true))by
  obtain⟨⟨v,H'⟩,h1,rfl⟩:=hs;exact⟨H',h1⟩
 refine bj KC au Tryz.func4 rfl rfl aak rfl rfl rfl (by simp) (by simp) ?_;have V:=Tb (c:=33) (H:=[[(5,aA r)],[]]) r (by simp);simp only [aA]at V;rw [cQ]at V⊢
 cases hb:HZ r with
 |true=>
  rw [hb]at V;simp [V,mA,aa]
 |false=>
  rw [hb]at V;obtain⟨b1,b2,b3,b4,b5⟩:=Cv hb;have sh:eN r:=⟨by omega,by omega,by omega,by omega,by omega⟩;by_cases hm6:6<mend.length
  ·have hm6':(6:Int)<mend.length:=(by omega);simp [V,hm6,hm6',mA,aa]
  ·have hm6': ¬(6:Int)<mend.length:=(by omega);obtain⟨w,eB⟩:=H5 (c:=41) (H:=[[(5,aA r)],[]]) nums hnums (by simp) (by simp [aq]);have k41:aq 41 6=24618:=(by decide);simp only [List.length_cons,List.length_nil,Nat.zero_add,Nat.add_sub_cancel,k41]at eB;have hfin: ∀w,aj.set [[(5,aA r)],[]] (1,24618) (bL w)=[[(5,aA r),(24618,bL w)],[]]:=fun w=>(by simp);rw [hfin]at eB;have hBx: ∀w,fW [[(5,aA r),(24618,bL w)],[]] (1,24618):=fun w=>⟨w,by simp,by simp⟩;obtain⟨r0,ai,s,wd,hRB,eR⟩:=Fs (c:=43) (hBx w) (sd:=3) (N:=10) (by omega) (by omega) (by omega);have hset: ∀w x,aj.set [[(5,aA r),(24618,bL w)],[]] (1,24618) (bL x)=[[(5,aA r),(24618,bL x)],[]]:=fun w x=>(by simp);rw [hset]at eR;change aI KC (aC KC) 11 [.aD (1,24618) 0, .pure (.int .i64 3), .pure (.int .i64 10)] 43 _=_ at eR;obtain⟨m,hm⟩: ∃m,Ft r0 ai s=m:=⟨_,rfl⟩;rw [hm]at eR;have lnb:m.ah.length≤3∧m.ae.length≤4∧m.aY.length≤3∧m.ai.length≤26∧m.seen=[]∧1≤m.wide∧m.wide≤3∧1≤m.deep∧m.deep≤3:=by
    rw [←hm];refine⟨hRB.room.p3, ?_,hRB.room.ll,hRB.len,hRB.room.seen,hRB.room.w1,hRB.room.w3,hRB.room.d1,hRB.room.d3⟩;show (ob _ _ _).length≤4;rw [Ay];exact hRB.room.t4
   obtain⟨l1,l2,l3,l4,l5,l7,l8,l9,l10⟩:=lnb;have mS:eN m:=⟨by omega,by omega,by rw [l5];simp,by omega,by omega⟩;have hwd:1≤m.wide*m.deep∧m.wide*m.deep≤9:=by
    constructor
    ·have:=Int.mul_le_mul l7 l9 (by omega) (by omega);omega
    ·have:=Int.mul_le_mul l8 l10 (by omega) (by omega);omega
   obtain⟨n,hn⟩: ∃n:Nat,m.wide*m.deep=n:=⟨(m.wide*m.deep).toNat,by omega⟩;have gm: ∀A w,(jG r m A w).get 12=some (aA m):=fun A w=>od (by decide);have gr: ∀A w,(jG r m A w).get 5=some (aA r):=fun A w=>od (by decide);have gw: ∀A w,(jG r m A w).get 24618=some (bL w):=fun A w=>od (by decide);have hBx2: ∀A w,fW [jG r m A w,[]] (1,24618):=fun A w=>⟨w,by simp [gw],by simp [rq]⟩;have hw2: ∀A w,bK [jG r m A w,[]] (1,24618)=w:=fun A w=>(by simp [bK,bL,gw]);have hset2: ∀A w w',aj.set [jG r m A w,[]] (1,24618) (bL w')=[jG r m A w',[]]:=fun A w w'=>(by simp [rq]);have U:=fun c (x:Int) (hx:x≤1000) A w=>j3 (c:=c) (n:=x) (hBx2 A w) (by omega);have AN:=fun c A w=>sI (c:=c) (lo:=1) (hi:=3) (hBx2 A w);simp only [hw2,hset2]at U AN;have e0: ∀w,([(5,aA r),(12,aA m),(24618,bL w)]:Fr)=jG r m [] w:=fun w=>rfl;have U48:=U 48 (m.ai.length:Int) (by omega) [] wd;obtain⟨uk,wk,huk⟩: ∃uk wk,kZ wd (m.ai.length:Int)=(uk,wk):=⟨_,_,rfl⟩;have hukr:=jT wd (m.ai.length:Int) (by omega);rw [huk]at U48 hukr;obtain⟨u,w5,hu,hul⟩:=lO wk 4 (by omega) (by omega);have U50:=U 50 4 (by omega) [] wk;rw [hu]at U50;rw [←e0]at U48;have rdm: ∀A w,xr [jG r m A w,[]] (cv (1,78) 9 (A.map ak.row)) (.slice (A.map ak.row)):=fun A w=>kB fun h=>by
    show (jG r m A w).get 78=_
    exact cw h
   have LPS:=fun(A:List ak) (hA:A.length≤6) (w:Int) (x1 x2 y2:Int) lit hlit Q hQ=>Az [r,m,m] [act,x1,x2] [kind,y2,kind] [.pure (.slice (mend.map ak.row)),cv (1,78) 9 (A.map ak.row), .pure (.slice (mend.map ak.row))] [mend,A,mend] rfl rfl rfl rfl rfl (fun x hx=>by
     simp only [List.mem_cons,List.not_mem_nil,or_false]at hx;rcases hx with rfl|rfl|rfl
     ·exact sh
     ·exact mS
     ·exact mS) (fun x hx=>by
     simp only [List.mem_cons,List.not_mem_nil,or_false]at hx;rcases hx with rfl|rfl|rfl<;>omega) 2 (by unfold cv;split<;>rfl) lit hlit Q 3 0 [jG r m A w,[]] (by simp) rfl rfl (fun j a b=>by
     match j,a with
     |0,_=>exact rfl
     |1,_=>exact rdm A w
     |2,_=>exact rfl
     |j+3,a=>exact absurd a (by simp)) hQ
   have LP0:=fun(A:List ak) (w:Int) (x1 x2 y2:Int) Q hQ=>Az [r,m,m] [act,x1,x2] [kind,y2,kind] ([mend,[],mend].map fun m=>GV.pure (.slice (m.map ak.row))) [mend,[],mend] rfl rfl rfl rfl rfl (fun x hx=>by
     simp only [List.mem_cons,List.not_mem_nil,or_false]at hx;rcases hx with rfl|rfl|rfl
     ·exact sh
     ·exact mS
     ·exact mS) (fun x hx=>by
     simp only [List.mem_cons,List.not_mem_nil,or_false]at hx;rcases hx with rfl|rfl|rfl
     ·omega
     ·simp
     ·omega) 2 rfl _ (.inr ⟨rfl,rfl⟩) Q 3 0 [jG r m A w,[]] (by simp) rfl rfl (fun j a b=>by
     match j,a with
     |0,_=>exact rfl
     |1,_=>exact rfl
     |2,_=>exact rfl
     |j+3,a=>exact absurd a (by simp)) hQ
   simp only [List.map_cons,List.map_nil,aG]at LPS LP0;rw [cQ,cQ]at LP0;simp only [aA]at V eB eR U48;rw [cQ]at eR;by_cases hne:m.ai=[]
   ·have hk0:uk=0:=(by rw [hne]at hukr;simp at hukr;omega);subst hk0;have gr':=gr [];have gm':=gm [];simp only [aA]at gr' gm';have AN':=AN 89 [] w5;have LP2:=LP0 [];rw [hne]at U48 eR;rw [hne]at LP2 gm';have e0':=fun w=>(e0 w).symm;simp only [aA]at e0;rw [hne]at e0;simp at U48;simp [V,hm6,hm6',eB,eR,U48,e0,U50];simp only [List.map_nil]at LP2;have hu0:(u=0∧ ¬(0:Int)<u∧ ¬0<u)∨(¬u=0∧(0:Int)<u∧0<u):=(by omega);rcases hu0 with ⟨z1,z2,z3⟩|⟨z1,z2,z3⟩
    ·apply aw;conv=>arg 4;whnf
     simp [gm',hne,z1,gr',AN',chunks];refine LP2 _ _ _ _ _ fun H' hr=> ?_;obtain⟨L',rfl⟩: ∃L',H'=[L',[]]:=by
      cases hr with
      |cons h t=>cases t with
       |cons h2 t2=>cases t2;rw [h2.empty];exact⟨_,rfl⟩
     simp [mA,aa]
    ·apply aw;conv=>arg 4;whnf
     simp [gm',hne,z1,z2,z3,gr',AN',chunks];refine LP2 _ _ _ _ _ fun H' hr=> ?_;obtain⟨L',rfl⟩: ∃L',H'=[L',[]]:=by
      cases hr with
      |cons h t=>cases t with
       |cons h2 t2=>cases t2;rw [h2.empty];exact⟨_,rfl⟩
     simp [mA,aa]
   ·have hpos:0<m.ai.length:=List.length_pos_iff.2 hne;obtain⟨k,rfl⟩:=Int.eq_ofNat_of_zero_le hukr.1;have hk:k<m.ai.length:=(by omega);have SL:=fun Q h1=>Fq r m hk mS hn (by omega) (by omega) (.int .i64 act) (.int .i64 kind) (.slice (mend.map ak.row)) Q h1 u [] w5 (by simp;omega);simp [V,hm6,hm6',eB,eR,U48,e0,U50];simp at SL;refine SL _ fun A w' hA=> ?_;have gr':=gr A;have gm':=gm A;simp only [aA]at gr' gm';have AN':=AN 89 A w';obtain⟨g,hg⟩: ∃g,cv (1,78) 9 (A.map ak.row)=g:=⟨_,rfl⟩;have LP:=LPS A hA;rw [hg]at LP;rw [cQ,cQ]at LP;have hgc:g= .aS∨ ∃n:Nat,g= .aW (1,78) 9 n 0 n:=by
     rw [←hg];unfold cv;split
     ·exact .inl rfl
     ·exact .inr ⟨_,rfl⟩
    rcases hgc with rfl|⟨n',rfl⟩
    ·have hA0:A.map ak.row=[]:=by
      by_cases h:A.map ak.row=[]
      ·exact h
      ·unfold cv at hg;rw [if_neg h]at hg;cases hg
     have LP2:=LP0 A;simp [AN',gr',gm',hg,chunks];refine LP2 _ _ _ _ _ fun H' hr=> ?_;obtain⟨L',rfl⟩: ∃L',H'=[L',[]]:=by
      cases hr with
      |cons h t=>cases t with
       |cons h2 t2=>cases t2;rw [h2.empty];exact⟨_,rfl⟩
     simp [mA,aa]
    ·have LP2:=fun w x1 x2 y2 Q hQ=>LP w x1 x2 y2 _ (.inl rfl) Q hQ;simp [AN',gr',gm',hg,chunks];refine LP2 _ _ _ _ _ fun H' hr=> ?_;obtain⟨L',rfl⟩: ∃L',H'=[L',[]]:=by
      cases hr with
      |cons h t=>cases t with
       |cons h2 t2=>cases t2;rw [h2.empty];exact⟨_,rfl⟩
     simp [mA,aa]
section
open Go.ChangeShapes Go.WideShapes Go.RowKit Go.ChangeAt
def pS (P:Program):Nat→TypeId→List PV→Prop
 |0,_,_=>False
 |n+1,t,ps=>
  match P.underlying t with
  |some .bool=> ∃b,ps=[.bool b]
  |some (.int k)=> ∃m,(Lit.int k m).wf=true∧ps=[.int k m]
  |some .string=> ∃l:List UInt8,l.length≤maxLen∧ps=[.str l]
  |some (.slice e)=> ∃rows,rows.length≤maxLen∧(∀r∈rows,r.length=P.cellsOf e∧pS P n e r)∧ps=[.slice rows]
  |some (.struct fs)=>ps.length=P.cellsOf t∧ ∀f∈fs.toList,pS P n f.type ((ps.drop f.offset).take (P.cellsOf f.type))
  |some (.array m e)=>ps.length=P.cellsOf t∧ ∀i,i<m→pS P n e ((ps.drop (i*P.cellsOf e)).take (P.cellsOf e))
  |_=>False
def fj (P:Program)(tot:Nat):Nat→List (Nat×TypeId)→Bool
 |o,[]=>o==tot
 |o,(off,t)::r=>off==o && fj P tot (o+P.cellsOf t) r
def jU (P:Program):Nat→TypeId→Bool
 |0,_=>false
 |n+1,t=>
  match P.underlying t with
  |some .bool|some (.int _)|some .string=>true
  |some (.slice e)=>decide (0<P.cellsOf e) && jU P n e
  |some (.struct fs)=>fj P (P.cellsOf t) 0 (fs.toList.map fun f=>(f.offset,f.type)) && fs.toList.all fun f=>jU P n f.type
  |some (.array m e)=>fj P (P.cellsOf t) 0 ((List.range m).map fun i=>(i*P.cellsOf e,e)) && jU P n e
  |_=>false
def S0 (w:World):Nat→Prop:=fun b=>b<w.heap.size
def vp (w:World)(cs:List Value)(ps:List PV):Prop:=ps.length=cs.length∧ ∀j,j<cs.length→(cs.getD j undef).oneCell'=true∧b7 w (S0 w) (cs.getD j undef) (ps.getD j .dead)
theorem vp.append {w:World}{a b:List Value}{p q:List PV}(h:vp w a p)(k:vp w b q):vp w (a++b) (p++q):=by
 obtain⟨h1,h2⟩:=h;obtain⟨k1,k2⟩:=k;refine⟨by simp [h1,k1],fun j hj=> ?_⟩;by_cases hja:j<a.length
 ·have e1:(a++b).getD j undef=a.getD j undef:=(by simp [List.getD_eq_getElem?_getD,List.getElem?_append_left hja]);have e2:(p++q).getD j .dead=p.getD j .dead:=by simp [List.getD_eq_getElem?_getD,List.getElem?_append_left (show j<p.length by omega)]
  rw [e1,e2];exact h2 j hja
 ·have e1:(a++b).getD j undef=b.getD (j-a.length) undef:=by simp [List.getD_eq_getElem?_getD,List.getElem?_append_right (show a.length≤j by omega)]
  have e2:(p++q).getD j .dead=q.getD (j-a.length) .dead:=by rw [List.getD_eq_getElem?_getD,List.getElem?_append_right (show p.length≤j by omega),h1,List.getD_eq_getElem?_getD]
  rw [e1,e2];exact k2 _ (by simp at hj;omega)
theorem pC {w : World} {v : Value} {p : PV} (h1 : v.oneCell' = true) (h : b7 w (S0 w) v p) : vp w [v] [p] :=
  ⟨rfl, fun j hj => by have : j = 0 := by simpa using hj
                       subst this; exact ⟨h1, h⟩⟩
section
variable {P:Program} {w:World}
theorem qo (n : Nat) {cs : List Value} : ∀ (l : List (Nat × TypeId)) (o : Nat), fj P cs.length o l = true →
    (∀ x ∈ l, ∃ ps, vp w ((cs.drop x.1).take (P.cellsOf x.2)) ps ∧ pS P n x.2 ps) →
    o ≤ cs.length ∧ ∃ ps, vp w (cs.drop o) ps ∧ ∀ x ∈ l, o ≤ x.1 ∧ pS P n x.2 ((ps.drop (x.1 - o)).take (P.cellsOf x.2))
  | [], o, hc, h => by
    simp only [fj, beq_iff_eq] at hc
    subst hc
    exact ⟨Nat.le_refl _, [], by simp [vp], by simp⟩
  | (off, t) :: r, o, hc, h => by
    simp only [fj, Bool.and_eq_true, beq_iff_eq] at hc
    obtain ⟨rfl, hc⟩ := hc
    obtain ⟨hle, ps, h1, h2⟩ := qo n r _ hc (fun x hx => h x (List.mem_cons_of_mem _ hx))
    obtain ⟨p, q1, q2⟩ := h (off, t) (List.mem_cons_self ..)
    simp only at q1 q2
    have hpl : p.length = P.cellsOf t := by rw [q1.1, List.length_take, List.length_drop]; omega
    refine ⟨by omega, p ++ ps, ?_, fun x hx => ?_⟩
    · have := q1.append h1
      rw [← List.drop_drop, List.take_append_drop] at this
      exact this
    · rcases List.mem_cons.1 hx with rfl | hx
      · refine ⟨Nat.le_refl _, ?_⟩
        simp only [Nat.sub_self, List.drop_zero]
        rw [← hpl, List.take_left]
        exact q2
      · obtain ⟨g1, g2⟩ := h2 x hx
        refine ⟨by omega, ?_⟩
        have e : (p ++ ps).drop (x.1 - off) = ps.drop (x.1 - (off + P.cellsOf t)) := by
          rw [List.drop_append, List.drop_of_length_le (by omega), List.nil_append, hpl, Nat.sub_sub]
        rw [e]; exact g2
theorem Cw {H:Type}{enc:TypeId×Value→H}: ∀(n:Nat) (t:TypeId) (fuel:Nat) (cs:List Value) (x:DataW H×List MemPlace),jU P n t=true→
    DataW.trod enc P w 0 (fun _=>true) true fuel t cs=some x→ ∃ps,vp w cs ps∧pS P n t ps:=by
  intro n
  induction n with
  |zero=>intro t fuel cs x h;simp [jU]at h
  |succ n ih=>
    intro t fuel cs x h hx;unfold jU at h;unfold pS;split at h
    · rename_i ht
      obtain⟨b,rfl,_⟩:=DataW.trod_bool ht hx;exact⟨[.bool b],pC rfl (.bool b),b,rfl⟩
    · rename_i k ht
      obtain⟨m,rfl,_,hw⟩:=DataW.trod_int ht hx;exact⟨[.int k m],pC rfl (.int k m),m,hw,rfl⟩
    · rename_i ht
      obtain⟨s,rfl,_,hs⟩:=DataW.trod_string ht hx;exact⟨[.str s.data.toList],pC rfl (.str s),_,by simpa using hs,rfl⟩
    · rename_i e ht
      simp only [Bool.and_eq_true,decide_eq_true_eq]at h;obtain⟨he,hp⟩:=h;rcases DataW.trod_slice ht hx with ⟨rfl,_⟩|⟨a,len,cap,elems,rest,m,_,rfl,_,hb,hl,hm,hlen,hel,_,_⟩
      · exact⟨[.slice []],pC rfl (.fM none 0),[],by simp,by simp,rfl⟩
      · by_cases h0:len=0
        · subst h0
          exact⟨[.slice []],pC rfl (.fM _ _),[],by simp,by simp,rfl⟩
        · have each: ∀i,i<len→ ∃c ps,w.cells? 0 (a.add (i*P.cellsOf e)) (P.cellsOf e)=some c∧vp w c ps∧pS P n e ps:=by
            intro i hi;have h1:=hel i hi;rw [List.getElem?_eq_getElem (show i<elems.length by omega),Option.bind_eq_some_iff]at h1
            obtain⟨c,h1,h2⟩:=h1;obtain⟨ps,h3,h4⟩:=ih e m c _ hp h2;exact⟨c,ps,h1,h3,h4⟩
          have ch: ∃fc:Nat→List Value,∃fp:Nat→List PV,∀i,i<len→w.cells? 0 (a.add (i*P.cellsOf e)) (P.cellsOf e)=some (fc i)∧vp w (fc i) (fp i)∧pS P n e (fp i):=by
            refine⟨fun i=>if h:i<len then Classical.choose (each i h)else [],fun i=>if h:i<len then Classical.choose (Classical.choose_spec (each i h))else [],fun i hi=> ?_⟩;simp only [hi,↓reduceDIte];exact Classical.choose_spec (Classical.choose_spec (each i hi))
          obtain⟨fc,fp,hf⟩:=ch;have hcell: ∀i j,i<len→j<P.cellsOf e→w.cell? (a.add (i*P.cellsOf e+j))=some ((fc i).getD j undef):=by
            intro i j hi hj;obtain⟨h1,_⟩:=hf i hi;obtain⟨_,g1,g2⟩:=World.cells?_some h1;have:=g2 j hj;rw [List.getElem?_eq_getElem (by omega)]at this;have e1:(a.add (i*P.cellsOf e)).add j=a.add (i*P.cellsOf e+j):=by
              unfold Addr.add;by_cases c1:i*P.cellsOf e=0<;>by_cases c2:j=0<;>simp_all [Nat.add_assoc]
            rw [e1]at this;rw [this,List.getD_eq_getElem?_getD,List.getElem?_eq_getElem (by omega)];rfl
          obtain⟨b,off,spot⟩:=a;have hsp:spot=none:=by
            have:=World.cell?_spot (hcell 0 0 (by omega) he);simpa [Addr.add]using this
          subst hsp;have hcell': ∀i j,i<len→j<P.cellsOf e→w.cell? ⟨b,off+(i*P.cellsOf e+j),none⟩=some ((fc i).getD j undef):=by
            intro i j hi hj;have:=hcell i j hi hj;unfold Addr.add at this;split at this
            · rename_i c;rw [c,Nat.add_zero];exact this
            · exact this
          have hfl: ∀i,i<len→(fp i).length=P.cellsOf e∧(fc i).length=P.cellsOf e:=by
            intro i hi;obtain⟨h1,h2,_⟩:=hf i hi;obtain⟨_,g1,_⟩:=World.cells?_some h1;exact⟨h2.1.trans g1,g1⟩
          have hrows:((List.range len).map fp).length=len:=(by simp);refine⟨[.slice ((List.range len).map fp)],pC rfl ?_,_,by rw [hrows];omega,fun r hr=> ?_,rfl⟩
          · have:=b7.slice (w:=w) (S:=S0 w) b off cap (P.cellsOf e) ((List.range len).map fp) (fun i j=>(fc i).getD j undef) (by
                have:=hcell' 0 0 (by omega) he;unfold S0;refine Classical.byContradiction fun hn=> ?_;have hz:w.heap[b]? =none:=Array.getElem?_eq_none (by omega);simp [World.cell?,hz]at this) he
              (fun r hr=>by obtain⟨i,hi,rfl⟩:=List.mem_map.1 hr;exact(hfl i (by simpa using hi)).1)
              (fun i j hi hj=>hcell' i j (by simpa using hi) hj)
              (fun i j hi hj=>by
                have hi':i<len:=(by simpa using hi);exact((hf i hi').2.1.2 j (by rw [(hfl i hi').2];exact hj)).1)
              (fun i j hi hj=>by
                have hi':i<len:=(by simpa using hi);have e1:((List.range len).map fp).getD i []=fp i:=(by simp [List.getD_eq_getElem?_getD,hi']);rw [e1];exact((hf i hi').2.1.2 j (by rw [(hfl i hi').2];exact hj)).2)
              (by rw [hrows];exact hl)
            rw [hrows]at this;exact this
          · obtain⟨i,hi,rfl⟩:=List.mem_map.1 hr
            have hi':i<len:=(by simpa using hi);exact⟨(hfl i hi').1,(hf i hi').2.2⟩
    · rename_i fs ht
      simp only [Bool.and_eq_true,List.all_eq_true]at h;obtain⟨hc,hp⟩:=h;obtain⟨xs,m,_,_,hl,hlen,hfld⟩:=DataW.trod_struct ht hx;rw [←hl]at hc;obtain⟨_,ps,h1,h2⟩:=qo (w:=w) n _ 0 hc (fun y hy=>by
        obtain⟨f,hf,rfl⟩:=List.mem_map.1 hy;obtain⟨i,hi,e⟩:=List.getElem_of_mem hf;have hi':i<fs.size:=(by simpa using hi);have h3:=hfld i f (by rw [Array.getElem?_eq_getElem hi'];rw [←e];simp);rw [List.getElem?_eq_getElem (by omega)]at h3;obtain⟨p,q1,q2⟩:=ih f.type m _ _ (hp f hf) h3;exact⟨p,q1,q2⟩)
      rw [List.drop_zero]at h1;refine⟨ps,h1,by rw [h1.1,hl],fun f hf=> ?_⟩;exact(h2 (f.offset,f.type) (List.mem_map.2 ⟨f,hf,rfl⟩)).2
    · rename_i k e ht
      simp only [Bool.and_eq_true]at h;obtain⟨hc,hp⟩:=h;obtain⟨xs,m,_,_,hl,hlen,hfld⟩:=DataW.trod_array ht hx;rw [←hl]at hc;obtain⟨_,ps,h1,h2⟩:=qo (w:=w) n _ 0 hc (fun y hy=>by
        obtain⟨i,hi,rfl⟩:=List.mem_map.1 hy;have hi':i<k:=(by simpa using hi);have h3:=hfld i hi';rw [List.getElem?_eq_getElem (by omega)]at h3;obtain⟨p,q1,q2⟩:=ih e m _ _ hp h3;exact⟨p,q1,q2⟩)
      rw [List.drop_zero]at h1;refine⟨ps,h1,by rw [h1.1,hl],fun i hi=> ?_⟩;exact(h2 (i*P.cellsOf e,e) (List.mem_map.2 ⟨i,by simpa using hi,rfl⟩)).2
    · cases h
def uM (P:Program)(n:Nat)(t:TypeId)(p:PV):Prop:=
 match P.underlying t with
 |some (.struct _)|some (.array _ _)=> ∃ps,p= .agg ps∧pS P n t ps
 |_=>pS P n t [p]
def xP (P:Program)(n:Nat):List TypeId→List PV→Prop
 | [],[]=>True
 |t::ts,p::ps=>uM P n t p∧xP P n ts ps
 |_,_=>False
def KZ:Mu:=fun _ _=>none
theorem K0 {n:Nat}{t:TypeId}{ps:List PV}(h:pS P n t ps)(hs: ∀fs,P.underlying t≠some (.struct fs))(ha: ∀m e,P.underlying t≠some (.array m e)): ∃p,ps=[p]:=by
 cases n with
 |zero=>exact h.elim
 |succ n=>
  unfold pS at h;split at h
  ·obtain⟨b,rfl⟩:=h;exact⟨_,rfl⟩
  ·obtain⟨m,_,rfl⟩:=h;exact⟨_,rfl⟩
  ·obtain⟨m,_,rfl⟩:=h;exact⟨_,rfl⟩
  ·obtain⟨m,_,_,rfl⟩:=h;exact⟨_,rfl⟩
  ·rename_i ht;exact absurd ht (hs _)
  ·rename_i ht;exact absurd ht (ha _ _)
  ·exact h.elim
theorem K3 {H:Type} {enc:TypeId×Value→H} {n:Nat} {t:TypeId} {v:Value} {d:DataW H} {ps0:List MemPlace} {base:Nat} (hp:jU P n t=true) (hok:Value.okWide P w .any base t v)
  (h:DataW.Trod enc P w 0 (fun _=>true) true t v d ps0): ∃p,aK w (S0 w) KZ 0 v (.pure p)∧uM P n t p:=by
 obtain⟨fuel,hf⟩:=h;obtain⟨ps,h1,h2⟩:=Cw n t fuel _ _ hp hf;have agg: ∀cs,v= .agg cs→ ∃p,aK w (S0 w) KZ 0 v (.pure p)∧ ∃ps,p= .agg ps∧pS P n t ps:=by
  intro cs e;subst e;simp only [Value.cells]at h1;refine⟨.agg ps, .pure _ _ (.agg cs ps (by simpa using h1.1.symm) (fun j hj=> ?_) (fun j hj=> ?_)),ps,rfl,h2⟩
  ·have:=(h1.2 j (by rw [←h1.1];exact hj)).1;simpa [List.getD_eq_getElem?_getD]using this
  ·have:=(h1.2 j (by rw [←h1.1];exact hj)).2;simpa [List.getD_eq_getElem?_getD]using this
 unfold uM;split
 ·rename_i fs ht;obtain⟨cs,e,_⟩:=okWide_struct ht hok;exact agg cs e
 ·rename_i m e ht;simp only [Value.okWide,ht]at hok;obtain⟨cs,e,_⟩:=hok;exact agg cs e
 ·rename_i hs ha;obtain⟨p,rfl⟩:=K0 h2 (fun fs e=>hs fs e) (fun m e e'=>ha m e e');have hv:v.cells.toList=[v]:=by
   have hl:=h1.1;cases v<;>first|rfl|skip
   ·exfalso;rename_i cs
    cases n with
    |zero=>exact h2.elim
    |succ n=>
     unfold jU at hp;simp only [Value.okWide]at hok;split at hp<;>rename_i ht<;>first|(simp [Cell.okWide,Cell.ok,ht]at hok;done)|(exact absurd ht (hs _))|(exact absurd ht (ha _ _))|(cases hp;done)|skip
  rw [hv]at h1;exact⟨p, .pure _ _ (h1.2 0 (by simp)).2,h2⟩
end
end
section
open Go.WideShapes
def lP (f:TypeId→Option (List SK)):List TypeId→Option (List SK)
 | []=>some []
 |t::r=>match f t,lP f r with|some a,some b=>some (a++b)|_,_=>none
def gT (P:Program):Nat→TypeId→Option (List SK)
 |0,_=>none
 |n+1,t=>
  match P.underlying t with
  |some .bool=>if P.cellsOf t=1 then some [.bool]else none
  |some (.int k)=>if P.cellsOf t=1 then some [.int k]else none
  |some .string=>if P.cellsOf t=1 then some [.str]else none
  |some (.struct fs)=>if fj P (P.cellsOf t) 0 (fs.toList.map fun f=>(f.offset,f.type)) && fs.toList.all (·.name != "_") && !P.stoodInHeld t then lP (gT P n) (fs.toList.map (·.type))else none
  |some (.array m e)=>if decide (0<m) && fj P (P.cellsOf t) 0 ((List.range m).map fun i=>(i*P.cellsOf e,e))then lP (gT P n) ((List.range m).map fun _=>e)else none
  |_=>none
def valOf (P:Program)(t:TypeId)(l:List Value):Value:=
 match P.underlying t with
 |some (.struct _)|some (.array _ _)=> .agg l.toArray
 |_=>l.headD undef
theorem nc: ∀(k1 k2:List SK) (a b:List PV) (q:Bool),bZ (k1++k2) a b=some q→
  ∃q1 q2,bZ k1 (a.take k1.length) (b.take k1.length)=some q1∧bZ k2 (a.drop k1.length) (b.drop k1.length)=some q2∧q=(q1 && q2)
 | [],k2,a,b,q,h=>⟨true,q,rfl,h,by simp⟩
 |s::ks,k2,[],b,q,h=>by cases s<;>cases b<;>simp [bZ]at h
 |s::ks,k2,x::a,[],q,h=>by cases s<;>cases x<;>simp [bZ]at h
 |s::ks,k2,x::a,y::b,q,h=>by
  have key: ∀q',bZ (ks++k2) a b=some q'→ ∃q1 q2,bZ ks (a.take ks.length) (b.take ks.length)=some q1∧bZ k2 (a.drop ks.length) (b.drop ks.length)=some q2∧q'=(q1 && q2):=
   fun q' h=>nc ks k2 a b q' h
  cases s with
  |int k=>
   cases x<;>cases y<;>simp only [List.cons_append,bZ]at h
   all_goals first|(cases h;done)|skip
   split at h
   ·rename_i hk;split at h
    ·rename_i q' hq';obtain⟨q1,q2,e1,e2,rfl⟩:=key q' hq';simp only [Option.some.injEq]at h;exact⟨_,q2,by simp only [List.length_cons,List.take_succ_cons,bZ,hk,and_self,if_true,e1];rfl,by simpa using e2,by rw [←h,Bool.and_assoc]⟩
    ·cases h
   ·cases h
  |bool=>
   cases x<;>cases y<;>simp only [List.cons_append,bZ]at h
   all_goals first|(cases h;done)|skip
   split at h
   ·rename_i q' hq';obtain⟨q1,q2,e1,e2,rfl⟩:=key q' hq';simp only [Option.some.injEq]at h;exact⟨_,q2,by simp only [List.length_cons,List.take_succ_cons,bZ,e1];rfl,by simpa using e2,by rw [←h,Bool.and_assoc]⟩
   ·cases h
  |str=>
   cases x<;>cases y<;>simp only [List.cons_append,bZ]at h
   all_goals first|(cases h;done)|skip
   split at h
   ·rename_i q' hq';obtain⟨q1,q2,e1,e2,rfl⟩:=key q' hq';simp only [Option.some.injEq]at h;exact⟨_,q2,by simp only [List.length_cons,List.take_succ_cons,bZ,e1];rfl,by simpa using e2,by rw [←h,Bool.and_assoc]⟩
   ·cases h
theorem jK: ∀(k:List SK) (a b:List PV) (q:Bool),bZ k a b=some q→a.length=k.length∧b.length=k.length
 | [],a,b,q,h=>by cases a<;>cases b<;>simp_all [bZ]
 |s::ks,[],b,q,h=>by cases s<;>cases b<;>simp [bZ]at h
 |s::ks,x::a,[],q,h=>by cases s<;>cases x<;>simp [bZ]at h
 |s::ks,x::a,y::b,q,h=>by
  have key: ∀q',bZ ks a b=some q'→(x::a).length=(s::ks).length∧(y::b).length=(s::ks).length:=fun q' h=>by
   have:=jK ks a b q' h;simp [this.1,this.2]
  cases s with
  |int k=>
   cases x<;>cases y<;>simp only [bZ]at h
   all_goals first|(cases h;done)|skip
   split at h
   ·split at h
    ·rename_i q' hq';exact key q' hq'
    ·cases h
   ·cases h
  |bool=>
   cases x<;>cases y<;>simp only [bZ]at h
   all_goals first|(cases h;done)|skip
   split at h
   ·rename_i q' hq';exact key q' hq'
   ·cases h
  |str=>
   cases x<;>cases y<;>simp only [bZ]at h
   all_goals first|(cases h;done)|skip
   split at h
   ·rename_i q' hq';exact key q' hq'
   ·cases h
section
variable {P:Program}
theorem iV {f:TypeId→Option (List SK)}{t:TypeId}{r:List TypeId}{ks:List SK}(h:lP f (t::r)=some ks): ∃a b,f t=some a∧lP f r=some b∧ks=a++b:=by
 simp only [lP]at h;split at h
 ·rename_i a b h1 h2;simp only [Option.some.injEq]at h;exact⟨a,b,h1,h2,h.symm⟩
 ·cases h
theorem qp {n : Nat} (hf : ∀ t ks, gT P n t = some ks → ks.length = P.cellsOf t) : ∀ (l : List (Nat × TypeId)) (o tot : Nat) (ks : List SK), fj P tot o l = true → lP (gT P n) (l.map (·.2)) = some ks → o + ks.length = tot
  | [], o, tot, ks, h, hk => by
    simp only [List.map_nil, lP, Option.some.injEq] at hk
    subst hk
    simpa [fj] using h
  | (off, t) :: r, o, tot, ks, h, hk => by
    simp only [fj, Bool.and_eq_true, beq_iff_eq] at h
    obtain ⟨a, b, h1, h2, rfl⟩ := iV (by simpa using hk)
    have := qp hf r _ _ _ h.2 h2
    rw [List.length_append, hf t a h1]
    omega
theorem mB : ∀ (l : List (Nat × TypeId)) (o tot : Nat), fj P tot o l = true → o ≤ tot
  | [], o, tot, h => by simp only [fj, beq_iff_eq] at h; omega
  | (off, t) :: r, o, tot, h => by
    simp only [fj, Bool.and_eq_true, beq_iff_eq] at h
    have := mB r _ _ h.2
    omega
theorem jc: ∀(n:Nat) (t:TypeId) (ks:List SK),gT P n t=some ks→ks.length=P.cellsOf t
 |0,t,ks,h=>by simp [gT]at h
 |n+1,t,ks,h=>by
  unfold gT at h;split at h
  ·split at h
   ·rename_i e;simp at h;subst h;simp [e]
   ·cases h
  ·split at h
   ·rename_i e;simp at h;subst h;simp [e]
   ·cases h
  ·split at h
   ·rename_i e;simp at h;subst h;simp [e]
   ·cases h
  ·split at h
   ·rename_i hc;simp only [Bool.and_eq_true]at hc;have:=qp (jc n) _ 0 _ ks hc.1.1 (by rw [List.map_map];exact h);omega
   ·cases h
  ·split at h
   ·rename_i hc;simp only [Bool.and_eq_true]at hc;have:=qp (jc n) _ 0 _ ks hc.2 (by rw [List.map_map];exact h);omega
   ·cases h
  ·cases h
theorem xQ {n:Nat}{t:TypeId}{ks:List SK}(h:gT P n t=some ks): ∃kd,P.underlying t=some kd:=by
 cases n with
 |zero=>simp [gT]at h
 |succ n=>
  cases hu:P.underlying t with
  |none=>simp [gT,hu]at h
  |some kd=>exact⟨kd,rfl⟩
theorem iq (w:World){n:Nat}{t:TypeId}{ks:List SK}(h:gT P n t=some ks)(xs:List Value)(off:Nat)(hlen:off+P.cellsOf t≤xs.length):
  (part t xs.toArray off).run P w= .ok (valOf P t ((xs.drop off).take (P.cellsOf t))) w:=by
 cases n with
 |zero=>simp [gT]at h
 |succ n=>
  unfold gT at h;have hone:P.cellsOf t=1→((xs.drop off).take (P.cellsOf t)).headD undef=xs.getD off undef∧off<xs.length:=by
   intro e;rw [e]at hlen⊢;refine⟨?_,by omega⟩;simp [List.headD_eq_head?_getD,List.head?_take,List.head?_drop,List.getD_eq_getElem?_getD]
  have hagg: ∀kd,P.underlying t=some kd→(∃fs,kd= .struct fs)∨(∃m e,kd= .array m e)→(part t xs.toArray off).run P w= .ok (.agg ((xs.drop off).take (P.cellsOf t)).toArray) w:=by
   intro kd hu hk;obtain⟨i,hi⟩:=info_of_underlying hu;have e:xs.toArray.extract off (off+P.cellsOf t)=((xs.drop off).take (P.cellsOf t)).toArray:=by
    apply Array.toList_inj.1;simp [Array.toList_extract,List.extract]
   rcases hk with ⟨fs,rfl⟩|⟨m,e',rfl⟩<;>simp [part,isAgg,run_underlying hu,run_sizeOf w hi,e]
  unfold valOf;split at h
  ·rename_i ht;split at h
   ·rename_i e;rw [(hone e).1];have:=(hone e).2;simp [part,isAgg,run_underlying ht,this,List.getD_eq_getElem?_getD,ht]
   ·cases h
  ·rename_i ht;split at h
   ·rename_i e;rw [(hone e).1];have:=(hone e).2;simp [part,isAgg,run_underlying ht,this,List.getD_eq_getElem?_getD,ht]
   ·cases h
  ·rename_i ht;split at h
   ·rename_i e;rw [(hone e).1];have:=(hone e).2;simp [part,isAgg,run_underlying ht,this,List.getD_eq_getElem?_getD,ht]
   ·cases h
  ·rename_i fs ht;simp only [ht];exact hagg _ ht (.inl ⟨_,rfl⟩)
  ·rename_i m e ht;simp only [ht];exact hagg _ ht (.inr ⟨_,_,rfl⟩)
  ·cases h
def H6 (P:Program)(n d:Nat)(t:TypeId):Prop:= ∀ks,gT P n t=some ks→ ∀(a b:List PV) (q:Bool),bZ ks a b=some q→
 ∀w,(Op.equalIn d t (valOf P t (a.map cz)) (valOf P t (b.map cz))).run P w= .ok q w
def adW (P:Program)(n d:Nat)(t:TypeId):Prop:= ∀ks,gT P n t=some ks→ ∀(a:List PV),a.length=ks.length→ ∀e w,(Instr.checkKey e d t (valOf P t (a.map cz))).run P w= .ok () w
theorem lQ {n d:Nat}(ih: ∀t,H6 P n d t): ∀(fs:List Field) (o:Nat) (ks:List SK) (a b:List PV) (q:Bool),fj P a.length o (fs.map fun f=>(f.offset,f.type))=true→(fs.all (·.name != "_"))=true→
  lP (gT P n) (fs.map (·.type))=some ks→a.length=b.length→bZ ks (a.drop o) (b.drop o)=some q→ ∀w,(Op.eqFields d (a.map cz).toArray (b.map cz).toArray fs).run P w= .ok q w
 | [],o,ks,a,b,q,hc,hn,hk,hl,he,w=>by
  simp only [List.map_nil,lP,Option.some.injEq]at hk;subst hk;have hl1:=jK _ _ _ _ he;have e1:a.drop o=[]:=List.length_eq_zero_iff.1 hl1.1;have e2:b.drop o=[]:=List.length_eq_zero_iff.1 hl1.2;rw [e1,e2]at he;simp only [bZ,Option.some.injEq]at he;subst he;simp [Op.eqFields]
 |f::fs,o,ks,a,b,q,hc,hn,hk,hl,he,w=>by
  simp only [List.map_cons,fj,Bool.and_eq_true,beq_iff_eq]at hc;obtain⟨rfl,hc⟩:=hc;simp only [List.all_cons,Bool.and_eq_true,bne_iff_ne,ne_eq]at hn;obtain⟨k1,k2,h1,h2,rfl⟩:=iV (by simpa using hk);obtain⟨q1,q2,g1,g2,rfl⟩:=nc k1 k2 _ _ q he;have hk1:=jc n _ _ h1;have hle:=mB _ _ _ hc;have hkl:=jK _ _ _ _ he;simp only [List.length_drop,List.length_append]at hkl;rw [List.drop_drop,List.drop_drop]at g2;rw [hk1]at g1 g2;have p1:=iq w h1 (a.map cz) f.offset (by simp;omega);have p2:=iq w h1 (b.map cz) f.offset (by simp;omega);rw [←List.map_drop,←List.map_take]at p1 p2;have p3:=ih f.type k1 h1 _ _ q1 g1 w;have rest:=lQ ih fs _ k2 a b q2 hc (by simpa using hn.2) h2 hl g2 w;simp only [Op.eqFields,hn.1,ne_eq,not_false_eq_true,if_true,Sem.run_bind,p1,p2,p3,Result.andThen_ok];cases q1
  ·simp
  ·simpa using rest
theorem mC {n d:Nat}{e:TypeId}(ih: ∀t,H6 P n d t): ∀(is:List Nat) (o:Nat) (ks:List SK) (a b:List PV) (q:Bool),fj P a.length o (is.map fun i=>(i*P.cellsOf e,e))=true→
  lP (gT P n) (is.map fun _=>e)=some ks→a.length=b.length→bZ ks (a.drop o) (b.drop o)=some q→ ∀w,(Op.eqItems d e (P.cellsOf e) (a.map cz).toArray (b.map cz).toArray is).run P w= .ok q w
 | [],o,ks,a,b,q,hc,hk,hl,he,w=>by
  simp only [List.map_nil,lP,Option.some.injEq]at hk;subst hk;have hl1:=jK _ _ _ _ he;have e1:a.drop o=[]:=List.length_eq_zero_iff.1 hl1.1;have e2:b.drop o=[]:=List.length_eq_zero_iff.1 hl1.2;rw [e1,e2]at he;simp only [bZ,Option.some.injEq]at he;subst he;simp [Op.eqItems]
 |i::is,o,ks,a,b,q,hc,hk,hl,he,w=>by
  simp only [List.map_cons,fj,Bool.and_eq_true,beq_iff_eq]at hc;obtain⟨rfl,hc⟩:=hc;obtain⟨k1,k2,h1,h2,rfl⟩:=iV (by simpa using hk);obtain⟨q1,q2,g1,g2,rfl⟩:=nc k1 k2 _ _ q he;have hk1:=jc n _ _ h1;have hle:=mB _ _ _ hc;have hkl:=jK _ _ _ _ he;simp only [List.length_drop,List.length_append]at hkl;rw [List.drop_drop,List.drop_drop]at g2;rw [hk1]at g1 g2;have p1:=iq w h1 (a.map cz) (i*P.cellsOf e) (by simp;omega);have p2:=iq w h1 (b.map cz) (i*P.cellsOf e) (by simp;omega);rw [←List.map_drop,←List.map_take]at p1 p2;have p3:=ih e k1 h1 _ _ q1 g1 w;have rest:=mC ih is _ k2 a b q2 hc h2 hl g2 w;simp only [Op.eqItems,Sem.run_bind,p1,p2,p3,Result.andThen_ok];cases q1
  ·simp
  ·simpa using rest
theorem xR (d:Nat): ∀(n:Nat) (t:TypeId),H6 P n (d+n) t
 |0,t=>fun ks h=>by simp [gT]at h
 |n+1,t=>fun ks h a b q he w=>by
  have ih:=fun t=>xR d n t;have hl:=jc _ _ _ h;have hl2:=jK _ _ _ _ he;unfold gT at h;unfold valOf;rw [show d+(n+1)=(d+n)+1 from rfl]
  split at h
  ·rename_i ht;split at h
   ·simp only [Option.some.injEq]at h;subst h
    match a,b,he with
    | [.bool x],[.bool y],he=>
     simp only [bZ,Option.some.injEq,Bool.and_true]at he;simp only [List.map_cons,List.map_nil,List.headD_cons,cz,ht];rw [run_equalIn_bool' w _ _ _ _ ht,he]
   ·cases h
  ·rename_i k ht;split at h
   ·simp only [Option.some.injEq]at h;subst h
    match a,b,he with
    | [.int k1 x],[.int k2 y],he=>
     simp only [bZ]at he;split at he
     ·rename_i hk;simp only [Option.some.injEq,Bool.and_true]at he;obtain⟨rfl,rfl⟩:=hk;simp only [List.map_cons,List.map_nil,List.headD_cons,cz,ht];rw [run_equalIn_int w _ _ _ _ _ _ ht,‹(x==y)=q›]
     ·cases he
   ·cases h
  ·rename_i ht;split at h
   ·simp only [Option.some.injEq]at h;subst h
    match a,b,he with
    | [.str x],[.str y],he=>
     simp only [bZ,Option.some.injEq,Bool.and_true]at he;simp only [List.map_cons,List.map_nil,List.headD_cons,cz,ht];rw [run_equalIn_string w _ _ _ _ ht];simp [ByteArray.toList_eq,he]
   ·cases h
  ·rename_i fs ht;split at h
   ·rename_i hc;simp only [Bool.and_eq_true,Bool.not_eq_true']at hc;have hfo:P.fieldsOf t=fs:=(by simp [Program.fieldsOf,ht]);simp only [ht];rw [run_equalIn_struct w _ _ _ _ (by rw [hfo];exact ht) hc.2,hfo];exact lQ ih fs.toList 0 ks a b q (by rw [hl2.1,hl];exact hc.1.1) hc.1.2 h (by omega) (by simpa using he) w
   ·cases h
  ·rename_i m e ht;split at h
   ·rename_i hc;simp only [Bool.and_eq_true,decide_eq_true_eq]at hc;have hinf: ∃i,P.info? e=some i:=by
     obtain⟨m,rfl⟩: ∃m',m=m'+1:=⟨m-1,by omega⟩;rw [List.range_succ_eq_map,List.map_cons]at h;obtain⟨k1,_,h1,_⟩:=iV h;obtain⟨kd,hu⟩:=xQ h1;exact info_of_underlying hu
    obtain⟨i,hi⟩:=hinf;simp only [ht];rw [run_equalIn_array w _ _ _ ht hi];exact mC ih (List.range m) 0 ks a b q (by rw [hl2.1,hl];exact hc.2) h (by omega) (by simpa using he) w
   ·cases h
  ·cases h
theorem xS (d:Nat): ∀(n:Nat) (t:TypeId),adW P n (d+n) t
 |0,t=>fun ks h=>by simp [gT]at h
 |n+1,t=>fun ks h a hal e w=>by
  have ih:=fun t=>xS d n t;have hl:=jc _ _ _ h;unfold gT at h;unfold valOf;rw [show d+(n+1)=(d+n)+1 from rfl,Instr.checkKey]
  split at h
  ·rename_i ht;simp only [ht,Sem.run_bind,run_underlying ht,Result.andThen_ok,Sem.run_pure]
  ·rename_i k ht;simp only [ht,Sem.run_bind,run_underlying ht,Result.andThen_ok,Sem.run_pure]
  ·rename_i ht;simp only [ht,Sem.run_bind,run_underlying ht,Result.andThen_ok,Sem.run_pure]
  ·rename_i fs ht;split at h
   ·rename_i hc;simp only [Bool.and_eq_true,Bool.not_eq_true']at hc;simp only [ht,Sem.run_bind,run_underlying ht,Result.andThen_ok];rw [←Array.forIn_toList]
    have key: ∀(L:List Field) (o:Nat) (ks:List SK),fj P a.length o (L.map fun f=>(f.offset,f.type))=true→(L.all (·.name != "_"))=true→lP (gT P n) (L.map (·.type))=some ks→
      (forIn L PUnit.unit (fun f (_:PUnit)=>if f.name≠ "_" then (do
       let p←part f.type (a.map cz).toArray f.offset
       Instr.checkKey e (d+n) f.type p
       pure (ForInStep.yield PUnit.unit))else pure (ForInStep.yield PUnit.unit)):Sem PUnit).run P w= .ok PUnit.unit w:=by
     intro L
     induction L with
     |nil=>intro o ks _ _ _;simp
     |cons f L ihL=>
      intro o ks hc hn hk;simp only [List.map_cons,fj,Bool.and_eq_true,beq_iff_eq]at hc;obtain⟨rfl,hc⟩:=hc;simp only [List.all_cons,Bool.and_eq_true,bne_iff_ne,ne_eq]at hn;obtain⟨k1,k2,h1,h2,rfl⟩:=iV (by simpa using hk);have hk1:=jc n _ _ h1;have hle:=mB _ _ _ hc;have p1:=iq w h1 (a.map cz) f.offset (by simp;omega);rw [←List.map_drop,←List.map_take]at p1;have p2:=ih f.type k1 h1 ((a.drop f.offset).take (P.cellsOf f.type)) (by simp;omega) e w;have:=ihL _ _ hc (by simpa using hn.2) h2;simp only [List.forIn_cons,Sem.run_bind,hn.1,ne_eq,not_false_eq_true,if_true,p1,p2,Result.andThen_ok,Sem.run_pure];exact this
    have:=key fs.toList 0 ks (by rw [hal,hl];exact hc.1.1) hc.1.2 h;rw [this];rfl
   ·cases h
  ·rename_i m el ht;split at h
   ·rename_i hc;simp only [Bool.and_eq_true,decide_eq_true_eq]at hc;have hinf: ∃i,P.info? el=some i:=by
     obtain⟨m,rfl⟩: ∃m',m=m'+1:=⟨m-1,by omega⟩;rw [List.range_succ_eq_map,List.map_cons]at h;obtain⟨k1,_,h1,_⟩:=iV h;obtain⟨kd,hu⟩:=xQ h1;exact info_of_underlying hu
    obtain⟨i,hi⟩:=hinf;simp only [ht,Sem.run_bind,run_underlying ht,Result.andThen_ok];simp only [Std.Legacy.Range.forIn_eq_forIn_range',Std.Legacy.Range.size,Nat.sub_zero,Nat.add_one_sub_one,Nat.div_one];rw [←List.range_eq_range']
    have key: ∀(L:List Nat) (o:Nat) (ks:List SK),fj P a.length o (L.map fun i=>(i*P.cellsOf el,el))=true→lP (gT P n) (L.map fun _=>el)=some ks→
      (forIn L PUnit.unit (fun i (_:PUnit)=>do
       Instr.checkKey e (d+n) el (←part el (a.map cz).toArray (i*(←sizeOf el)))
       pure (ForInStep.yield PUnit.unit)):Sem PUnit).run P w= .ok PUnit.unit w:=by
     intro L
     induction L with
     |nil=>intro o ks _ _;simp
     |cons j L ihL=>
      intro o ks hc hk;simp only [List.map_cons,fj,Bool.and_eq_true,beq_iff_eq]at hc;obtain⟨rfl,hc⟩:=hc;obtain⟨k1,k2,h1,h2,rfl⟩:=iV (by simpa using hk);have hk1:=jc n _ _ h1;have hle:=mB _ _ _ hc;have p1:=iq w h1 (a.map cz) (j*P.cellsOf el) (by simp;omega);rw [←List.map_drop,←List.map_take]at p1;have p2:=ih el k1 h1 ((a.drop (j*P.cellsOf el)).take (P.cellsOf el)) (by simp;omega) e w;have:=ihL _ _ hc h2;simp only [List.forIn_cons,Sem.run_bind,run_sizeOf w hi,p1,p2,Result.andThen_ok,Sem.run_pure];exact this
    have:=key (List.range m) 0 ks (by rw [hal,hl];exact hc.2) h;rw [this];rfl
   ·cases h
  ·cases h
theorem K4 {t:TypeId}{ks:List SK}(n:Nat)(hn:n≤10000)(hg:P.eqGuardType P.depth t=false)(hk:gT P n t=some ks)(ha:fk P t=some true):Tc P t ks:=by
 refine⟨hg,fun a b q h w=>⟨?_,fun e=> ?_⟩⟩
 ·have h1:=xR (P:=P) (10000-n) n t ks hk a b q h w;rw [Nat.sub_add_cancel hn]at h1;unfold valOf at h1;unfold fk at ha;split at ha<;>rename_i hu<;>first|(rw [hu]at h1;exact h1)|(cases ha)
 ·have h1:=xS (P:=P) (10000-n) n t ks hk a (jK _ _ _ _ h).1 e w;rw [Nat.sub_add_cancel hn]at h1;unfold valOf at h1;unfold fk at ha;split at ha<;>rename_i hu<;>first|(rw [hu]at h1;exact h1)|(cases ha)
end
end
section
theorem vq (P:Program)(w:World)(d:Nat){t e:TypeId}{b:Option Addr}{len cap:Nat}(hu:P.underlying t=some (.slice e)):(Op.equalIn (d+1) t (.slice b len cap) (.slice none 0 0)).run P w= .ok b.isNone w:=by
 cases b<;>simp [Op.equalIn,aM w hu]
theorem H8 (P:Program)(w:World){t e:TypeId}{b:Option Addr}{len cap:Nat}(hu:P.underlying t=some (.slice e)):(binOp .eql t (.slice b len cap) (.slice none 0 0)).run P w= .ok (.bool b.isNone) w:=by
 have:=vq P w 9999 (b:=b) (len:=len) (cap:=cap) hu;simp only [binOp];simp only [Op.equal,Op.maxDepth,Sem.run_bind,this,Result.andThen_ok,Sem.run_pure]
section
variable {w:World}
theorem Ia (K:Ctx) (hK:iJ K) {n id:Nat} {f:FuncId} {g:Func} {A X D:Code} {t0 t1 t2:TypeId} {p3 p4:String} {a3 a4:Array Edge} {t t' e:TypeId} {st1 stX stD:bP}
  (hf:K.P.funcs[f]? =some g)
  (hb:g.body=some (.seq A (.seq (.seq (.region id #[⟨some 3, .move (.tmp 0),t0,p3,a3,none⟩,⟨some 4, .binOp .eql t (.tmp 3) (.const (.slice none 0 0)) t',t1,p4,a4,none⟩] false) (.cond (.tmp 4) X .skip)) D)))
  (hname:(g.name== "runtime.NumGoroutine")=false) (hnt:g.ntmps=8) (ht:K.P.underlying t=some (.slice e))
  (hA:dB K n f A ⟨[(0, .pure (.slice []))],[[],[]],8⟩=some (.normal,st1)) (h0:look st1.s 0= .pure (.slice []))
  (hX:dB K n f X ⟨(4, .pure (.bool true))::(3, .pure (.slice []))::st1.s,st1.h,8⟩=some (.ret,stX)) (hD:dB K n f D ⟨(4, .pure (.bool false))::(3, .pure (.slice []))::st1.s,st1.h,8⟩=some (.ret,stD))
  (rX:fC K g stX=some [.aS]) (rD:fC K g stD=some [.aS]):zd K.P f:=by
 intro w av cap;have hS:bf w (fun b=>b<w.heap.size) (fun _ _=>none) ([[],[]]:aj):=⟨fun nm x hx t b hb=>by simp at hb,fun nm t b hb=>by simp at hb,fun nm nm' t t' b h1 h2=>by simp at h1,fun nm t b hb=>by simp at hb,fun b hb=>hb⟩;have hst:kC w.heap.size none w (fun b=>b<w.heap.size) (fun _ _=>none) ⟨[(0, .pure (.slice []))],[[],[]],8⟩ {tmps:= #[.slice av 0 cap]++Array.replicate 7 undef,defers:=[]}:=by
  refine⟨hS,fun q=> ?_,by simp,by simp,Nat.le_refl _,⟨fun d hd=>by simp at hd, .nil⟩,fun l hl=>by cases hl⟩;rw [xT];simp only [look];split
  ·rename_i e;subst e;exact .pure _ _ (.fM _ _)
  ·exact dX _
 refine⟨by simp only [callFunc,Sem.run_bind,run_program,Result.andThen,hf,hname,hb];rfl, ?_⟩
 have fin: ∀(st:bP),fC K g st=some [.aS]→ ∀(e':Exit) (a':Act) (w':World),lL w.heap.size none ⟨[(0, .pure (.slice []))],[[],[]],8⟩ w (fun b=>b<w.heap.size) (fun _ _=>none) .ret st e' a' w'→
   e'= .ret∧LeavesInM (Fw none) 0 K.P g a'.tmps (fun e w'=>(∃a',e= .returned (.slice a' 0 0))∧w'.os=w.os∧w'.tape=w.tape∧w'.output=w.output∧w.heap.size≤w'.heap.size∧ ∀b,b<w.heap.size→w'.heap[b]? =w.heap[b]?) a'.defers .returning w':=by
  intro st hres e' a' w' hq;obtain⟨q1,q2,q3,S',μ',q4,q5⟩:=hq;refine⟨q1,vr (s:=st.s) (k:=st.h.length-1) a'.defers w' q4.defs q4.heap q5 (Nat.le_refl _) q4.fD fun w2 h2 e2 s2=> ?_⟩;obtain⟨u,u1,u2⟩:=tF K h2 s2 hres;refine⟨u,u1, ?_,e2.os,e2.tape,e2.out,e2.size,fun b hb=>e2.same b hb (.inl hb)⟩;have u3:aK w2 S' μ' (st.h.length-1) u .aS:=u2
  cases u3 with
  |aS a=>exact⟨a,rfl⟩
 have hn8:g.ntmps-(#[Value.slice av 0 cap]:Array Value).size=7:=(by rw [hnt];rfl);refine callsIn_of_wp_marks hf hb trivial ?_;rw [hn8];refine wpIn_seq (wpIn_mono (j4 K hK n f A _ _ _ hA _ none w _ _ _ hst) fun e' a1 w1 hq1=> ?_);obtain⟨q1,q2,q3,S1,μ1,q4,q5⟩:=hq1;simp only [eO]at q1;subst q1;simp only [Exit.then];have hv:=q4.fD 0;rw [h0]at hv;obtain⟨base,cap1,hbase,_⟩:=hv.pv.kM;have hlen:st1.h.length=2:=q2;refine wpIn_seq (wpIn_seq (wpIn_region ?_));have hsz:a1.tmps.size=8:=q4.nt.trans q3;have hr:List.range (#[(⟨some 3, .move (.tmp 0),t0,p3,a3,none⟩:Oper),⟨some 4, .binOp .eql t (.tmp 3) (.const (.slice none 0 0)) t',t1,p4,a4,none⟩]:Array Oper).size=[0,1]:=rfl;rw [hr];simp only [wpOpsIn];simp only [List.getElem?_toArray,List.getElem?_cons_zero,List.getElem?_cons_succ,Region.wanted,if_true];refine uY K hK (j4 K hK n) q4.heap q4.pos q4.fD (v:= .pure (.slice [])) (H':=st1.h) (fn:=f) (o:=⟨some 3, .move (.tmp 0),t0,p3,a3,none⟩) (s:=st1.s) (by simp [cM,gU,eP,ev,h0]) fun u3 w2 S2 μ2 hv3 hh3 he3 hl3=> ?_;obtain⟨base3,cap3,hu3,_⟩:=hv3.pv.kM;have hu3:u3= .slice base3 0 cap3:=hu3;subst hu3;have hs1: ∀q,aK w2 S2 μ2 (st1.h.length-1) (a1.tmps.getD q undef) (look st1.s q):=oe q4.fD q4.heap he3 (Nat.le_refl _) (Nat.le_refl _);obtain⟨z1,z2,z3,z4,z5⟩:=pD (st:=⟨st1.s,st1.h,8⟩) (st':=⟨(3, .pure (.slice []))::st1.s,st1.h,8⟩) hs1 hsz hv3 rfl rfl (dst:=some 3) (by simp [bP.put]);refine⟨fun _ _=>trivial, ?_⟩;rw [Oper.semAt_eq _ _ _ (fun c e=>by cases e)];have he0:(a1.put (some 3) (.slice base3 0 cap3)).eval (.tmp 3)= .slice base3 0 cap3:=by
  show (a1.put (some 3) (.slice base3 0 cap3)).tmps.getD 3 undef=_
  rw [j5 _ _ _ _ (by omega)];simp
 have hrun:(execOp (a1.put (some 3) (.slice base3 0 cap3)).eval ⟨some 4, .binOp .eql t (.tmp 3) (.const (.slice none 0 0)) t',t1,p4,a4,none⟩).run K.P w2= .ok (.value (.bool base3.isNone)) w2:=by
  have hc:(a1.put (some 3) (.slice base3 0 cap3)).eval (.const (.slice none 0 0))= .slice none 0 0:=rfl;have hg:(eqGuard .eql t (.tmp 3) (.const (.slice none 0 0)) (.slice base3 0 cap3) (.slice none 0 0)).run K.P w2= .ok () w2:=(by simp [eqGuard]);simp only [execOp,he0,hc,Sem.run_bind,hg,Result.andThen_ok,H8 K.P w2 ht,Sem.run_pure]
 rw [hrun,Oper.uponIn_value];simp only;have hb4:aK w2 S2 μ2 (st1.h.length-1) (.bool base3.isNone) (.pure (.bool base3.isNone)):= .pure _ _ (.bool _);obtain⟨y1,y2,y3,y4,y5⟩:=pD (st:=⟨(3, .pure (.slice []))::st1.s,st1.h,8⟩) (st':=⟨(4, .pure (.bool base3.isNone))::(3, .pure (.slice []))::st1.s,st1.h,8⟩) z1 (z2.trans rfl) hb4 rfl rfl (dst:=some 4) (by simp [bP.put])
 have hst2:kC w.heap.size none w2 S2 μ2 ⟨(4, .pure (.bool base3.isNone))::(3, .pure (.slice []))::st1.s,st1.h,8⟩ ((a1.put (some 3) (.slice base3 0 cap3)).put (some 4) (.bool base3.isNone)):=
  ⟨hh3,y1,y2.trans rfl,q4.pos,Nat.le_trans q4.low he3.size,by rw [y5,z5];exact q4.defs.ev he3,fun l hl=>by cases hl⟩
 have hc4:((a1.put (some 3) (.slice base3 0 cap3)).put (some 4) (.bool base3.isNone)).eval (.tmp 4)= .bool base3.isNone:=by
  show ((a1.put (some 3) (.slice base3 0 cap3)).put (some 4) (.bool base3.isNone)).tmps.getD 4 undef=_
  rw [j5 _ _ _ _ (by rw [z2];simp)];simp
 have hE:=q5.trans (he3.level (by simp [hlen]));simp only [Exit.then];refine wpIn_cond hc4 ?_
 have out: ∀(st:bP) (e':Exit) (a':Act) (w':World),lL w.heap.size none ⟨(4, .pure (.bool base3.isNone))::(3, .pure (.slice []))::st1.s,st1.h,8⟩ w2 S2 μ2 .ret st e' a' w'→
   lL w.heap.size none ⟨[(0, .pure (.slice []))],[[],[]],8⟩ w (fun b=>b<w.heap.size) (fun _ _=>none) .ret st e' a' w':=fun st e' a' w' hq=>by
  obtain⟨k1,k2,k3,S',μ',k4,k5⟩:=hq;exact⟨k1,k2.trans hlen,k3,S',μ',k4,hE.trans (k5.level (by simp [hlen]))⟩
 cases hbn:base3.isNone with
 |true=>
  simp only [if_true];rw [hbn]at hst2 out;refine wpIn_mono (j4 K hK n f X _ _ _ hX _ none w2 _ _ _ hst2) fun e' a' w' hq=> ?_;obtain⟨k1,k2⟩:=fin stX rX e' a' w' (out _ _ _ _ hq);subst k1;exact k2
 |false=>
  simp only [Bool.false_eq_true,if_false];rw [hbn]at hst2 out;refine wpIn_skip ?_;simp only [Exit.then];refine wpIn_mono (j4 K hK n f D _ _ _ hD _ none w2 _ _ _ hst2) fun e' a' w' hq=> ?_;obtain⟨k1,k2⟩:=fin stD rD e' a' w' (out _ _ _ _ hq);subst k1;exact k2
def uZ:Option (List GV)→Bool
 |some [.aS]=>true
 |_=>false
def isE:GV→Bool
 | .pure (.slice [])=>true
 |_=>false
def Ib (K:Ctx)(n:Nat)(f:FuncId)(g:Func)(A X D:Code)(t:TypeId):Bool:=
 match dB K n f A ⟨[(0, .pure (.slice []))],[[],[]],8⟩with
 |some (.normal,st1)=>
  isE (look st1.s 0) && (dY K.P t).isSome &&
  (match dB K n f X ⟨(4, .pure (.bool true))::(3, .pure (.slice []))::st1.s,st1.h,8⟩with|some (.ret,st)=>uZ (fC K g st)|_=>false) &&
  (match dB K n f D ⟨(4, .pure (.bool false))::(3, .pure (.slice []))::st1.s,st1.h,8⟩with|some (.ret,st)=>uZ (fC K g st)|_=>false)
 |_=>false
theorem vu {x:Option (List GV)}(h:uZ x=true):x=some [.aS]:=by
 unfold uZ at h;split at h
 ·rfl
 ·cases h
theorem kN (K:Ctx) (hK:iJ K) {n id:Nat} {f:FuncId} {g:Func} {A X D:Code} {t0 t1:TypeId} {p3 p4:String} {a3 a4:Array Edge} {t t':TypeId}
  (hf:K.P.funcs[f]? =some g)
  (hb:g.body=some (.seq A (.seq (.seq (.region id #[⟨some 3, .move (.tmp 0),t0,p3,a3,none⟩,⟨some 4, .binOp .eql t (.tmp 3) (.const (.slice none 0 0)) t',t1,p4,a4,none⟩] false) (.cond (.tmp 4) X .skip)) D)))
  (hname:(g.name== "runtime.NumGoroutine")=false) (hnt:g.ntmps=8) (h:Ib K n f g A X D t=true):zd K.P f:=by
 unfold Ib at h;split at h
 ·rename_i st1 hA;simp only [Bool.and_eq_true]at h;obtain⟨⟨⟨h0,ht⟩,hX⟩,hD⟩:=h;obtain⟨e,he⟩:=Option.isSome_iff_exists.1 ht;have h0':look st1.s 0= .pure (.slice []):=by
   unfold isE at h0;split at h0
   ·assumption
   ·cases h0
  split at hX
  ·rename_i stX eX;split at hD
   ·rename_i stD eD;exact Ia K hK (t2:=0) hf hb hname hnt (dC he) hA h0' eX eD (vu hX) (vu hD)
   ·cases hD
  ·cases hX
 ·cases h
end
end
section
open Go.ChangeShapes Go.WideShapes Go.RowKit Go.ChangeAt
section
variable {P:Program} {H:Type} {enc:TypeId×Value→H}
theorem pV (hl:laidOutB P=true){W W':World}(hb:Below W.heap.size W W'): ∀(ts:List TypeId) (vs:List Value) (ds:List (DataW H)) (ps:List MemPlace),(∀t∈ts,P.readableRec t=true∧t<P.types.size)→
  DataW.TrodAll enc P W 0 (fun _=>true) true ts vs ds ps→DataW.TrodAll enc P W' 0 (fun b=>decide (b<W.heap.size)) true ts vs ds ps
 | [],vs,ds,ps,_,h=>by
  obtain⟨rfl,rfl,rfl⟩:=trodAll_nil h;exact trodAll_mk0
 |t::ts,vs,ds,ps,ht,h=>by
  obtain⟨v,vs',d,ds',p,q,rfl,rfl,rfl,h1,h2⟩:=trodAll_cons h;obtain⟨a1,a2⟩:=ht t (List.mem_cons_self ..);have hlt: ∀x∈p,x.block<W.heap.size:=(by obtain⟨m,hm⟩:=h1;exact DataW.trod_lt m _ _ _ hm);exact trodAll_cons_mk (Below.trod hl a1 a2 h1 hb hlt) (pV hl hb ts vs' ds' q (fun t ht'=>ht t (List.mem_cons_of_mem _ ht')) h2)
theorem AA {w:World}{base:Nat}{n:Nat}: ∀(ts:List TypeId) (vs:List Value) (ds:List (DataW H)) (ps:List MemPlace),(∀t∈ts,jU P n t=true)→
  (∀(j:Nat) t v,ts[j]? =some t→vs[j]? =some v→Value.okWide P w .any base t v)→
  DataW.TrodAll enc P w 0 (fun _=>true) true ts vs ds ps→ds.length=ts.length∧ ∃pvs,xP P n ts pvs∧pvs.length=vs.length∧ ∀j,j<vs.length→aK w (S0 w) KZ 0 (vs.getD j undef) (.pure (pvs.getD j .dead))
 | [],vs,ds,ps,_,_,h=>by
  obtain⟨rfl,rfl,rfl⟩:=trodAll_nil h;exact⟨rfl,[],trivial,rfl,by simp⟩
 |t::ts,vs,ds,ps,ht,hok,h=>by
  obtain⟨v,vs',d,ds',p,q,rfl,rfl,rfl,h1,h2⟩:=trodAll_cons h;obtain⟨hl,pvs,a1,a2,a3⟩:=AA ts vs' ds' q (fun t ht'=>ht t (List.mem_cons_of_mem _ ht')) (fun j t v h1 h2=>hok (j+1) t v (by simpa using h1) (by simpa using h2)) h2;obtain⟨pv,b1,b2⟩:=K3 (ht t (List.mem_cons_self ..)) (hok 0 t v rfl rfl) h1;refine⟨by simp [hl],pv::pvs,⟨b2,a1⟩,by simp [a2],fun j hj=> ?_⟩
  cases j with
  |zero=>exact b1
  |succ j=>exact a3 j (by simpa using hj)
end
theorem aal (w:World):bf w (S0 w) KZ [[]]:=
 ⟨fun nm x hx=>by simp [aj.get,Fr.get]at hx,fun nm t b h=>by simp [KZ]at h,fun nm nm' t t' b h=>by simp [KZ]at h,fun nm t b h=>by simp [KZ]at h,fun b h=>h⟩
theorem AD {w w':World}{S':Nat→Prop}{μ':Mu}{l:Nat}(h:Ev l w (S0 w) KZ w' S' μ'):Below w.heap.size w w':=
 ⟨h.os,h.tape,h.out,h.size,fun k hk=>h.same k hk (.inl hk)⟩
theorem Fu {K:Ctx} (hK:iJ K) {f:FuncId} {pvs:List PV} {H':aj} (h:aI K (aC K) f (pvs.map .pure) 0 [[]]=some (.pure (.bool true),H')) {w:World} {vs:Array Value}
  (hl:pvs.length=vs.size) (hrel: ∀j,j<vs.size→aK w (S0 w) KZ 0 (vs.getD j undef) (.pure (pvs.getD j .dead))):
  Calls K.P f vs w fun e w'=>e= .returned (.bool true)∧Below w.heap.size w w':=by
 obtain⟨_,h2⟩:=ze K hK (AE K hK) h (aal w) (vs:=vs) (by simp [hl]) (fun j hj=>by
  have hj':j<pvs.length:=(by simpa using hj);have e:(pvs.map GV.pure).getD j aP= .pure (pvs.getD j .dead):=(by simp [List.getD_eq_getElem?_getD,hj']);rw [e];exact hrel j (by omega))
 refine(callsIn_wide (n:=0).1 h2).mono fun e w' hd=> ?_;obtain⟨u,S',μ',rfl,hv,_,hev,_⟩:=hd
 cases hv with
 |pure _ _ hp=>
  cases hp;exact⟨rfl,AD hev⟩
theorem Cx {H:Type} {enc:TypeId×Value→H} {C:Checked} {os:Os} {f:FuncId} {fn:Func} {s:ChangeSpec} {conds:List PathCond} {K:Ctx} (hK:iJ K) (hP:K.P=C.prog) (n:Nat)
  (own:ownKnob C.prog.godebug=none) (started:os.Started) (noInit:C.prog.inits.idxOf? f=none) (hlaid:laidOutB C.prog=true) (hfn:C.prog.funcs[f]? =some fn)
  (hv:s.vars=[]) (hs: ∀ds:List (DataW H),ds.length=fn.params.toList.length→s.fn H ds={results:=[.lit (.bool true)],args:=ds})
  {tb:TypeId} (hr:fn.resultTypes= #[tb]) (htb:C.prog.underlying tb=some .bool)
  (hpl:(fn.params.toList.all fun t=>jU C.prog n t && C.prog.readableRec t && decide (t<C.prog.types.size))=true)
  (witness: ∃(w:World) (tape:Tape) (i:Input),w.os=os∧(w.forCall tape i).Shaped C.prog∧i.vars=[]∧Input.okWide C.prog (w.forCall tape i) .any w.heap.size f i∧
   s.pre6 enc C.prog fn conds false (w.forCall tape i).memory i.args∧({}:Assume).holds C.prog (lone (Frame.enter C.prog f i.args .normal) [] (w.forCall tape i)))
  (hlaw: ∀pvs:List PV,xP C.prog n fn.params.toList pvs→ ∃H',aI K (aC K) f (pvs.map .pure) 0 [[]]=some (.pure (.bool true),H')):
  ReturnsInHanded {} C os f .any (s.pre6 enc C.prog fn conds false) (s.post enc C.prog fn false true false false):=by
 refine returnsInHanded_of_change own started noInit hfn witness ?_;intro W base args ds gs before hval hW hcnd _;have hW':=hW;obtain⟨p,q,hA,hV,rfl,hfz,hnd⟩:=hW;simp only [List.all_eq_true,Bool.and_eq_true,decide_eq_true_eq]at hpl;rw [hv]at hV;obtain⟨rfl,rfl⟩:=trodVars_none hV;obtain⟨hdl,pvs,a1,a2,a3⟩:=AA fn.params.toList args.toList ds p (fun t ht=>(hpl t ht).1.1) (fun j t v h1 h2=>hval j t v (by simpa using h1) (by simpa using h2)) hA;obtain⟨H',hg⟩:=hlaw pvs a1;have hc:=Fu hK hg (w:=W) (vs:=args) (by simpa using a2) (fun j hj=>by
  have:=a3 j (by simpa using hj);simpa [List.getD_eq_getElem?_getD]using this)
 rw [hP]at hc;refine hc.mono fun e W' ⟨he,bel⟩=> ?_;subst he;have hfn':s.fn H (ds++[])={results:=[.lit (.bool true)],args:=ds}:=(by rw [List.append_nil];exact hs ds hdl);refine⟨_,rfl,ds,[],p++[],[],p,[],hW', ?_, ?_, ?_,bel.frame _,fun h=>by cases h⟩
 ·rw [hfn',hr];exact trodAll_mk1 (shut_bool htb _)
 ·rw [hfn'];exact pV hlaid bel _ _ _ _ (fun t ht=>⟨(hpl t ht).1.2,(hpl t ht).2⟩) hA
 ·rw [hfn',hv];rfl
end
theorem PB (cl:List Nat)(t:Nat)(ks:List SK)(h:(K5 cl).eqs t=some ks):Tc Tryz.prog t ks:=by
 have h':ru t=some ks:=h;unfold ru at h';split at h';all_goals first|(cases h';exact K4 (P:=Tryz.prog) 5 (by omega) (by kernel_rfl) (by kernel_rfl) (by kernel_rfl))|cases h'
theorem sJ:iJ (K5 []) where
 tG:=fun f h=>by
  have:([]:List Nat).contains f=true:=h;simp at this
 eqs:=PB []
 mixed:=by kernel_rfl
theorem aam:iJ KC where
 tG:=fun f h=>by
  have h1:K6.contains f=true:=h;simp only [K6,List.contains_cons,List.contains_nil,Bool.or_false,Bool.or_eq_true,beq_iff_eq]at h1;rcases h1 with rfl|rfl|rfl|rfl|rfl|rfl
  ·exact kN (K5 []) sJ (n:=20) (g:=Tryz.f99) Tryz.func99 rfl rfl rfl (by kernel_rfl)
  ·exact kN (K5 []) sJ (n:=20) (g:=Tryz.f100) Tryz.func100 rfl rfl rfl (by kernel_rfl)
  ·exact kN (K5 []) sJ (n:=20) (g:=Tryz.f101) Tryz.func101 rfl rfl rfl (by kernel_rfl)
  ·exact kN (K5 []) sJ (n:=20) (g:=Tryz.f102) Tryz.func102 rfl rfl rfl (by kernel_rfl)
  ·exact kN (K5 []) sJ (n:=20) (g:=Tryz.f103) Tryz.func103 rfl rfl rfl (by kernel_rfl)
  ·exact kN (K5 []) sJ (n:=20) (g:=Tryz.f75) Tryz.func75 rfl rfl rfl (by kernel_rfl)
 eqs:=PB K6
 mixed:=by kernel_rfl
end Go.Gh
