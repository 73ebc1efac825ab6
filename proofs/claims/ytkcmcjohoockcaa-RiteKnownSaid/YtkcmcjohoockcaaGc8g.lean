/- Texts joined: the evaluator over ghost values, its soundness, the walks. Spaces struck and names made short by a program, for the size. -/
import Derived.Test.YtkcmcjohoockcaaGc8f
namespace Go.Gh
open Go.Proofs
set_option linter.unusedVariables false
set_option linter.unusedSimpArgs false
set_option linter.unnecessarySimpa false
set_option maxRecDepth 100000
set_option maxHeartbeats 8000000
section
variable {c:Nat} {H:ae}
def zb (H:ae):GV→PV→Prop
 | .pure p,q=>p=q
 | .aO,q=>q= .slice []
 | .ay nm es top lo len,q=> ∃rows v ro,H.get nm=some (.arr es rows v ro)∧v≤top∧rows.length=top∧lo=0∧len=top∧q= .slice rows
 |_,_=>False
def Gm (H:ae):List GV→List PV→Prop
 | [],[]=>True
 |g::l,q::m=>zb H g q∧Gm H l m
 |_,_=>False
def xE (H:ae):GV→PV→Prop
 | .agg l, .agg m=>Gm H l m
 | .pure p,q=>p=q
 |_,_=>False
@[simp] theorem nv {p q:PV}:zb H (.pure p) q=(p=q):= .trans rfl rfl
@[simp] theorem Q8 {q:PV}:zb H .aO q=(q= .slice []):= .trans rfl rfl
@[simp] theorem qq:Gm H [] []=True:= .trans rfl rfl
@[simp] theorem nw {g:GV}{q:PV}{l:List GV}{m:List PV}:Gm H (g::l) (q::m)=(zb H g q∧Gm H l m):= .trans rfl rfl
@[simp] theorem qt {l:List GV}{m:List PV}:xE H (.agg l) (.agg m)=Gm H l m:= .trans rfl rfl
def gR (H1 H2:ae):Prop:= ∀nm es rows v ro,H1.get nm=some (.arr es rows v ro)→ ∃ro',H2.get nm=some (.arr es rows v ro')
theorem gR.refl (H:ae):gR H H:=fun _ _ _ _ ro h=>⟨ro,h⟩
theorem gR.trans {A B C:ae}(h1:gR A B)(h2:gR B C):gR A C:=fun nm es rows v ro h=>by
 obtain⟨r1,a⟩:=h1 nm es rows v ro h;exact h2 nm es rows v r1 a
theorem zc {H1 H2:ae}(h:gR H1 H2): ∀{g:GV} {q:PV},zb H1 g q→zb H2 g q:=by
 intro g q hg
 cases g with
 |ay nm es top lo len=>
  obtain⟨rows,v,ro,a,b,d⟩:=hg;obtain⟨ro',e⟩:=h _ _ _ _ _ a;exact⟨rows,v,ro',e,b,d⟩
 |pure p=>exact hg
 |aO=>exact hg
 |_=>exact hg.elim
theorem um {H1 H2:ae}(h:gR H1 H2): ∀{l:List GV} {m:List PV},Gm H1 l m→Gm H2 l m
 | [],[],_=>trivial
 |g::l,q::m,hl=>⟨zc h hl.1,um h hl.2⟩
 | [],_::_,hl=>hl.elim
 |_::_,[],hl=>hl.elim
theorem zd {H1 H2:ae}(h:gR H1 H2){g:GV}{q:PV}(hg:xE H1 g q):xE H2 g q:=by
 cases g with
 |agg l=>
  cases q with
  |agg m=>exact um h hg
  |_=>exact hg.elim
 |pure p=>exact hg
 |_=>cases q<;>exact hg.elim
theorem mT {g:GV}{q:PV}(h:zb H g q):cb (dp H g).1= .pure q∧gR H (dp H g).2:=by
 cases g with
 |ay nm es top lo len=>
  obtain⟨rows,v,ro,h1,h2,h3,rfl,rfl,rfl⟩:=h;subst h3;have e:df H (.ay nm es rows.length 0 rows.length)=(.slice rows,H.set nm (.arr es rows v true)):=(by simp [h1,h2]);simp only [dp,e];refine⟨rfl,fun nm' es' rows' v' ro' hg=> ?_⟩;by_cases hn:nm'=nm
  ·subst hn;rw [h1]at hg;cases hg;exact⟨true,ae.cw _ (ae.cj h1)⟩
  ·exact⟨ro',(ae.a9 _ hn).trans hg⟩
 |pure p=>cases h;exact⟨rfl,gR.refl _⟩
 |aO=>cases h;exact⟨rfl,gR.refl _⟩
 |_=>exact h.elim
theorem pg: ∀{l:List GV} {m:List PV} {H:ae},Gm H l m→(eZ H l).1.map cb=m.map .pure∧gR H (eZ H l).2
 | [],[],H,_=>⟨rfl,gR.refl _⟩
 |g::l,q::m,H,h=>by
  obtain⟨a,b⟩:=mT h.1;obtain⟨d,e⟩:=pg (um b h.2);simp only [eZ,List.map_cons,a,d];exact⟨trivial,b.trans e⟩
 | [],_::_,_,hl=>hl.elim
 |_::_,[],_,hl=>hl.elim
theorem ny: ∀{l:List GV} {ps:List PV},bd l=some ps→l=ps.map .pure
 | [],ps,h=>by cases h;rfl
 |g::l,ps,h=>by
  cases g with
  |pure p=>
   rw [uo]at h
   cases hl:bd l with
   |none=>rw [hl]at h;cases h
   |some qs=>rw [hl]at h;cases h;rw [ny hl];rfl
  |_=>simp [bd]at h
theorem vT {l:List GV}{m:List PV}(h:l.map cb=m.map .pure):canon (cO l)= .pure (.agg m):=by
 rw [Af]
 cases hl:bd l with
 |some ps=>
  have e:=ny hl;subst e;have:ps=m:=by
   have h':ps.map GV.pure=m.map .pure:=(by simpa [cb,Function.comp_def]using h);exact(List.map_inj_right (fun a b e=>by cases e;rfl)).1 h'
  rw [this];rfl
 |none=>
  show canon (.agg l)=_
  rw [Ah,h];simp
theorem qu {g:GV}{q:PV}(h:xE H g q):canon (cZ H g).1= .pure q∧gR H (cZ H g).2:=by
 cases g with
 |agg l=>
  cases q with
  |agg m=>
   obtain⟨a,b⟩:=pg (H:=H) (l:=l) (m:=m) h;exact⟨vT a,b⟩
  |_=>exact h.elim
 |pure p=>cases h;exact⟨rfl,gR.refl _⟩
 |_=>cases q<;>exact h.elim
theorem Q9 {g:GV}{q:PV}(h:xE H g q):(br H [g]).1.map canon=[.pure q]:=by
 simp only [br,List.map_cons,List.map_nil,(qu h).1]
theorem nz {g:GV}{r:List GV}:(br H (g::r)).1.map canon=canon (cZ H g).1::(br (cZ H g).2 r).1.map canon:=rfl
end
section
variable {c:Nat} {H:ae}
theorem vU (l:List ai)(hn:l.length≤1000000)(Q:GX→bE→Prop)(hH:0<H.length): ∀k i:Nat,i+k=l.length→
  Q (.exit 0) ⟨[(4,aG)],H,26⟩→
  jf KC au 27 (lp Try.f27 0) [0,1,5] [4] Q [(0, .pure (.slice (l.map ai.row))),(1, .pure (.slice (l.map ai.row))),(5, .pure (.int .i64 i))] H 26:=by
 intro k
 induction k with
 |zero=>
  intro i hi h1;apply aw;conv=>arg 4;whnf
  have: ¬i<l.length:=(by omega);simp [this,hH];exact h1
 |succ k ih=>
  intro i hi h1;have hia:i<l.length:=(by omega);have hw:=dM (x:=(i:Int)+1) (by omega) (by omega);have ih':=ih (i+1) (by omega) h1;apply aw;conv=>arg 4;whnf
  simp [hia,hH,ai.row,hw];simpa [ai.row]using ih'
theorem Ai (l:List ai)(hn:l.length≤1000000)(hH:0<H.length):
  aK KC (aE KC) 27 [.pure (.slice (l.map ai.row)), .pure (.slice (l.map ai.row))] c H=some (.pure (.bool true),H):=by
 refine ey rfl rfl rfl rfl rfl hH fun H hH=> ?_;refine aU (aM KC au Try.func27 rfl rfl KW (by simp) hH ?_);simp;refine vU (H:=[]::H) l hn _ (by simp) l.length 0 (by omega) ?_;simp [ah]
structure jM (r:aI):Prop where
 p:r.ak.length≤1000000
 t:r.aa.length≤1000000
 s:r.seen.length≤1000000
 l:r.bg.length≤1000000
 a:r.aj.length≤1000000
theorem LF {a b:GV}{p q:PV}(h1:xE H a p)(h2:xE H b q):(br H [a,b]).1.map canon=[.pure p, .pure q]:=by
 obtain⟨x1,y1⟩:=qu h1;obtain⟨x2,y2⟩:=qu (zd y1 h2);rw [nz,x1,nz,x2];rfl
end
section
def aR (hs:List bt)(w:Nat)(hand:Int):Int:=if hand=0 then (hs.getD w bB).l else (hs.getD w bB).r
theorem bS (s:az)(w:Nat)(hand:Int):bj s w hand=aR s.ao w hand:=rfl
def uq (h:bt)(t:Int):Nat:=(if h.l=t then 1 else 0)+(if h.r=t then 1 else 0)
def ib:List bt→Int→Nat
 | [],_=>0
 |h::l,t=>uq h t+ib l t
theorem vV: ∀(l:List bt) (w:Nat) (h:bt) (t:Int),w<l.length→ib (l.set w h) t+uq (l.getD w bB) t=ib l t+uq h t
 | [],w,h,t,hw=>by simp at hw
 |x::l,0,h,t,hw=>by simp [ib];omega
 |x::l,w+1,h,t,hw=>by
  have:=vV l w h t (by simpa using hw);simp only [List.set_cons_succ,ib,List.getD_cons_succ]at this⊢;omega
theorem nA (l:List bt)(w:Nat)(hand v t:Int)(hw:w<l.length):ib (aW l w hand v) t+(if aR l w hand=t then 1 else 0)=ib l t+(if v=t then 1 else 0):=by
 unfold aW;have:=vV l w (if hand=0 then ⟨v,(l.getD w bB).r⟩else ⟨(l.getD w bB).l,v⟩) t hw;unfold aR;by_cases h:hand=0
 ·simp only [h,if_true,uq]at this⊢;omega
 ·simp only [h,if_false,uq]at this⊢;omega
theorem vW: ∀(l:List bt) (w:Nat) (t:Int),w<l.length→uq (l.getD w bB) t≤ib l t
 | [],w,t,hw=>by simp at hw
 |x::l,0,t,hw=>by simp [ib]
 |x::l,w+1,t,hw=>by
  have:=vW l w t (by simpa using hw);simp only [ib,List.getD_cons_succ]at this⊢;omega
theorem Gn (l:List bt)(w:Nat)(hand t:Int)(hw:w<l.length)(h:aR l w hand=t):1≤ib l t:=by
 have:=vW l w t hw;unfold aR at h;unfold uq at this;split at h
 ·rw [if_pos h]at this;omega
 ·rw [if_pos h]at this;omega
theorem gK (l:List bt)(w:Nat)(hand v:Int):(aW l w hand v).length=l.length:=by simp [aW]
theorem dq {l:List bt}{w:Nat}{hand v:Int}(p:Nat)(hw:w<l.length):(aW l w hand v).getD p bB=if p=w then (if hand=0 then ⟨v,(l.getD w bB).r⟩else ⟨(l.getD w bB).l,v⟩)else l.getD p bB:=by
 unfold aW;by_cases h:p=w
 ·subst h;simp [List.getD_eq_getElem?_getD,hw]
 ·have h': ¬w=p:=fun e=>h e.symm;simp [List.getD_eq_getElem?_getD,List.getElem?_set,h,h']
theorem LG {l:List bt}{w:Nat}{hand v:Int}(p:Nat)(hd:Int)(hw:w<l.length)(h0:hand=0∨hand=1)(h1:hd=0∨hd=1):aR (aW l w hand v) p hd=if p=w∧hd=hand then v else aR l p hd:=by
 unfold aR;rw [dq p hw];by_cases h:p=w
 ·subst h;rcases h0 with rfl|rfl<;>rcases h1 with rfl|rfl<;>simp
 ·simp [h]
theorem aX {α:Type}{l:List α}{i:Nat}{d:α}(h:i<l.length):l.getD i d=l[i]:=by simp [List.getD_eq_getElem?_getD,h]
theorem qQ {α:Type}(l:List α)(i:Nat)(d:α):l.set i (l.getD i d)=l:=by
 by_cases h:i<l.length
 ·rw [aX h];simp
 ·exact List.set_eq_of_length_le (by omega)
theorem LI: ∀q:Fin 16,∀b∈[(1:Int),2,4],(if ((IntKind.i64.wrap (((q.1:Nat):Int).tdiv b)).tmod 2==1)then 0≤IntKind.i64.wrap (((q.1:Nat):Int)-b)∧IntKind.i64.wrap (((q.1:Nat):Int)-b)<16 else 0≤IntKind.i64.wrap (((q.1:Nat):Int)+b)∧IntKind.i64.wrap (((q.1:Nat):Int)+b)<16):=by decide
theorem Ci {ts:List cg}{t:Nat}{bit:Int}{on:Bool}(ht:t<ts.length)(hs:0≤(ts.getD t aJ).state∧(ts.getD t aJ).state<16)(hb:bit=1∨bit=2∨bit=4):
  ∃st,0≤st∧st<16∧cY ts t bit on=ts.set t ⟨(ts.getD t aJ).cell,st⟩:=by
 rw [iS];by_cases h:eY ts t bit=on
 ·rw [if_pos h];refine⟨_,hs.1,hs.2, ?_⟩;exact(qQ ts t aJ).symm
 ·rw [if_neg h];have hm:bit∈[(1:Int),2,4]:=(by simp;exact hb);have h0:decide ((0:Int)≤t)=true:=(by simp);rw [gf,h0,Bool.true_and]at h;simp only [Int.toNat_natCast]at h;obtain⟨q,hq⟩:=Int.eq_ofNat_of_zero_le hs.1;have hq16:q<16:=(by omega);have B:=LI ⟨q,hq16⟩ bit hm;simp only [←hq]at B;cases on
  ·have h':((IntKind.i64.wrap ((ts.getD t aJ).state.tdiv bit)).tmod 2==1)=true:=(by simpa using h);rw [if_pos h']at B;exact⟨_,B.1,B.2,by simp⟩
  ·have h': ¬((IntKind.i64.wrap ((ts.getD t aJ).state.tdiv bit)).tmod 2==1)=true:=(by simpa using h);rw [if_neg h']at B;exact⟨_,B.1,B.2,by simp⟩
structure e9 (r:aI)(s:az):Prop extends SU r s where
 pr: ∀x∈s.ak,0≤x∧x<r.wide*r.deep
 pn:s.ak.Nodup
 th: ∀t:Nat,t<s.aa.length→(ib s.ao t=1∧(s.aa.getD t aJ).cell= -1)∨(ib s.ao t=0∧0≤(s.aa.getD t aJ).cell∧(s.aa.getD t aJ).cell<r.wide*r.deep)
 st: ∀t:Nat,t<s.aa.length→0≤(s.aa.getD t aJ).state∧(s.aa.getD t aJ).state<16
structure AB (r:aI)(w:Nat)(a:ai):Prop where
 aY:a.aY=w
 wl:w<r.ak.length
 hand:a.hand=0∨a.hand=1
 kind:1≤a.kind∧a.kind≤8
 take:a.kind=2→ ∃t:Nat,a.bL=t∧t<r.aa.length
 sI:a.kind=4→ ∃o:Nat,a.other=o∧o<r.ak.length∧o≠w
 step:a.kind=1→0≤a.cell∧a.cell<r.wide*r.deep
 form:kP a=true
theorem fL {r:aI}{s:az}(h:SU r s){w:Nat}{hand:Int}(hw:w<r.ak.length):aR s.ao w hand<s.aa.length∧ -1≤aR s.ao w hand:=by
 have hl:w<s.ao.length:=(by rw [h.hl];exact hw);have:=h.hr w hl;unfold aR;rw [aX hl];split
 ·exact⟨this.1,this.2.2.1⟩
 ·exact⟨this.2.1,this.2.2.2⟩
theorem xO {l:List Int}(hn:l.Nodup){w:Nat}{c:Int}(hc:c∉l):(l.set w c).Nodup:=by
 induction l generalizing w with
 |nil=>simp
 |cons x l ih=>
  simp only [List.mem_cons,not_or]at hc;rw [List.nodup_cons]at hn
  cases w with
  |zero=>simp [hc.2,hn.2]
  |succ w=>
   rw [List.set_cons_succ,List.nodup_cons];refine⟨fun h=> ?_,ih hn.2 hc.2⟩;rcases List.mem_or_eq_of_mem_set h with h|h
   ·exact hn.1 h
   ·exact hc.1 h.symm
section
variable {r:aI} {s:az} {w:Nat} {a:ai}
theorem jo (h:a.kind=1):dt s w a={s with ak:=s.ak.set w a.cell}:=by rw [jm,if_pos h]
theorem lu (h:a.kind=2):dt s w a={s with ao:=aW s.ao w a.hand a.bL,aa:=s.aa.set a.bL.toNat ⟨-1,(s.aa.getD a.bL.toNat aJ).state⟩}:=by rw [jm,if_neg (by omega),if_pos h]
theorem lx (h:a.kind=3):dt s w a={s with ao:=aW s.ao w a.hand (-1),aa:=s.aa.set (aR s.ao w a.hand).toNat ⟨s.ak.getD w 0,(s.aa.getD (aR s.ao w a.hand).toNat aJ).state⟩}:=by rw [jm,if_neg (by omega),if_neg (by omega),if_pos h];rfl
theorem ly (h:a.kind=4):dt s w a={s with ao:=aW (aW s.ao a.other.toNat (de s.ao a.other.toNat) (aR s.ao w a.hand)) w a.hand (-1)}:=by rw [jm,if_neg (by omega),if_neg (by omega),if_neg (by omega),if_pos h];rfl
theorem lz (h:a.kind=5):dt s w a={s with aa:=cY s.aa (aR s.ao w (1-a.hand)).toNat 1 true}:=by rw [jm,if_neg (by omega),if_neg (by omega),if_neg (by omega),if_neg (by omega),if_pos h];rfl
theorem lA (h:a.kind=6):dt s w a={s with aa:=cY (cY (cY s.aa (aR s.ao w a.hand).toNat 2 false) (aR s.ao w a.hand).toNat 1 false) (aR s.ao w (1-a.hand)).toNat 2 true}:=by rw [jm,if_neg (by omega),if_neg (by omega),if_neg (by omega),if_neg (by omega),if_neg (by omega),if_pos h];rfl
theorem lB (h:a.kind=7):dt s w a={s with aa:=cY s.aa (aR s.ao w a.hand).toNat 4 true}:=by rw [jm,if_neg (by omega),if_neg (by omega),if_neg (by omega),if_neg (by omega),if_neg (by omega),if_neg (by omega),if_pos h];rfl
theorem lC (h:a.kind=8):dt s w a={s with aa:=cY s.aa (aR s.ao w a.hand).toNat 4 false}:=by rw [jm,if_neg (by omega),if_neg (by omega),if_neg (by omega),if_neg (by omega),if_neg (by omega),if_neg (by omega),if_neg (by omega)];rfl
theorem ur (h:a.kind=1):cd r s w a=(!(s.ak.contains a.cell) && iQ r.wide (s.ak.getD w 0) a.cell):=by rw [gP,if_pos h]
theorem xP (h:a.kind=2):cd r s w a=(aR s.ao w a.hand== -1 && (s.aa.getD a.bL.toNat aJ).cell==s.ak.getD w 0):=by rw [gP,if_neg (by omega),if_pos h];rfl
theorem xQ (h:a.kind=3):cd r s w a=decide (0≤aR s.ao w a.hand):=by rw [gP,if_neg (by omega),if_neg (by omega),if_pos h];rfl
theorem uu (h:a.kind=4):cd r s w a=(decide (0≤aR s.ao w a.hand) && iQ r.wide (s.ak.getD w 0) (s.ak.getD a.other.toNat 0) && decide (0≤de s.ao a.other.toNat)):=by rw [gP,if_neg (by omega),if_neg (by omega),if_neg (by omega),if_pos h];rfl
theorem uv (h:a.kind=5):cd r s w a=(decide (0≤aR s.ao w a.hand) && (r.aa.getD (aR s.ao w a.hand).toNat cX).sZ && decide (0≤aR s.ao w (1-a.hand))):=by rw [gP,if_neg (by omega),if_neg (by omega),if_neg (by omega),if_neg (by omega),if_pos h];rfl
theorem qR (h:a.kind=6):cd r s w a=(eY s.aa (aR s.ao w a.hand) 2 && !eY s.aa (aR s.ao w a.hand) 4 && decide (0≤aR s.ao w (1-a.hand)) && !eY s.aa (aR s.ao w (1-a.hand)) 2 && !eY s.aa (aR s.ao w (1-a.hand)) 4):=by rw [gP,if_neg (by omega),if_neg (by omega),if_neg (by omega),if_neg (by omega),if_neg (by omega),if_pos h];rfl
theorem uw (h:a.kind=7):cd r s w a=(decide (0≤aR s.ao w a.hand) && !eY s.aa (aR s.ao w a.hand) 4):=by rw [gP,if_neg (by omega),if_neg (by omega),if_neg (by omega),if_neg (by omega),if_neg (by omega),if_neg (by omega),if_pos h];rfl
theorem ux (h:a.kind=8):cd r s w a=eY s.aa (aR s.ao w a.hand) 4:=by rw [gP,if_neg (by omega),if_neg (by omega),if_neg (by omega),if_neg (by omega),if_neg (by omega),if_neg (by omega),if_neg (by omega)];rfl
theorem ka (h:1≤a.kind∧a.kind≤8):a.kind=1∨a.kind=2∨a.kind=3∨a.kind=4∨a.kind=5∨a.kind=6∨a.kind=7∨a.kind=8:=by omega
theorem vX {ts:List cg}{x b:Int}(h:eY ts x b=true):0≤x:=by
 rw [gf]at h;simp at h;exact h.1
end
theorem qS {r:aI}{s:az}{w:Nat}{a:ai}(hS:e9 r s)(hA:AB r w a)(hp:cd r s w a=true):LC s w a:=by
 have e1:=hS.pl;have e2:=hS.hl;have e3:=hS.tl;have wl:=hA.wl;have R0:=fun(hd:Int)=>fL hS.toSU (w:=w) (hand:=hd) wl;have nat: ∀x:Int,0≤x→x<s.aa.length→ ∃t:Nat,x=t∧t<s.aa.length:=fun x h1 h2=>⟨x.toNat,by omega,by omega⟩;have held:3≤a.kind→0≤aR s.ao w a.hand:=fun h3=>by
  rcases ka hA.kind with k|k|k|k|k|k|k|k
  ·omega
  ·omega
  ·rw [xQ k]at hp;simpa using hp
  ·rw [uu k]at hp;simp at hp;exact hp.1.1
  ·rw [uv k]at hp;simp at hp;exact hp.1.1
  ·rw [qR k]at hp;simp at hp;exact vX hp.1.1.1.1
  ·rw [uw k]at hp;simp at hp;exact hp.1
  ·rw [ux k]at hp;exact vX hp
 refine⟨by omega,by omega,hA.aY,hA.hand,hA.kind,fun h=> ?_,fun h=>nat _ (held h) (R0 _).1,fun h=> ?_,fun h=>nat _ ?_ (R0 _).1⟩
 ·obtain⟨t,h1,h2⟩:=hA.take h;exact⟨t,h1,by omega⟩
 ·obtain⟨o,h1,h2,h3⟩:=hA.sI h;rw [uu h,h1]at hp;simp at hp;refine⟨o,h1,by omega,h3, ?_⟩;have:=hp.2;unfold de at this⊢;split
  ·exact .inl rfl
  ·rename_i hh;rw [if_neg hh]at this;split
   ·exact .inr rfl
   ·rename_i hh2;rw [if_neg hh2]at this;omega
 ·show 0≤aR s.ao w (1-a.hand)
  rcases h with h|h
  ·rw [uv h]at hp;simp at hp;exact hp.2
  ·rw [qR h]at hp;simp at hp;exact hp.1.1.2
theorem cell_of {r:aI}{s:az}(hS:e9 r s){w:Nat}(hw:w<r.ak.length):0≤s.ak.getD w 0∧s.ak.getD w 0<r.wide*r.deep:=by
 have hl:w<s.ak.length:=(by rw [hS.pl];exact hw);rw [aX hl];exact hS.pr _ (List.getElem_mem hl)
theorem e9.LJ {r:aI}{s:az}(hS:e9 r s)(ts:List cg)(hl:ts.length=s.aa.length)(hc: ∀t:Nat,t<s.aa.length→(ts.getD t aJ).cell=(s.aa.getD t aJ).cell∧0≤(ts.getD t aJ).state∧(ts.getD t aJ).state<16):e9 r {s with aa:=ts} where
 pl:=hS.pl
 hl:=hS.hl
 tl:=hl.trans hS.tl
 hr:=fun i h=>by have:=hS.hr i h;rw [←hl]at this;exact this
 pr:=hS.pr
 pn:=hS.pn
 th:=fun t h=>by
  have h':t<s.aa.length:=(by rw [←hl];exact h);rw [(hc t h').1];exact hS.th t h'
 st:=fun t h=>(hc t (by rw [←hl];exact h)).2
theorem qT {α:Type}{l:List α}{i j:Nat}{x d:α}(hj:j<l.length):(l.set i x).getD j d=if i=j then x else l.getD j d:=by
 simp only [List.getD_eq_getElem?_getD,List.getElem?_set];split
 ·rename_i h;subst h;simp [hj]
 ·rfl
theorem mU {ts:List cg}{t:Nat}{bit:Int}{on:Bool}(hst: ∀t:Nat,t<ts.length→0≤(ts.getD t aJ).state∧(ts.getD t aJ).state<16)(ht:t<ts.length)(hb:bit=1∨bit=2∨bit=4):
  (cY ts t bit on).length=ts.length∧ ∀u:Nat,u<ts.length→((cY ts t bit on).getD u aJ).cell=(ts.getD u aJ).cell∧0≤((cY ts t bit on).getD u aJ).state∧((cY ts t bit on).getD u aJ).state<16:=by
 obtain⟨st,h1,h2,h3⟩:=Ci (on:=on) ht (hst t ht) hb;rw [h3];refine⟨by simp,fun u hu=> ?_⟩;rw [qT hu];split
 ·rename_i e;subst e;exact⟨rfl,h1,h2⟩
 ·exact⟨rfl,hst u hu⟩
theorem e9.set {r:aI}{s:az}(hS:e9 r s){t:Nat}{bit:Int}{on:Bool}(ht:t<s.aa.length)(hb:bit=1∨bit=2∨bit=4):e9 r {s with aa:=cY s.aa t bit on}:=by
 obtain⟨a,b⟩:=mU (on:=on) hS.st ht hb;exact hS.LJ _ a b
theorem e9.T5 {r : aI} {s : az} {w : Nat} {a : ai} (hS : e9 r s) (hA : AB r w a) (hp : cd r s w a = true) : e9 r (dt s w a) := by
  have D := qS hS hA hp
  have e1 := hS.pl
  have e2 := hS.hl
  have e3 := hS.tl
  have wl := hA.wl
  have hh := hA.hand
  have hk := hA.kind
  have hwh : w < s.ao.length := by omega
  have hrp : ∀ v : Int, -1 ≤ v → v < s.aa.length → ∀ i (h : i < (aW s.ao w a.hand v).length), (aW s.ao w a.hand v)[i].l < s.aa.length ∧ (aW s.ao w a.hand v)[i].r < s.aa.length ∧ -1 ≤ (aW s.ao w a.hand v)[i].l ∧ -1 ≤ (aW s.ao w a.hand v)[i].r := fun v h1 h2 i hi => by
    rw [← aX (d := bB) hi, dq i hwh]
    have hi' : i < s.ao.length := by simpa [aW] using hi
    have q := hS.hr i hi'
    split
    · rename_i e; subst e
      rw [aX hi']
      split
      · exact ⟨h2, q.2.1, h1, q.2.2.2⟩
      · exact ⟨q.1, h2, q.2.2.1, h1⟩
    · rw [aX hi']; exact q
  rcases ka hA.kind with k1 | k2 | k3 | k4 | k5 | k6 | k7 | k8
  · rw [jo k1]
    rw [ur k1] at hp
    obtain ⟨c1, c2⟩ := hA.step k1
    simp only [Bool.and_eq_true, Bool.not_eq_true', List.contains_eq_mem] at hp
    have hnc : a.cell ∉ s.ak := by simpa using hp.1
    exact { pl := by simpa using hS.pl, hl := hS.hl, tl := hS.tl, hr := hS.hr, pr := fun x hx => by
              rcases List.mem_or_eq_of_mem_set hx with h | h
              · exact hS.pr x h
              · subst h; exact ⟨c1, c2⟩
            pn := xO hS.pn hnc, th := hS.th, st := hS.st }
  · obtain ⟨t, ht1, ht2⟩ := D.take k2
    have C := cell_of hS wl
    rw [xP k2] at hp
    rw [lu k2]
    simp only [ht1, Int.toNat_natCast, Bool.and_eq_true, beq_iff_eq] at hp ⊢
    obtain ⟨p1, p2⟩ := hp
    have cnt := fun u => nA s.ao w a.hand t u hwh
    have tt := hS.th t ht2
    have hrt := hrp t (by omega) (by omega)
    refine { pl := hS.pl, hl := by simpa [gK] using hS.hl, tl := by simpa using hS.tl, hr := fun i h => by rw [List.length_set]; exact hrt i h, pr := hS.pr, pn := hS.pn, th := fun u hu => ?_, st := fun u hu => ?_ }
    · have hu' : u < s.aa.length := by simpa using hu
      have q := hS.th u hu'
      have := cnt u
      rw [p1] at this
      rw [qT hu']
      by_cases e : t = u
      · subst e
        have e1 : ¬ ((-1 : Int) = (t : Int)) := by omega
        simp only [e1, if_true, if_false, eq_self] at this ⊢
        exact .inl ⟨by omega, trivial⟩
      · have e1 : ¬ ((-1 : Int) = (u : Int)) := by omega
        have e2 : ¬ ((t : Int) = (u : Int)) := by omega
        simp only [e, e1, e2, if_false] at this ⊢
        rw [show ib (aW s.ao w a.hand t) u = ib s.ao u by omega]
        exact q
    · have hu' : u < s.aa.length := by simpa using hu
      rw [qT hu']
      split
      · exact hS.st t ht2
      · exact hS.st u hu'
  · obtain ⟨t, ht1', ht2⟩ := D.held (by omega)
    rw [bS] at ht1'
    have C := cell_of hS wl
    rw [lx k3]
    simp only [ht1', Int.toNat_natCast]
    have cnt := fun u => nA s.ao w a.hand (-1) u hwh
    have tt := hS.th t ht2
    have hrt := hrp (-1) (by omega) (by omega)
    have ca := Gn s.ao w a.hand t hwh ht1'
    refine { pl := hS.pl, hl := by simpa [gK] using hS.hl, tl := by simpa using hS.tl, hr := fun i h => by rw [List.length_set]; exact hrt i h, pr := hS.pr, pn := hS.pn, th := fun u hu => ?_, st := fun u hu => ?_ }
    · have hu' : u < s.aa.length := by simpa using hu
      have q := hS.th u hu'
      have := cnt u
      rw [ht1'] at this
      have e1 : ¬ ((-1 : Int) = (u : Int)) := by omega
      rw [qT hu']
      by_cases e : t = u
      · subst e
        simp only [e1, if_true, if_false] at this ⊢
        omega
      · have e2 : ¬ ((t : Int) = (u : Int)) := by omega
        simp only [e, e1, e2, if_false] at this ⊢
        rw [show ib (aW s.ao w a.hand (-1)) u = ib s.ao u by omega]
        exact q
    · have hu' : u < s.aa.length := by simpa using hu
      rw [qT hu']
      split
      · exact hS.st t ht2
      · exact hS.st u hu'
  · obtain ⟨t, ht1', ht2⟩ := D.held (by omega)
    rw [bS] at ht1'
    obtain ⟨o, o1, o2, o3, o4⟩ := D.sI k4
    rw [ly k4]
    simp only [ht1', o1, Int.toNat_natCast]
    obtain ⟨tk, etk⟩ : ∃ tk, de s.ao o = tk := ⟨_, rfl⟩
    rw [etk] at o4 ⊢
    have tkf : aR s.ao o tk = -1 := by
      unfold de at etk
      unfold aR
      split at etk
      · subst etk; simpa using ‹_›
      · split at etk
        · subst etk; simpa using ‹_›
        · omega
    have hl1 : w < (aW s.ao o tk t).length := by rw [gK]; exact hwh
    have c1 := fun u => nA s.ao o tk t u o2
    have c2 := fun u => nA (aW s.ao o tk t) w a.hand (-1) u hl1
    have hw2 : aR (aW s.ao o tk t) w a.hand = t := by
      rw [LG w a.hand o2 o4 hh, if_neg (fun e => o3 e.1.symm)]; exact ht1'
    refine { pl := hS.pl, hl := by simpa [gK] using hS.hl, tl := hS.tl, hr := fun i h => ?_, pr := hS.pr, pn := hS.pn, th := fun u hu => ?_, st := hS.st }
    · rw [← aX (d := bB) h, dq i hl1]
      have hi' : i < s.ao.length := by simpa [aW] using h
      have q := hS.hr i hi'
      have qw := hS.hr w hwh
      have ne : ¬ w = o := fun e => o3 e.symm
      have two : ((aW s.ao o tk t).getD i bB).l < s.aa.length ∧ ((aW s.ao o tk t).getD i bB).r < s.aa.length ∧ -1 ≤ ((aW s.ao o tk t).getD i bB).l ∧ -1 ≤ ((aW s.ao o tk t).getD i bB).r := by
        rw [dq i o2]
        split
        · rename_i e; subst e
          rw [aX hi']
          split
          · exact ⟨by show (t : Int) < _; omega, q.2.1, by show (-1 : Int) ≤ t; omega, q.2.2.2⟩
          · exact ⟨q.1, by show (t : Int) < _; omega, q.2.2.1, by show (-1 : Int) ≤ t; omega⟩
        · rw [aX hi']; exact q
      split
      · rename_i e; subst e
        split
        · exact ⟨by show (-1 : Int) < _; omega, two.2.1, by show (-1 : Int) ≤ -1; omega, two.2.2.2⟩
        · exact ⟨two.1, by show (-1 : Int) < _; omega, two.2.2.1, by show (-1 : Int) ≤ -1; omega⟩
      · exact two
    · have q := hS.th u hu
      have d1 := c1 u
      have d2 := c2 u
      rw [hw2] at d2
      rw [tkf] at d1
      have e1 : ¬ ((-1 : Int) = (u : Int)) := by omega
      simp only [e1, if_false] at d1 d2
      show (ib (aW (aW s.ao o tk t) w a.hand (-1)) u = 1 ∧ _) ∨ (ib (aW (aW s.ao o tk t) w a.hand (-1)) u = 0 ∧ _)
      rw [show ib (aW (aW s.ao o tk t) w a.hand (-1)) u = ib s.ao u by omega]
      exact q
  · obtain ⟨q, q1, q2⟩ := D.vy (.inl k5)
    rw [bS] at q1
    rw [lz k5]
    simp only [q1, Int.toNat_natCast]
    exact hS.set q2 (.inl rfl)
  · obtain ⟨t, ht1', ht2⟩ := D.held (by omega)
    rw [bS] at ht1'
    obtain ⟨q, q1, q2⟩ := D.vy (.inr k6)
    rw [bS] at q1
    rw [lA k6]
    simp only [q1, ht1', Int.toNat_natCast]
    have S1 := hS.set (on := false) ht2 (.inr (.inl rfl) : (2 : Int) = 1 ∨ (2 : Int) = 2 ∨ (2 : Int) = 4)
    have S2 := S1.set (t := t) (on := false) (by simpa [gQ] using ht2) (.inl rfl : (1 : Int) = 1 ∨ (1 : Int) = 2 ∨ (1 : Int) = 4)
    exact S2.set (t := q) (on := true) (by simpa [gQ] using q2) (.inr (.inl rfl))
  · obtain ⟨t, ht1', ht2⟩ := D.held (by omega)
    rw [bS] at ht1'
    rw [lB k7]
    simp only [ht1', Int.toNat_natCast]
    exact hS.set ht2 (.inr (.inr rfl))
  · obtain ⟨t, ht1', ht2⟩ := D.held (by omega)
    rw [bS] at ht1'
    rw [lC k8]
    simp only [ht1', Int.toNat_natCast]
    exact hS.set ht2 (.inr (.inr rfl))
end
section
variable {c:Nat} {H:ae}
def jq (a b:Int):Int:=IntKind.i64.wrap (BitVec.ofInt 64 a &&& ~~~(BitVec.ofInt 64 b)).toNat
@[simp] theorem I4 {K:Ctx}{t:TypeId}{a b:Int}:eA K .andNot t (.pure (.int .i64 a)) (.pure (.int .i64 b))=some (.int .i64 (jq a b)):=by
 simp only [eA,mw,jq];rfl
theorem Cj: ∀q:Fin 16,∀b∈[(2:Int),4],(LK .i64 ((q.1:Nat):Int) b==b)=((IntKind.i64.wrap (((q.1:Nat):Int).tdiv b)).tmod 2==1):=by decide+kernel
def aH (r:aI)(s:az):List PV:=[.int .i64 r.wide, .int .i64 r.deep, .slice (r.ak.map bA.row), .slice (r.aa.map bU.row), .slice (r.seen.map ba), .slice (r.bg.map ba), .slice (r.aj.map ai.row), .slice (s.ak.map ba), .slice (s.ao.map bt.row), .slice (s.aa.map cg.row)]
theorem bh (a:ai):a.row=[.int .i64 a.aQ, .int .i64 a.aY, .int .i64 a.kind, .int .i64 a.hand, .int .i64 a.bL, .int .i64 a.cell, .int .i64 a.other, .int .i64 a.dE, .int .i64 a.lf]:=rfl
theorem vY {r:aI}{s:az}{w:Nat}{a:ai}(hw:w<s.ao.length)(h1:a.aY=w)(h2:a.hand=0∨a.hand=1)(hH:0<H.length):
  bG KC (aE KC) 107 [.pure (.agg (aH r s)), .pure (.agg a.row)] c H=some (.pure (.int .i64 (aR s.ao w a.hand)),H):=by
 refine aU (aM KC au Try.func107 rfl rfl FO (by simp) hH ?_);rw [bh];unfold aH aR;rw [aX hw];rcases h2 with h2|h2
 ·simp [h1,h2,hw,bt.row,ah]
 ·simp [h1,h2,hw,bt.row,ah]
theorem qU {r:aI}{s:az}{w:Nat}{a:ai}(hw:w<s.ao.length)(h1:a.aY=w)(h2:a.hand=0∨a.hand=1)(hH:0<H.length):
  bG KC (aE KC) 106 [.pure (.agg (aH r s)), .pure (.agg a.row)] c H=some (.pure (.int .i64 (aR s.ao w (1-a.hand))),H):=by
 refine aU (aM KC au Try.func106 rfl rfl FN (by simp) hH ?_);rw [bh];unfold aH aR;rw [aX hw];have w0:IntKind.i64.wrap (1-0)=1:=rfl;have w1:IntKind.i64.wrap (1-1)=0:=rfl;rcases h2 with h2|h2
 ·simp [h1,h2,hw,bt.row,ah,w0]
 ·simp [h1,h2,hw,bt.row,ah,w1]
theorem Ck {r:aI}{s:az}{t:Nat}{b:Int}(ht:t<s.aa.length)(hs:0≤(s.aa.getD t aJ).state∧(s.aa.getD t aJ).state<16)(hb:b=2∨b=4)(hH:0<H.length):
  bG KC (aE KC) 128 [.pure (.agg (aH r s)), .pure (.int .i64 t), .pure (.int .i64 b)] c H=some (.pure (.bool (eY s.aa t b)),H):=by
 refine aU (aM KC au Try.func128 rfl rfl Ge (by simp) hH ?_);have hd:=gf s.aa t b;simp only [Int.toNat_natCast,aX ht]at hd hs;obtain⟨q,hq⟩:=Int.eq_ofNat_of_zero_le hs.1;have e:=Cj ⟨q,by omega⟩ b (by simp;exact hb);simp only [←hq]at e;have h0:decide ((0:Int)≤t)=true:=(by simp);rw [h0,Bool.true_and,←e]at hd;unfold aH;simp [ht,cg.row,ah,hd]
theorem vZ (x:Int):(x=0∧x*x=0)∨(x=1∧x*x=1)∨(x= -1∧x*x=1)∨((x≠0∧x≠1∧x≠ -1)∧4≤x*x):=by
 by_cases h0:x=0
 ·subst h0;exact .inl ⟨rfl,rfl⟩
 by_cases h1:x=1
 ·subst h1;exact .inr (.inl ⟨rfl,rfl⟩)
 by_cases h2:x= -1
 ·subst h2;exact .inr (.inr (.inl ⟨rfl,rfl⟩))
 refine .inr (.inr (.inr ⟨⟨h0,h1,h2⟩, ?_⟩));rw [←Int.natAbs_mul_self];have:2≤x.natAbs:=(by omega);have:=Nat.mul_le_mul this this;omega
theorem I5 {x:Int}{n:Nat}(h1: -(n:Int)≤x)(h2:x≤n):0≤x*x∧x*x≤((n*n:Nat):Int):=by
 rw [←Int.natAbs_mul_self];have:x.natAbs≤n:=(by omega);have:=Nat.mul_le_mul this this;omega
theorem Gp {w a b:Int}(hw:1≤w)(hw6:w≤1000)(ha:0≤a)(ha2:a<1000000)(hb:0≤b)(hb2:b<1000000):
  (IntKind.i64.wrap (IntKind.i64.wrap (IntKind.i64.wrap (a.tmod w-b.tmod w)*IntKind.i64.wrap (a.tmod w-b.tmod w))+IntKind.i64.wrap (IntKind.i64.wrap (IntKind.i64.wrap (a.tdiv w)-IntKind.i64.wrap (b.tdiv w))*IntKind.i64.wrap (IntKind.i64.wrap (a.tdiv w)-IntKind.i64.wrap (b.tdiv w))))==1)=iQ w a b:=by
 rw [Ae];have h1:0≤a.tmod w:=Int.tmod_nonneg _ ha;have h2:a.tmod w<w:=Int.tmod_lt_of_pos _ (by omega);have h3:0≤b.tmod w:=Int.tmod_nonneg _ hb;have h4:b.tmod w<w:=Int.tmod_lt_of_pos _ (by omega);have h5:0≤a.tdiv w:=Int.tdiv_nonneg ha (by omega);have h6:a.tdiv w≤a:=Int.tdiv_le_self _ ha;have h7:0≤b.tdiv w:=Int.tdiv_nonneg hb (by omega);have h8:b.tdiv w≤b:=Int.tdiv_le_self _ hb;rw [dM (x:=a.tmod w-b.tmod w) (by omega) (by omega),dM (x:=a.tdiv w) (by omega) (by omega),dM (x:=b.tdiv w) (by omega) (by omega),dM (x:=a.tdiv w-b.tdiv w) (by omega) (by omega)];have hx1: -(1000:Int)≤a.tmod w-b.tmod w:=(by omega);have hx2:a.tmod w-b.tmod w≤1000:=(by omega);have hy1: -(1000000:Int)≤a.tdiv w-b.tdiv w:=(by omega);have hy2:a.tdiv w-b.tdiv w≤1000000:=(by omega);generalize a.tmod w-b.tmod w=x at hx1 hx2⊢;generalize a.tdiv w-b.tdiv w=y at hy1 hy2⊢;have qx:=I5 (n:=1000) hx1 hx2;have qy:=I5 (n:=1000000) hy1 hy2;rw [dM (x:=x*x) (by omega) (by omega),dM (x:=y*y) (by omega) (by omega),dM (x:=x*x+y*y) (by omega) (by omega)];have cx:=vZ x;have cy:=vZ y;rw [Bool.eq_iff_iff];simp only [Bool.or_eq_true,Bool.and_eq_true,beq_iff_eq];omega
theorem Aj {w d a b:Int}{x1 x2 x3 x4 x5:PV}(hw:1≤w)(hw6:w≤1000)(ha:0≤a)(ha2:a<1000000)(hb:0≤b)(hb2:b<1000000)(hH:0<H.length):
  bG KC (aE KC) 126 [.pure (.agg [.int .i64 w, .int .i64 d,x1,x2,x3,x4,x5]), .pure (.int .i64 a), .pure (.int .i64 b)] c H=some (.pure (.bool (iQ w a b)),H):=by
 refine aU (aM KC au Try.func126 rfl rfl Gc (by simp) hH ?_);have e:=Gp hw hw6 ha ha2 hb hb2;have w0: ¬w=0:=(by omega);simp [w0,ah];exact e
theorem v5 {w d a b:Int}{x1 x2 x3 x4 x5:PV}(hw:1≤w)(hw6:w≤1000)(ha:0≤a)(ha2:a<1000000)(hb:0≤b)(hb2:b<1000000)(hH:0<H.length):
  aK KC (aE KC) 126 [.pure (.agg [.int .i64 w, .int .i64 d,x1,x2,x3,x4,x5]), .pure (.int .i64 a), .pure (.int .i64 b)] c H=some (.pure (.bool (iQ w a b)),H):=
 ey rfl rfl rfl rfl rfl hH fun H hH=>Aj hw hw6 ha ha2 hb hb2 hH
noncomputable def Cl:List Int→Int→Int:=o8 fun l x=>lg (fun j=>l.getD j 0==x) l.length 0
theorem qV (l:List Int)(x:Int):Cl l x=lg (fun j=>l.getD j 0==x) l.length 0:=by rw [Cl,bR]
theorem xR (l:List Int)(x:Int)(hn:l.length≤1000000)(Q:GX→bE→Prop)(hH:0<H.length): ∀k i:Nat,i+k=l.length→
  (lg (fun j=>l.getD j 0==x) k i= -1→Q (.exit 0) ⟨[(4,aG)],H,19⟩)→(0≤lg (fun j=>l.getD j 0==x) k i→Q .ret ⟨[(4, .pure (.int .i64 (lg (fun j=>l.getD j 0==x) k i)))],H,19⟩)→
  jf KC au 103 (lp Try.f103 0) [0,1,7,8] [4] Q [(0, .pure (.slice (l.map ba))),(1, .pure (.int .i64 x)),(7, .pure (.int .i64 l.length)),(8, .pure (.int .i64 i))] H 19:=by
 intro k
 induction k with
 |zero=>
  intro i hi h1 h2;apply aw;conv=>arg 4;whnf
  have: ¬i<l.length:=(by omega);simp [this,hH];exact h1 rfl
 |succ k ih=>
  intro i hi h1 h2;have hia:i<l.length:=(by omega);have hw:=dM (x:=(i:Int)+1) (by omega) (by omega);have ih':=ih (i+1) (by omega);have hg:l.getD i 0=l[i]:=aX hia;unfold lg at h1 h2;simp only [hg]at h1 h2;apply aw;conv=>arg 4;whnf
  by_cases he:x=l[i]
  ·have he2:(l[i]==x)=true:=(by simp [he]);simp only [he2,if_true]at h1 h2;simp [hia,hH,ba,he];exact h2 (by omega)
  ·have he':(x==l[i])=false:=(by simpa using he);have he2: ¬(l[i]==x)=true:=(by simp;exact fun e=>he e.symm);rw [if_neg he2]at h1 h2;simp [hia,hH,ba,he',hw];simpa [ba]using ih' h1 h2
theorem nB (l:List Int)(x:Int)(hn:l.length≤1000000)(hH:0<H.length):aK KC (aE KC) 103 [.pure (.slice (l.map ba)), .pure (.int .i64 x)] c H=some (.pure (.int .i64 (Cl l x)),H):=by
 refine ey rfl rfl rfl rfl rfl hH fun H hH=> ?_;refine aU (aM KC au Try.func103 rfl rfl FK (by simp) hH ?_);have hd:=qV l x;simp;refine xR (H:=[]::H) l x hn _ (by simp) l.length 0 (by omega) (fun h=> ?_) (fun h=> ?_)
 ·rw [←hd]at h;simp [h,ah]
 ·rw [←hd];simp [ah]
theorem kQ (l:List Int)(x:Int)(hn:l.length≤1000000)(hH:0<H.length):aK KC (aE KC) 92 [.pure (.slice (l.map ba)), .pure (.int .i64 x)] c H=some (.pure (.bool (l.contains x)),H):=by
 refine ey rfl rfl rfl rfl rfl hH fun H hH=> ?_;refine aU (aM KC au Try.func92 rfl rfl Ls (by simp) hH ?_);have I:=fun c (H:ae) (hH:0<H.length)=>nB (c:=c) (H:=H) l x hn hH;have e:decide (0≤Cl l x)=l.contains x:=by
  rw [qV,Bool.eq_iff_iff,decide_eq_true_eq,lh,List.contains_iff_mem];constructor
  ·rintro⟨j,_,h2,h3⟩;have hj:j<l.length:=(by omega);rw [aX hj]at h3;have:l[j]=x:=(by simpa using h3);exact this▸List.getElem_mem hj
  ·intro h;obtain⟨j,hj,rfl⟩:=List.getElem_of_mem h;exact⟨j,by omega,by omega,by rw [aX hj];simp⟩
 simp only [List.contains_eq_mem]at e;simp [I,ah];simpa using e
theorem v7 {r:aI}{s:az}{w:Nat}(hw:w<s.ao.length)(hH:0<H.length):
  bG KC (aE KC) 127 [.pure (.agg (aH r s)), .pure (.int .i64 w)] c H=some (.pure (.int .i64 (de s.ao w)),H):=by
 refine aU (aM KC au Try.func127 rfl rfl Gd (by simp) hH ?_);have I:=fun c (H:ae) (hH:0<H.length)=>nB (c:=c) (H:=H) [s.ao[w].l,s.ao[w].r] (-1) (by simp) hH;have e:Cl [s.ao[w].l,s.ao[w].r] (-1)=de s.ao w:=by
  rw [qV];unfold de;rw [aX hw];simp [lg]
 rw [e]at I;simp [ba]at I;have gs: ∀a b:PV,hZ KC 53 (.bF [a,b]) none none none=some (.pure (.slice [[a],[b]])):=fun a b=>by
  have t53:qe Try.prog 53=some (2,3):=(by kernel_rfl);unfold hZ;simp [chunks,t53]
 unfold aH;simp [hw,bt.row,gs,I,ah]
end
section
variable {c:Nat} {H:ae}
structure WB (r:aI):Prop where
 w1:1≤r.wide
 w6:r.wide≤1000
 n6:r.wide*r.deep<1000000
 pl:r.ak.length≤1000000
 tl:r.aa.length≤1000000
section
variable {r:aI} {s:az} {w:Nat} {a:ai}
theorem jr (hS:SU r s)(hA:AB r w a)(hH:0<H.length):aK KC (aE KC) 107 [.pure (.agg (aH r s)), .pure (.agg a.row)] c H=some (.pure (.int .i64 (aR s.ao w a.hand)),H):=
 ey rfl rfl rfl rfl rfl hH fun H hH=>vY (by rw [hS.hl];exact hA.wl) hA.aY hA.hand hH
theorem oB (hS:SU r s)(hA:AB r w a)(hH:0<H.length):aK KC (aE KC) 106 [.pure (.agg (aH r s)), .pure (.agg a.row)] c H=some (.pure (.int .i64 (aR s.ao w (1-a.hand))),H):=
 ey rfl rfl rfl rfl rfl hH fun H hH=>qU (by rw [hS.hl];exact hA.wl) hA.aY hA.hand hH
theorem qW (hS:e9 r s){t:Nat}{b:Int}(ht:t<s.aa.length)(hb:b=2∨b=4)(hH:0<H.length):aK KC (aE KC) 128 [.pure (.agg (aH r s)), .pure (.int .i64 t), .pure (.int .i64 b)] c H=some (.pure (.bool (eY s.aa t b)),H):=
 ey rfl rfl rfl rfl rfl hH fun H hH=>Ck ht (hS.st t ht) hb hH
theorem Gq {o:Nat}(ho:o<s.ao.length)(hH:0<H.length):aK KC (aE KC) 127 [.pure (.agg (aH r s)), .pure (.int .i64 o)] c H=some (.pure (.int .i64 (de s.ao o)),H):=
 ey rfl rfl rfl rfl rfl hH fun H hH=>v7 ho hH
theorem xS (hS:e9 r s)(hW:WB r)(hA:AB r w a)(hk:a.kind=1)(hH:0<H.length):
  aK KC (aE KC) 108 [.pure (.agg (aH r s)), .pure (.agg a.row)] c H=some (.pure (.bool (cd r s w a)),H):=by
 refine ey rfl rfl rfl rfl rfl hH fun H hH=> ?_;refine aU (aM KC au Try.func108 rfl rfl FQ (by simp) hH ?_);have hwp:w<s.ak.length:=(by rw [hS.pl];exact hA.wl);have C1:=cell_of hS hA.wl;have C2:=hA.step hk;have n6:=hW.n6;have hd:=ur (r:=r) (s:=s) (w:=w) hk;rw [aX hwp]at hd C1;have N:=fun c (H:ae) (hH:0<H.length)=>v5 (c:=c) (H:=H) (w:=r.wide) (d:=r.deep) (a:=s.ak[w]) (b:=a.cell) (x1:= .slice (r.ak.map bA.row)) (x2:= .slice (r.aa.map bU.row)) (x3:= .slice (r.seen.map ba)) (x4:= .slice (r.bg.map ba)) (x5:= .slice (r.aj.map ai.row)) hW.w1 hW.w6 C1.1 (by omega) C2.1 (by omega) hH;have CT:=fun c (H:ae) (hH:0<H.length)=>kQ (c:=c) (H:=H) s.ak a.cell (by rw [hS.pl];exact hW.pl) hH;rw [bh];unfold aH
 cases hn:iQ r.wide s.ak[w] a.cell with
 |false=>
  simp [hn]at hd;simp [hA.aY,hwp,ba,N,hn,ah,hd]
 |true=>
  rw [hn,Bool.and_true]at hd
  cases hc:s.ak.contains a.cell with
  |false=>
   rw [hc]at hd CT;simp [hA.aY,hwp,ba,N,hn,CT,ah,hd]
  |true=>
   rw [hc]at hd CT;simp [hA.aY,hwp,ba,N,hn,CT,ah,hd]
theorem xT (hS:e9 r s)(hA:AB r w a)(hk:a.kind=2)(hH:0<H.length):
  aK KC (aE KC) 110 [.pure (.agg (aH r s)), .pure (.agg a.row)] c H=some (.pure (.bool (cd r s w a)),H):=by
 refine ey rfl rfl rfl rfl rfl hH fun H hH=> ?_;refine aU (aM KC au Try.func110 rfl rfl FR (by simp) hH ?_);have hwp:w<s.ak.length:=(by rw [hS.pl];exact hA.wl);obtain⟨t,ht,htl⟩:=hA.take hk;have htl':t<s.aa.length:=(by rw [hS.tl];exact htl);have R:=fL hS.toSU (w:=w) (hand:=a.hand) hA.wl;have hd:=xP (r:=r) (s:=s) (w:=w) hk;rw [aX hwp,ht,Int.toNat_natCast,aX htl']at hd;have E:=fun c (H:ae) (hH:0<H.length)=>jr (c:=c) (H:=H) hS.toSU hA hH;rw [bh]at E⊢;unfold aH at E⊢;by_cases h0:aR s.ao w a.hand<0
 ·have h1:aR s.ao w a.hand= -1:=(by omega);rw [h1]at hd E;simp at hd;simp [hA.aY,ht]at E;simp [hA.aY,hwp,ba,E,cg.row,ht,htl',ah,hd]
 ·have h1: ¬aR s.ao w a.hand= -1:=(by omega);have h1':(aR s.ao w a.hand== -1)=false:=(by simpa using h1);rw [h1',Bool.false_and]at hd;simp [hA.aY,ht]at E;simp [hA.aY,ht,E,h0,ah,hd]
theorem Ak (hS:e9 r s)(hA:AB r w a)(hk:a.kind=3)(hH:0<H.length):
  aK KC (aE KC) 112 [.pure (.agg (aH r s)), .pure (.agg a.row)] c H=some (.pure (.bool (cd r s w a)),H):=by
 refine ey rfl rfl rfl rfl rfl hH fun H hH=> ?_;refine aU (aM KC au Try.func112 rfl rfl FU (by simp) hH ?_);have hd:=xQ (r:=r) (s:=s) (w:=w) hk;have E:=fun c (H:ae) (hH:0<H.length)=>jr (c:=c) (H:=H) hS.toSU hA hH;rw [bh]at E⊢;unfold aH at E⊢;simp [E,ah,hd]
theorem xU (hS:e9 r s)(hW:WB r)(hA:AB r w a)(hk:a.kind=4)(hH:0<H.length):
  aK KC (aE KC) 114 [.pure (.agg (aH r s)), .pure (.agg a.row)] c H=some (.pure (.bool (cd r s w a)),H):=by
 refine ey rfl rfl rfl rfl rfl hH fun H hH=> ?_;refine aU (aM KC au Try.func114 rfl rfl FW (by simp) hH ?_);have hwp:w<s.ak.length:=(by rw [hS.pl];exact hA.wl);obtain⟨o,ho,hol,_⟩:=hA.sI hk;have hop:o<s.ak.length:=(by rw [hS.pl];exact hol);have hoh:o<s.ao.length:=(by rw [hS.hl];exact hol);have C1:=cell_of hS hA.wl;have C2:=cell_of hS hol;have n6:=hW.n6;have hd:=uu (r:=r) (s:=s) (w:=w) hk;rw [aX hwp,ho,Int.toNat_natCast,aX hop]at hd;rw [aX hwp]at C1;rw [aX hop]at C2;have N:=fun c (H:ae) (hH:0<H.length)=>v5 (c:=c) (H:=H) (w:=r.wide) (d:=r.deep) (a:=s.ak[w]) (b:=s.ak[o]) (x1:= .slice (r.ak.map bA.row)) (x2:= .slice (r.aa.map bU.row)) (x3:= .slice (r.seen.map ba)) (x4:= .slice (r.bg.map ba)) (x5:= .slice (r.aj.map ai.row)) hW.w1 hW.w6 C1.1 (by omega) C2.1 (by omega) hH;have E:=fun c (H:ae) (hH:0<H.length)=>jr (c:=c) (H:=H) hS.toSU hA hH;have G:=fun c (H:ae) (hH:0<H.length)=>Gq (c:=c) (H:=H) (r:=r) hoh hH;rw [bh]at E⊢;unfold aH at E G⊢;by_cases h0:0≤aR s.ao w a.hand
 ·cases hn:iQ r.wide s.ak[w] s.ak[o]with
  |false=>
   simp [hn]at hd;simp [hA.aY,ho]at E;simp [hA.aY,hwp,ba,E,h0,N,hn,ho,hop,ah,hd]
  |true=>
   simp [hn,h0]at hd;simp [hA.aY,ho]at E;simp [hA.aY,hwp,ba,E,h0,N,hn,ho,hop,G,ah,hd]
 ·simp [h0]at hd;simp [hA.aY,ho]at E;simp [hA.aY,ho,E,h0,ah,hd]
theorem xV (hS:e9 r s)(hA:AB r w a)(hk:a.kind=5)(hH:0<H.length):
  aK KC (aE KC) 116 [.pure (.agg (aH r s)), .pure (.agg a.row)] c H=some (.pure (.bool (cd r s w a)),H):=by
 refine ey rfl rfl rfl rfl rfl hH fun H hH=> ?_;refine aU (aM KC au Try.func116 rfl rfl FX (by simp) hH ?_);have R:=fL hS.toSU (w:=w) (hand:=a.hand) hA.wl;have hd:=uv (r:=r) (s:=s) (w:=w) hk;have E:=fun c (H:ae) (hH:0<H.length)=>jr (c:=c) (H:=H) hS.toSU hA hH;have G:=fun c (H:ae) (hH:0<H.length)=>oB (c:=c) (H:=H) hS.toSU hA hH;rw [bh]at E G⊢;unfold aH at E G⊢;by_cases h0:0≤aR s.ao w a.hand
 ·obtain⟨t,ht⟩:=Int.eq_ofNat_of_zero_le h0;have htl:t<r.aa.length:=(by have:=hS.tl;omega);rw [ht,Int.toNat_natCast,aX htl]at hd;rw [ht]at E;have ht0:(0:Int)≤t:=by omega
  cases hc:r.aa[t].sZ with
  |false=>
   simp [hc]at hd;simp [E,ht0,htl,bU.row,hc,ah,hd]
  |true=>
   simp [hc]at hd;simp [E,G,ht0,htl,bU.row,hc,ah,hd]
 ·simp [h0]at hd;simp [E,h0,ah,hd]
theorem xW (hS:e9 r s)(hA:AB r w a)(hk:a.kind=6)(hH:0<H.length):
  aK KC (aE KC) 118 [.pure (.agg (aH r s)), .pure (.agg a.row)] c H=some (.pure (.bool (cd r s w a)),H):=by
 refine ey rfl rfl rfl rfl rfl hH fun H hH=> ?_;refine aU (aM KC au Try.func118 rfl rfl FZ (by simp) hH ?_);have R:=fL hS.toSU (w:=w) (hand:=a.hand) hA.wl;have R2:=fL hS.toSU (w:=w) (hand:=1-a.hand) hA.wl;have hd:=qR (r:=r) (s:=s) (w:=w) hk;have E:=fun c (H:ae) (hH:0<H.length)=>jr (c:=c) (H:=H) hS.toSU hA hH;have G:=fun c (H:ae) (hH:0<H.length)=>oB (c:=c) (H:=H) hS.toSU hA hH;have V:=fun(t:Nat) (ht:t<s.aa.length) (b:Int) (hb:b=2∨b=4) c (H:ae) (hH:0<H.length)=>qW (c:=c) (H:=H) hS ht hb hH;rw [bh]at E G⊢;unfold aH at E G V⊢;have neg: ∀x b:Int,¬0≤x→eY s.aa x b=false:=fun x b h=>(by rw [gf,decide_eq_false h];rfl);by_cases h0:0≤aR s.ao w a.hand
 ·obtain⟨t,ht⟩:=Int.eq_ofNat_of_zero_le h0;have htl:t<s.aa.length:=(by omega);rw [ht]at hd E;have ht0:(0:Int)≤t:=(by omega);have V1:=V t htl 2 (.inl rfl);have V2:=V t htl 4 (.inr rfl);by_cases k0:0≤aR s.ao w (1-a.hand)
  ·obtain⟨u,hu⟩:=Int.eq_ofNat_of_zero_le k0;have hul:u<s.aa.length:=(by omega);rw [hu]at hd G;have hu0:(0:Int)≤u:=(by omega);have V3:=V u hul 2 (.inl rfl);have V4:=V u hul 4 (.inr rfl)
   cases x1:eY s.aa t 2 with
   |false=>
    rw [x1]at hd V1;simp at hd;simp [E,G,ht0,hu0,V1,ah,hd]
   |true=>
    cases x2:eY s.aa t 4 with
    |true=>
     rw [x1,x2]at hd;rw [x1]at V1;rw [x2]at V2;simp at hd;simp [E,G,ht0,hu0,V1,V2,ah,hd]
    |false=>
     cases x3:eY s.aa u 2 with
     |true=>
      rw [x1,x2,x3]at hd;rw [x1]at V1;rw [x2]at V2;rw [x3]at V3;simp at hd;simp [E,G,ht0,hu0,V1,V2,V3,ah,hd]
     |false=>
      rw [x1,x2,x3]at hd;rw [x1]at V1;rw [x2]at V2;rw [x3]at V3;simp at hd;simp [E,G,ht0,hu0,V1,V2,V3,V4,ah,hd]
  ·simp [k0]at hd;simp [E,G,ht0,k0,ah,hd]
 ·rw [neg _ _ h0]at hd;simp at hd;simp [E,h0,ah,hd]
theorem v8 (hS:e9 r s)(hA:AB r w a)(hk:a.kind=7)(hH:0<H.length):
  aK KC (aE KC) 120 [.pure (.agg (aH r s)), .pure (.agg a.row)] c H=some (.pure (.bool (cd r s w a)),H):=by
 refine ey rfl rfl rfl rfl rfl hH fun H hH=> ?_;refine aU (aM KC au Try.func120 rfl rfl F6 (by simp) hH ?_);have R:=fL hS.toSU (w:=w) (hand:=a.hand) hA.wl;have hd:=uw (r:=r) (s:=s) (w:=w) hk;have E:=fun c (H:ae) (hH:0<H.length)=>jr (c:=c) (H:=H) hS.toSU hA hH;have V:=fun(t:Nat) (ht:t<s.aa.length) c (H:ae) (hH:0<H.length)=>qW (c:=c) (H:=H) hS ht (b:=4) (.inr rfl) hH;rw [bh]at E⊢;unfold aH at E V⊢;by_cases h0:0≤aR s.ao w a.hand
 ·obtain⟨t,ht⟩:=Int.eq_ofNat_of_zero_le h0;have htl:t<s.aa.length:=(by omega);rw [ht]at hd E;have ht0:(0:Int)≤t:=(by omega);have V1:=V t htl;simp at hd;simp [E,ht0,V1,ah,hd]
 ·simp [h0]at hd;simp [E,h0,ah,hd]
theorem xX (hS:e9 r s)(hA:AB r w a)(hk:a.kind=8)(hH:0<H.length):
  aK KC (aE KC) 122 [.pure (.agg (aH r s)), .pure (.agg a.row)] c H=some (.pure (.bool (cd r s w a)),H):=by
 refine ey rfl rfl rfl rfl rfl hH fun H hH=> ?_;refine aU (aM KC au Try.func122 rfl rfl F8 (by simp) hH ?_);have R:=fL hS.toSU (w:=w) (hand:=a.hand) hA.wl;have hd:=ux (r:=r) (s:=s) (w:=w) hk;have E:=fun c (H:ae) (hH:0<H.length)=>jr (c:=c) (H:=H) hS.toSU hA hH;have V:=fun(t:Nat) (ht:t<s.aa.length) c (H:ae) (hH:0<H.length)=>qW (c:=c) (H:=H) hS ht (b:=4) (.inr rfl) hH;rw [bh]at E⊢;unfold aH at E V⊢;by_cases h0:0≤aR s.ao w a.hand
 ·obtain⟨t,ht⟩:=Int.eq_ofNat_of_zero_le h0;have htl:t<s.aa.length:=(by omega);rw [ht]at hd E;have ht0:(0:Int)≤t:=(by omega);have V1:=V t htl;simp [E,ht0,V1,ah,hd]
 ·rw [gf,decide_eq_false h0]at hd;simp at hd;simp [E,h0,ah,hd]
theorem xY {k:Nat}(hk:1≤k∧k≤8)(hH:0<H.length):aK KC (aE KC) 97 [.pure (.int .i64 k)] c H=some (.pure (.agg [.fn (108+2*(k-1)), .fn (109+2*(k-1))]),H):=by
 refine aU (bw KC au Try.func97 rfl rfl Lw rfl rfl rfl (by simp) hH ?_);obtain⟨k1,k8⟩:=hk
 match k,k1,k8 with
 |1,_,_=>simp [ah]
 |2,_,_=>simp [ah]
 |3,_,_=>simp [ah]
 |4,_,_=>simp [ah]
 |5,_,_=>simp [ah]
 |6,_,_=>simp [ah]
 |7,_,_=>simp [ah]
 |8,_,_=>simp [ah]
end
end
structure LM (t u:Touch):Prop where
 ap: ∀x,x∈t.ak→x∉u.ak
 aQ: ∀x,x∈t.aa→x∉u.aa
 ac: ∀x,x∈t.cells→x∉u.cells
theorem LM.symm {t u:Touch}(h:LM t u):LM u t:=⟨fun x a b=>h.ap x b a,fun x a b=>h.aQ x b a,fun x a b=>h.ac x b a⟩
theorem lD {s:az}{w:Nat}{a:ai}(h:a.kind=1):cI s w a=⟨[a.aY],[],[s.ak.getD w 0,a.cell]⟩:=by rw [gB,if_pos h]
theorem qX {s:az}{w:Nat}{a:ai}(h:a.kind=2):cI s w a=⟨[a.aY],[a.bL],[]⟩:=by rw [gB,if_neg (by omega),if_pos h]
theorem qY {s:az}{w:Nat}{a:ai}(h:a.kind=4):cI s w a=⟨[a.aY,a.other],[aR s.ao w a.hand],[]⟩:=by rw [gB,if_neg (by omega),if_neg (by omega),if_pos h];rfl
theorem iv {s:az}{w:Nat}{a:ai}(h:a.kind=5∨a.kind=6):cI s w a=⟨[a.aY],[aR s.ao w a.hand,aR s.ao w (1-a.hand)],[]⟩:=by rw [gB,if_neg (by omega),if_neg (by omega),if_neg (by omega),if_pos h];rfl
theorem ej {s:az}{w:Nat}{a:ai}(h:a.kind=3∨a.kind=7∨a.kind=8):cI s w a=⟨[a.aY],[aR s.ao w a.hand],[]⟩:=by rw [gB,if_neg (by omega),if_neg (by omega),if_neg (by omega),if_neg (by omega)];rfl
theorem fk {α:Type}{l:List α}{i j:Nat}{x d:α}:(l.set i x).getD j d=if i=j∧j<l.length then x else l.getD j d:=by
 simp only [List.getD_eq_getElem?_getD,List.getElem?_set];by_cases h:i=j
 ·subst h;by_cases h2:i<l.length
  ·simp [h2]
  ·simp [h2]
 ·simp [h]
theorem eN {ts:List cg}{t u:Nat}{bit:Int}{on:Bool}:(cY ts t bit on).getD u aJ=if u=t∧u<ts.length then (cY ts t bit on).getD t aJ else ts.getD u aJ:=by
 rw [iS];by_cases h:eY ts t bit=on
 ·rw [if_pos h];split
  ·rename_i e;rw [e.1]
  ·rfl
 ·rw [if_neg h,fk,fk];by_cases e:u=t
  ·subst e;by_cases h2:u<ts.length<;>simp [h2]
  ·have: ¬t=u:=fun x=>e x.symm;simp [e,this]
theorem fM {ts us:List cg}{t:Nat}{b:Int}(h:us.getD t aJ=ts.getD t aJ):eY us t b=eY ts t b:=by
 rw [gf,gf];simp only [Int.toNat_natCast,h]
theorem kb {ts us:List cg}{t:Nat}{b:Int}{on:Bool}(hl:us.length=ts.length)(h:us.getD t aJ=ts.getD t aJ):(cY us t b on).getD t aJ=(cY ts t b on).getD t aJ:=by
 rw [iS,iS,fM h];split
 ·exact h
 ·rw [fk,fk,h,hl]
structure Ag (s s':az)(P T:List Int):Prop where
 pl:s'.ak.length=s.ak.length
 hl:s'.ao.length=s.ao.length
 tl:s'.aa.length=s.aa.length
 pp: ∀i:Nat,(i:Int)∈P→s'.ak.getD i 0=s.ak.getD i 0
 ph: ∀i:Nat,(i:Int)∈P→s'.ao.getD i bB=s.ao.getD i bB
 tt: ∀i:Nat,(i:Int)∈T→s'.aa.getD i aJ=s.aa.getD i aJ
theorem nC {s:az}{w:Nat}{a:ai}(hk:1≤a.kind∧a.kind≤8):(dt s w a).ak.length=s.ak.length∧(dt s w a).ao.length=s.ao.length∧(dt s w a).aa.length=s.aa.length:=by
 rcases ka hk with k|k|k|k|k|k|k|k
 ·rw [jo k];simp
 ·rw [lu k];simp [gK]
 ·rw [lx k];simp [gK]
 ·rw [ly k];simp [gK]
 ·rw [lz k];simp [gQ]
 ·rw [lA k];simp [gQ]
 ·rw [lB k];simp [gQ]
 ·rw [lC k];simp [gQ]
theorem Al {s:az}{w:Nat}{a:ai}(D:LC s w a):
  (∀i:Nat,(i:Int)∉(cI s w a).ak→(dt s w a).ak.getD i 0=s.ak.getD i 0∧(dt s w a).ao.getD i bB=s.ao.getD i bB)∧
  (∀i:Nat,(i:Int)∉(cI s w a).aa→(dt s w a).aa.getD i aJ=s.aa.getD i aJ):=by
 have hw:=D.aY;have hh:=D.hh;have ne: ∀i:Nat,¬(i:Int)=a.aY→ ¬i=w:=fun i h e=>h (by rw [hw,e]);have ne': ∀i:Nat,¬(i:Int)=a.aY→ ¬w=i:=fun i h e=>h (by rw [hw,e]);rcases ka D.kind with k|k|k|k|k|k|k|k
 ·rw [jo k,lD k];refine⟨fun i hi=> ?_,fun i hi=>rfl⟩;simp only [List.mem_singleton]at hi;exact⟨by show (s.ak.set w a.cell).getD i 0=_;rw [fk,if_neg (fun h=>ne' i hi h.1)],rfl⟩
 ·obtain⟨t,e,_⟩:=D.take k;rw [lu k,qX k];refine⟨fun i hi=> ?_,fun i hi=> ?_⟩
  ·simp only [List.mem_singleton]at hi;exact⟨rfl,by show (aW s.ao w a.hand a.bL).getD i bB=_;rw [dq i hh,if_neg (ne i hi)]⟩
  ·simp only [List.mem_singleton,e]at hi;show (s.aa.set a.bL.toNat _).getD i aJ=_
   rw [fk,e,if_neg (fun h=>hi (by have:=h.1;omega))]
 ·obtain⟨t,e,_⟩:=D.held (by omega);rw [bS]at e;rw [lx k,ej (.inl k)];refine⟨fun i hi=> ?_,fun i hi=> ?_⟩
  ·simp only [List.mem_singleton]at hi;exact⟨rfl,by show (aW s.ao w a.hand (-1)).getD i bB=_;rw [dq i hh,if_neg (ne i hi)]⟩
  ·simp only [List.mem_singleton,e]at hi;show (s.aa.set (aR s.ao w a.hand).toNat _).getD i aJ=_
   rw [fk,e,if_neg (fun h=>hi (by have:=h.1;omega))]
 ·obtain⟨o,e,o2,o3,o4⟩:=D.sI k;rw [ly k,qY k];refine⟨fun i hi=> ?_,fun i hi=>rfl⟩;simp only [List.mem_cons,List.not_mem_nil,or_false,not_or]at hi;refine⟨rfl, ?_⟩;show (aW (aW s.ao a.other.toNat _ _) w a.hand (-1)).getD i bB=_
  have: ¬i=a.other.toNat:=fun h=>hi.2 (by rw [h,e];simp);rw [dq i (by rw [gK];exact hh),if_neg (ne i hi.1),dq i (by rw [e];simpa using o2),if_neg this]
 ·obtain⟨t,e,_⟩:=D.vy (.inl k);rw [bS]at e;rw [lz k,iv (.inl k)];refine⟨fun i hi=>⟨rfl,rfl⟩,fun i hi=> ?_⟩;simp only [List.mem_cons,List.not_mem_nil,or_false,not_or,e]at hi;show (cY s.aa (aR s.ao w (1-a.hand)).toNat 1 true).getD i aJ=_
  rw [eN,e,if_neg (fun h=>hi.2 (by rw [h.1];simp))]
 ·obtain⟨t,e,_⟩:=D.held (by omega);obtain⟨q,f,_⟩:=D.vy (.inr k);rw [bS]at e f;rw [lA k,iv (.inr k)];refine⟨fun i hi=>⟨rfl,rfl⟩,fun i hi=> ?_⟩;simp only [List.mem_cons,List.not_mem_nil,or_false,not_or,e,f]at hi;have h1: ¬i=t:=fun h=>hi.1 (by rw [h]);have h2: ¬i=q:=fun h=>hi.2 (by rw [h]);simp only [e,f,Int.toNat_natCast];rw [eN,if_neg (fun h=>h2 h.1),eN,if_neg (fun h=>h1 h.1),eN,if_neg (fun h=>h1 h.1)]
 ·obtain⟨t,e,_⟩:=D.held (by omega);rw [bS]at e;rw [lB k,ej (.inr (.inl k))];refine⟨fun i hi=>⟨rfl,rfl⟩,fun i hi=> ?_⟩;simp only [List.mem_singleton,e]at hi;have h1: ¬i=t:=fun h=>hi (by rw [h]);simp only [e,Int.toNat_natCast];rw [eN,if_neg (fun h=>h1 h.1)]
 ·obtain⟨t,e,_⟩:=D.held (by omega);rw [bS]at e;rw [lC k,ej (.inr (.inr k))];refine⟨fun i hi=>⟨rfl,rfl⟩,fun i hi=> ?_⟩;simp only [List.mem_singleton,e]at hi;have h1: ¬i=t:=fun h=>hi (by rw [h]);simp only [e,Int.toNat_natCast];rw [eN,if_neg (fun h=>h1 h.1)]
theorem bW {hs hs':List bt}{w:Nat}{hand:Int}(h:hs'.getD w bB=hs.getD w bB):aR hs' w hand=aR hs w hand:=by
 unfold aR;rw [h]
theorem nD {hs hs':List bt}{w:Nat}(h:hs'.getD w bB=hs.getD w bB):de hs' w=de hs w:=by
 unfold de;rw [h]
theorem Am {r:aI}{s s':az}{w:Nat}{a:ai}(D:LC s w a)(h:Ag s s' (cI s w a).ak (cI s w a).aa)(hw:w<r.ak.length):
  cI s' w a=cI s w a∧((a.kind=1→a.cell∉s'.ak)→cd r s w a=true→cd r s' w a=true)∧
  Ag (dt s w a) (dt s' w a) (cI s w a).ak (cI s w a).aa:=by
 have hwho:=D.aY;have hh:=D.hh;have hh':w<s'.ao.length:=(by rw [h.hl];exact hh);have wp:(w:Int)∈(cI s w a).ak→s'.ak.getD w 0=s.ak.getD w 0∧s'.ao.getD w bB=s.ao.getD w bB:=fun x=>⟨h.pp w x,h.ph w x⟩;have L:=nC (s:=s) (w:=w) D.kind;have L':=nC (s:=s') (w:=w) D.kind;have e1:=L'.1.trans (h.pl.trans L.1.symm);have e2:=L'.2.1.trans (h.hl.trans L.2.1.symm);have e3:=L'.2.2.trans (h.tl.trans L.2.2.symm);rcases ka D.kind with k|k|k|k|k|k|k|k
 ·rw [lD (s:=s) k]at wp h⊢;obtain⟨wp,wh⟩:=wp (by simp [hwho]);refine⟨by rw [lD k,wp],fun hc hp=> ?_,⟨e1,e2,e3,fun i hi=> ?_,fun i hi=> ?_,fun i hi=> ?_⟩⟩
  ·rw [ur k]at hp⊢;rw [wp];simp only [Bool.and_eq_true]at hp⊢;exact⟨by simpa using hc k,hp.2⟩
  ·rw [jo k,jo k];show (s'.ak.set w a.cell).getD i 0=(s.ak.set w a.cell).getD i 0
   rw [fk,fk,h.pl,h.pp i hi]
  ·rw [jo k,jo k];exact h.ph i hi
  ·rw [jo k,jo k];exact h.tt i hi
 ·obtain⟨t,e,_⟩:=D.take k;rw [qX (s:=s) k]at wp h⊢;obtain⟨wp,wh⟩:=wp (by simp [hwho]);have ht:s'.aa.getD t aJ=s.aa.getD t aJ:=h.tt t (by simp [e]);refine⟨by rw [qX k],fun hc hp=> ?_,⟨e1,e2,e3,fun i hi=> ?_,fun i hi=> ?_,fun i hi=> ?_⟩⟩
  ·rw [xP k,e,Int.toNat_natCast]at hp⊢;rw [wp,bW wh,ht];exact hp
  ·rw [lu k,lu k];exact h.pp i hi
  ·rw [lu k,lu k];show (aW s'.ao w a.hand a.bL).getD i bB=(aW s.ao w a.hand a.bL).getD i bB
   rw [dq i hh',dq i hh,wh,h.ph i hi]
  ·rw [lu k,lu k];show (s'.aa.set a.bL.toNat _).getD i aJ=(s.aa.set a.bL.toNat _).getD i aJ
   rw [fk,fk,h.tl,h.tt i hi,e,Int.toNat_natCast,ht]
 ·obtain⟨t,e,_⟩:=D.held (by omega);rw [bS]at e;rw [ej (s:=s) (.inl k)]at wp h⊢;obtain⟨wp,wh⟩:=wp (by simp [hwho]);have ht:s'.aa.getD t aJ=s.aa.getD t aJ:=h.tt t (by simp [e]);have e':aR s'.ao w a.hand=t:=(bW wh).trans e;refine⟨by rw [ej (.inl k),e,e'],fun hc hp=> ?_,⟨e1,e2,e3,fun i hi=> ?_,fun i hi=> ?_,fun i hi=> ?_⟩⟩
  ·rw [xQ k]at hp⊢;rw [bW wh];exact hp
  ·rw [lx k,lx k];exact h.pp i hi
  ·rw [lx k,lx k];show (aW s'.ao w a.hand (-1)).getD i bB=(aW s.ao w a.hand (-1)).getD i bB
   rw [dq i hh',dq i hh,wh,h.ph i hi]
  ·rw [lx k,lx k];show (s'.aa.set (aR s'.ao w a.hand).toNat _).getD i aJ=(s.aa.set (aR s.ao w a.hand).toNat _).getD i aJ
   rw [fk,fk,h.tl,h.tt i hi,e,e',Int.toNat_natCast,ht,wp]
 ·obtain⟨o,e,o2,o3,o4⟩:=D.sI k;rw [qY (s:=s) k]at wp h⊢;obtain⟨wp,wh⟩:=wp (by simp [hwho]);have op:s'.ak.getD o 0=s.ak.getD o 0:=h.pp o (by simp [e]);have oh:s'.ao.getD o bB=s.ao.getD o bB:=h.ph o (by simp [e]);refine⟨by rw [qY k,bW wh],fun hc hp=> ?_,⟨e1,e2,e3,fun i hi=> ?_,fun i hi=> ?_,fun i hi=> ?_⟩⟩
  ·rw [uu k,e,Int.toNat_natCast]at hp⊢;rw [bW wh,wp,op,nD oh];exact hp
  ·rw [ly k,ly k];exact h.pp i hi
  ·rw [ly k,ly k];simp only [e,Int.toNat_natCast];have o2':o<s'.ao.length:=(by rw [h.hl];exact o2);have a1:w<(aW s'.ao o (de s'.ao o) (aR s'.ao w a.hand)).length:=(by rw [gK];exact hh');have a2:w<(aW s.ao o (de s.ao o) (aR s.ao w a.hand)).length:=(by rw [gK];exact hh);rw [dq i a1,dq i a2,dq i o2',dq i o2,dq w o2',dq w o2,wh,oh,nD oh,bW wh,h.ph i hi]
  ·rw [ly k,ly k];exact h.tt i hi
 ·obtain⟨t,e,_⟩:=D.vy (.inl k);rw [bS]at e;rw [iv (s:=s) (.inl k)]at wp h⊢;obtain⟨wp,wh⟩:=wp (by simp [hwho]);have ht:s'.aa.getD t aJ=s.aa.getD t aJ:=h.tt t (by simp [e]);have e':aR s'.ao w (1-a.hand)=t:=(bW wh).trans e;refine⟨by rw [iv (.inl k),bW wh,e',e],fun hc hp=> ?_,⟨e1,e2,e3,fun i hi=> ?_,fun i hi=> ?_,fun i hi=> ?_⟩⟩
  ·rw [uv k]at hp⊢;rw [bW wh,bW wh];exact hp
  ·rw [lz k,lz k];exact h.pp i hi
  ·rw [lz k,lz k];exact h.ph i hi
  ·rw [lz k,lz k];simp only [e,e',Int.toNat_natCast];rw [eN,eN (ts:=s.aa),h.tl,kb h.tl ht,h.tt i hi]
 ·obtain⟨t,e,_⟩:=D.held (by omega);obtain⟨q,f,_⟩:=D.vy (.inr k);rw [bS]at e f;rw [iv (s:=s) (.inr k)]at wp h⊢;obtain⟨wp,wh⟩:=wp (by simp [hwho]);have ht:s'.aa.getD t aJ=s.aa.getD t aJ:=h.tt t (by simp [e]);have hq:s'.aa.getD q aJ=s.aa.getD q aJ:=h.tt q (by simp [f]);have e':aR s'.ao w a.hand=t:=(bW wh).trans e;have f':aR s'.ao w (1-a.hand)=q:=(bW wh).trans f;refine⟨by rw [iv (.inr k),e,e',f,f'],fun hc hp=> ?_,⟨e1,e2,e3,fun i hi=> ?_,fun i hi=> ?_,fun i hi=> ?_⟩⟩
  ·rw [qR k,e,f]at hp;rw [qR k,e',f',fM ht,fM ht,fM hq,fM hq];exact hp
  ·rw [lA k,lA k];exact h.pp i hi
  ·rw [lA k,lA k];exact h.ph i hi
  ·rw [lA k,lA k];simp only [e,e',f,f',Int.toNat_natCast];have one: ∀(us ts:List cg),us.length=ts.length→ ∀(p:Nat) (b:Int) (on:Bool) (j:Nat),us.getD p aJ=ts.getD p aJ→us.getD j aJ=ts.getD j aJ→(cY us p b on).getD j aJ=(cY ts p b on).getD j aJ:=fun us ts hl p b on j hp hj=>by
    rw [eN,eN (ts:=ts),hl,kb hl hp,hj]
   have l1:(cY s'.aa t 2 false).length=(cY s.aa t 2 false).length:=(by simp only [gQ,h.tl]);have l2:(cY (cY s'.aa t 2 false) t 1 false).length=(cY (cY s.aa t 2 false) t 1 false).length:=by simp only [gQ,h.tl]
   have all: ∀j,s'.aa.getD j aJ=s.aa.getD j aJ→(cY (cY s'.aa t 2 false) t 1 false).getD j aJ=(cY (cY s.aa t 2 false) t 1 false).getD j aJ:=fun j hj=>
    one _ _ l1 t 1 false j (one _ _ h.tl t 2 false t ht ht) (one _ _ h.tl t 2 false j ht hj)
   exact one _ _ l2 q 2 true i (all q hq) (all i (h.tt i hi))
 ·obtain⟨t,e,_⟩:=D.held (by omega);rw [bS]at e;rw [ej (s:=s) (.inr (.inl k))]at wp h⊢;obtain⟨wp,wh⟩:=wp (by simp [hwho]);have ht:s'.aa.getD t aJ=s.aa.getD t aJ:=h.tt t (by simp [e]);have e':aR s'.ao w a.hand=t:=(bW wh).trans e;refine⟨by rw [ej (.inr (.inl k)),e',e],fun hc hp=> ?_,⟨e1,e2,e3,fun i hi=> ?_,fun i hi=> ?_,fun i hi=> ?_⟩⟩
  ·rw [uw k,e]at hp;rw [uw k,e',fM ht];exact hp
  ·rw [lB k,lB k];exact h.pp i hi
  ·rw [lB k,lB k];exact h.ph i hi
  ·rw [lB k,lB k];simp only [e,e',Int.toNat_natCast];rw [eN,eN (ts:=s.aa),h.tl,kb h.tl ht,h.tt i hi]
 ·obtain⟨t,e,_⟩:=D.held (by omega);rw [bS]at e;rw [ej (s:=s) (.inr (.inr k))]at wp h⊢;obtain⟨wp,wh⟩:=wp (by simp [hwho]);have ht:s'.aa.getD t aJ=s.aa.getD t aJ:=h.tt t (by simp [e]);have e':aR s'.ao w a.hand=t:=(bW wh).trans e;refine⟨by rw [ej (.inr (.inr k)),e',e],fun hc hp=> ?_,⟨e1,e2,e3,fun i hi=> ?_,fun i hi=> ?_,fun i hi=> ?_⟩⟩
  ·rw [ux k,e]at hp;rw [ux k,e',fM ht];exact hp
  ·rw [lC k,lC k];exact h.pp i hi
  ·rw [lC k,lC k];exact h.ph i hi
  ·rw [lC k,lC k];simp only [e,e',Int.toNat_natCast];rw [eN,eN (ts:=s.aa),h.tl,kb h.tl ht,h.tt i hi]
section
theorem qZ {s:az}{w:Nat}{a:ai}(hk:1≤a.kind∧a.kind≤8)(h1:a.kind≠1):(dt s w a).ak=s.ak:=by
 rcases ka hk with k|k|k|k|k|k|k|k
 ·exact absurd k h1
 ·rw [lu k]
 ·rw [lx k]
 ·rw [ly k]
 ·rw [lz k]
 ·rw [lA k]
 ·rw [lB k]
 ·rw [lC k]
theorem Ra {s:az}{v:Nat}{b:ai}{t:Touch}(D:LC s v b)(h:LM t (cI s v b)):Ag s (dt s v b) t.ak t.aa:=by
 have L:=nC (s:=s) (w:=v) D.kind;have F:=Al D;exact⟨L.1,L.2.1,L.2.2,fun i hi=>(F.1 i (h.ap _ hi)).1,fun i hi=>(F.1 i (h.ap _ hi)).2,fun i hi=>F.2 i (h.aQ _ hi)⟩
section
variable {r:aI} {s:az} {w v:Nat} {a b:ai}
theorem An (hS:e9 r s)(hA:AB r w a)(hB:AB r v b)(pa:cd r s w a=true)(pb:cd r s v b=true)(h:LM (cI s w a) (cI s v b)):
  cI (dt s w a) v b=cI s v b∧cd r (dt s w a) v b=true∧Ag (dt s v b) (dt (dt s w a) v b) (cI s v b).ak (cI s v b).aa:=by
 have DA:=qS hS hA pa;have DB:=qS hS hB pb;obtain⟨l1,l2,l3⟩:=Am (r:=r) DB (Ra DA h.symm) hB.wl;refine⟨l1,l2 (fun k hin=> ?_) pb,l3⟩;rw [ur k]at pb;simp at pb;by_cases k1:a.kind=1
 ·rw [jo k1]at hin;rcases List.mem_or_eq_of_mem_set hin with x|x
  ·exact pb.1 x
  ·rw [lD k1,lD k]at h;exact h.ac a.cell (by simp) (by simp [x])
 ·rw [qZ hA.kind k1]at hin;exact pb.1 hin
end
noncomputable def kY (s:az)(g:List ai):az:=g.foldl (fun s a=>dt s a.aY.toNat a) s
theorem iT (s:az)(g h:List ai):kY s (g++h)=kY (kY s g) h:=List.foldl_append ..
noncomputable def T6 (s:az)(a:ai):Touch:=cI s a.aY.toNat a
structure pj (r:aI)(s:az)(g:List ai):Prop where
 ab: ∀a∈g,AB r a.aY.toNat a∧cd r s a.aY.toNat a=true
 ap:g.Pairwise fun a b=>LM (T6 s a) (T6 s b)
theorem pj.tail {r:aI}{s:az}{a:ai}{g:List ai}(hS:e9 r s)(h:pj r s (a::g)):e9 r (dt s a.aY.toNat a)∧pj r (dt s a.aY.toNat a) g:=by
 obtain⟨hA,pa⟩:=h.ab a (List.mem_cons_self ..);have hp:=List.pairwise_cons.1 h.ap;have one:=fun b (hb:b∈g)=>An hS hA (h.ab b (List.mem_cons_of_mem _ hb)).1 pa (h.ab b (List.mem_cons_of_mem _ hb)).2 (hp.1 b hb);refine⟨hS.T5 hA pa,⟨fun b hb=>⟨(h.ab b (List.mem_cons_of_mem _ hb)).1,(one b hb).2.1⟩, ?_⟩⟩;refine hp.2.imp_of_mem fun {x y} hx hy q=> ?_;unfold T6 at q⊢;rw [(one x hx).1,(one y hy).1];exact q
theorem pj.snd {r:aI}: ∀{g:List ai} {s:az},e9 r s→pj r s g→e9 r (kY s g)
 | [],s,hS,_=>hS
 |a::g,s,hS,h=>by
  obtain⟨h1,h2⟩:=h.tail hS;show e9 r (kY (dt s a.aY.toNat a) g)
  exact pj.snd h1 h2
end
section
variable {c:Nat} {H:ae}
section
variable {r:aI} {s:az} {w:Nat} {a:ai}
theorem uy (hS:e9 r s)(hW:WB r)(hA:AB r w a)(hH:0<H.length):
  aK KC (aE KC) 95 [.pure (.agg (aH r s)), .pure (.agg a.row)] c H=some (.pure (.bool (cd r s w a)),H):=by
 refine ey rfl rfl rfl rfl rfl hH fun H hH=> ?_;refine aU (aM KC au Try.func95 rfl rfl Lu (by simp) hH ?_);have W:=fun(k:Nat) (hk:1≤k∧k≤8) c (H:ae) (hH:0<H.length)=>xY (c:=c) (H:=H) hk hH;have W1:=W 1 (by omega);have W2:=W 2 (by omega);have W3:=W 3 (by omega);have W4:=W 4 (by omega);have W5:=W 5 (by omega);have W6:=W 6 (by omega);have W7:=W 7 (by omega);have W8:=W 8 (by omega);simp at W1 W2 W3 W4 W5 W6 W7 W8;rcases ka hA.kind with k|k|k|k|k|k|k|k
 ·have M:=fun c (H:ae) (hH:0<H.length)=>xS (c:=c) (H:=H) hS hW hA k hH;rw [bh,k]at M⊢;unfold aH at M⊢;simp [W1,M,ah]
 ·have M:=fun c (H:ae) (hH:0<H.length)=>xT (c:=c) (H:=H) hS hA k hH;rw [bh,k]at M⊢;unfold aH at M⊢;simp [W2,M,ah]
 ·have M:=fun c (H:ae) (hH:0<H.length)=>Ak (c:=c) (H:=H) hS hA k hH;rw [bh,k]at M⊢;unfold aH at M⊢;simp [W3,M,ah]
 ·have M:=fun c (H:ae) (hH:0<H.length)=>xU (c:=c) (H:=H) hS hW hA k hH;rw [bh,k]at M⊢;unfold aH at M⊢;simp [W4,M,ah]
 ·have M:=fun c (H:ae) (hH:0<H.length)=>xV (c:=c) (H:=H) hS hA k hH;rw [bh,k]at M⊢;unfold aH at M⊢;simp [W5,M,ah]
 ·have M:=fun c (H:ae) (hH:0<H.length)=>xW (c:=c) (H:=H) hS hA k hH;rw [bh,k]at M⊢;unfold aH at M⊢;simp [W6,M,ah]
 ·have M:=fun c (H:ae) (hH:0<H.length)=>v8 (c:=c) (H:=H) hS hA k hH;rw [bh,k]at M⊢;unfold aH at M⊢;simp [W7,M,ah]
 ·have M:=fun c (H:ae) (hH:0<H.length)=>xX (c:=c) (H:=H) hS hA k hH;rw [bh,k]at M⊢;unfold aH at M⊢;simp [W8,M,ah]
def eG (s:az)(w:Nat)(a:ai):List (Int×Int):=
 if a.kind=1 then [(0,a.aY),(2,s.ak.getD w 0),(2,a.cell)]
 else if a.kind=2 then [(0,a.aY),(1,a.bL)]
 else if a.kind=4 then [(0,a.aY),(0,a.other),(1,aR s.ao w a.hand)]
 else if a.kind=5∨a.kind=6 then [(0,a.aY),(1,aR s.ao w (1-a.hand)),(1,aR s.ao w a.hand)]
 else [(0,a.aY),(1,aR s.ao w a.hand)]
def cP (x:Int×Int):List PV:=[.int .i64 x.1, .int .i64 x.2]
theorem pk (hS:e9 r s)(hA:AB r w a)(hH:0<H.length):
  aK KC (aE KC) 96 [.pure (.agg (aH r s)), .pure (.agg a.row)] c H=some (.pure (.slice ((eG s w a).map cP)),H):=by
 refine aU (bw KC au Try.func96 rfl rfl Lv rfl rfl rfl (by simp) hH ?_);have hwp:w<s.ak.length:=(by rw [hS.pl];exact hA.wl);have E:=fun c (H:ae) (hH:0<H.length)=>jr (c:=c) (H:=H) hS.toSU hA hH;have G:=fun c (H:ae) (hH:0<H.length)=>oB (c:=c) (H:=H) hS.toSU hA hH;have hnl: ¬H.length≤H.length-1:=(by omega);have hp:=aX (d:=0) hwp;unfold eG;rcases ka hA.kind with k|k|k|k|k|k|k|k
 ·rw [bh,k]at E G⊢;unfold aH at E G⊢;simp [hA.aY]at E G;simp [hA.aY,hwp,ba,E,G,cP,hp,ah,hnl]
 ·rw [bh,k]at E G⊢;unfold aH at E G⊢;simp [hA.aY]at E G;simp [hA.aY,hwp,ba,E,G,cP,hp,ah,hnl]
 ·rw [bh,k]at E G⊢;unfold aH at E G⊢;simp [hA.aY]at E G;simp [hA.aY,hwp,ba,E,G,cP,hp,ah,hnl]
 ·rw [bh,k]at E G⊢;unfold aH at E G⊢;simp [hA.aY]at E G;simp [hA.aY,hwp,ba,E,G,cP,hp,ah,hnl]
 ·rw [bh,k]at E G⊢;unfold aH at E G⊢;simp [hA.aY]at E G;simp [hA.aY,hwp,ba,E,G,cP,hp,ah,hnl]
 ·rw [bh,k]at E G⊢;unfold aH at E G⊢;simp [hA.aY]at E G;simp [hA.aY,hwp,ba,E,G,cP,hp,ah,hnl]
 ·rw [bh,k]at E G⊢;unfold aH at E G⊢;simp [hA.aY]at E G;simp [hA.aY,hwp,ba,E,G,cP,hp,ah,hnl]
 ·rw [bh,k]at E G⊢;unfold aH at E G⊢;simp [hA.aY]at E G;simp [hA.aY,hwp,ba,E,G,cP,hp,ah,hnl]
theorem xZ {s:az}{w v:Nat}{a b:ai}:LM (cI s w a) (cI s v b)↔ ∀x∈eG s w a,x∉eG s v b:=by
 have mem: ∀(w:Nat) (a:ai) (x:Int×Int),x∈eG s w a↔(x.1=0∧x.2∈(cI s w a).ak)∨(x.1=1∧x.2∈(cI s w a).aa)∨(x.1=2∧x.2∈(cI s w a).cells):=fun w a x=>by
  obtain⟨p,q⟩:=x;unfold eG;rw [gB];simp only [bS]
  repeat' split
  all_goals simp only [List.mem_cons,List.not_mem_nil,or_false,Prod.mk.injEq]
  all_goals grind
 constructor
 ·intro h x hx hy;rw [mem]at hx hy;rcases hx with ⟨e,hx⟩|⟨e,hx⟩|⟨e,hx⟩
  ·rcases hy with ⟨_,hy⟩|⟨e',hy⟩|⟨e',hy⟩
   ·exact h.ap _ hx hy
   ·omega
   ·omega
  ·rcases hy with ⟨e',hy⟩|⟨_,hy⟩|⟨e',hy⟩
   ·omega
   ·exact h.aQ _ hx hy
   ·omega
  ·rcases hy with ⟨e',hy⟩|⟨e',hy⟩|⟨_,hy⟩
   ·omega
   ·omega
   ·exact h.ac _ hx hy
 ·intro h;refine⟨fun x h1 h2=>h (0,x) ((mem _ _ _).2 (.inl ⟨rfl,h1⟩)) ((mem _ _ _).2 (.inl ⟨rfl,h2⟩)),fun x h1 h2=>h (1,x) ((mem _ _ _).2 (.inr (.inl ⟨rfl,h1⟩))) ((mem _ _ _).2 (.inr (.inl ⟨rfl,h2⟩))),fun x h1 h2=>h (2,x) ((mem _ _ _).2 (.inr (.inr ⟨rfl,h1⟩))) ((mem _ _ _).2 (.inr (.inr ⟨rfl,h2⟩)))⟩
end
end
section
variable {c:Nat} {H:ae}
theorem Gr: ∀q:Fin 16,∀b∈[(1:Int),2,4],vF .i64 ((q.1:Nat):Int) b=if ((IntKind.i64.wrap (((q.1:Nat):Int).tdiv b)).tmod 2==1)then ((q.1:Nat):Int)else IntKind.i64.wrap (((q.1:Nat):Int)+b):=by decide+kernel
theorem Ao: ∀q:Fin 16,∀b∈[(1:Int),2,4],jq ((q.1:Nat):Int) b=if ((IntKind.i64.wrap (((q.1:Nat):Int).tdiv b)).tmod 2==1)then IntKind.i64.wrap (((q.1:Nat):Int)-b)else ((q.1:Nat):Int):=by decide+kernel
theorem LN: ∀q:Fin 16,jq ((q.1:Nat):Int) 3=jq (jq ((q.1:Nat):Int) 2) 1∧0≤jq ((q.1:Nat):Int) 2∧jq ((q.1:Nat):Int) 2<16:=by decide+kernel
section
variable {ts:List cg} {t:Nat} {b:Int}
theorem uz (ht:t<ts.length)(hs:0≤(ts.getD t aJ).state∧(ts.getD t aJ).state<16)(hb:b=1∨b=2∨b=4):
  cY ts t b true=ts.set t ⟨(ts.getD t aJ).cell,vF .i64 (ts.getD t aJ).state b⟩:=by
 obtain⟨q,hq⟩:=Int.eq_ofNat_of_zero_le hs.1;have B:=Gr ⟨q,by omega⟩ b (by simp;exact hb);simp only [←hq]at B;have h0:decide ((0:Int)≤t)=true:=(by simp);rw [iS,gf,h0,Bool.true_and];simp only [Int.toNat_natCast];rw [B];by_cases h:((IntKind.i64.wrap ((ts.getD t aJ).state.tdiv b)).tmod 2==1)=true
 ·rw [if_pos h,if_pos h];exact(qQ ts t aJ).symm
 ·rw [if_neg h,if_neg h];simp
theorem ra (ht:t<ts.length)(hs:0≤(ts.getD t aJ).state∧(ts.getD t aJ).state<16)(hb:b=1∨b=2∨b=4):
  cY ts t b false=ts.set t ⟨(ts.getD t aJ).cell,jq (ts.getD t aJ).state b⟩:=by
 obtain⟨q,hq⟩:=Int.eq_ofNat_of_zero_le hs.1;have B:=Ao ⟨q,by omega⟩ b (by simp;exact hb);simp only [←hq]at B;have h0:decide ((0:Int)≤t)=true:=(by simp);rw [iS,gf,h0,Bool.true_and];simp only [Int.toNat_natCast];rw [B];split
 ·rename_i h;have h': ¬((IntKind.i64.wrap ((ts.getD t aJ).state.tdiv b)).tmod 2==1)=true:=(by rw [h];simp);rw [if_neg h'];exact(qQ ts t aJ).symm
 ·rename_i h;have h':((IntKind.i64.wrap ((ts.getD t aJ).state.tdiv b)).tmod 2==1)=true:=(by simpa using h);rw [if_pos h'];rfl
theorem Ap (ht:t<ts.length)(hs:0≤(ts.getD t aJ).state∧(ts.getD t aJ).state<16):
  cY (cY ts t 2 false) t 1 false=ts.set t ⟨(ts.getD t aJ).cell,jq (ts.getD t aJ).state 3⟩:=by
 obtain⟨q,hq⟩:=Int.eq_ofNat_of_zero_le hs.1;obtain⟨b1,b2,b3⟩:=LN ⟨q,by omega⟩;simp only [←hq]at b1 b2 b3;rw [ra ht hs (.inr (.inl rfl))];have e:(ts.set t ⟨(ts.getD t aJ).cell,jq (ts.getD t aJ).state 2⟩).getD t aJ=⟨(ts.getD t aJ).cell,jq (ts.getD t aJ).state 2⟩:=(by rw [qT ht,if_pos rfl]);rw [ra (by simpa using ht) (by rw [e];exact⟨b2,b3⟩) (.inl rfl),e,b1];simp
end
def qf (r:aI)(n1 n2 n3:Nm)(s:az):GV:= .agg [.pure (.int .i64 r.wide), .pure (.int .i64 r.deep), .pure (.slice (r.ak.map bA.row)), .pure (.slice (r.aa.map bU.row)), .pure (.slice (r.seen.map ba)), .pure (.slice (r.bg.map ba)), .pure (.slice (r.aj.map ai.row)), .ay n1 1 s.ak.length 0 s.ak.length, .ay n2 2 s.ao.length 0 s.ao.length, .ay n3 2 s.aa.length 0 s.aa.length]
section
variable {r:aI} {s:az} {w:Nat} {a:ai} {n1 n2 n3:Nm} {v1 v2 v3:Nat}
theorem x6 (h:oA H n1 n2 n3 v1 v2 v3 s):xE H (qf r n1 n2 n3 s) (.agg (aH r s)):=by
 unfold qf aH;rw [qt];simp only [nw,qq,nv,and_true,true_and];exact⟨⟨_,v1,false,h.g1,h.e1,by simp,rfl,rfl,rfl⟩,⟨_,v2,false,h.g2,h.e2,by simp,rfl,rfl,rfl⟩,⟨_,v3,false,h.g3,h.e3,by simp,rfl,rfl,rfl⟩⟩
theorem Cm (h:oA H n1 n2 n3 v1 v2 v3 s)(hw:w<s.ao.length)(h1:a.aY=w)(h2:a.hand=0∨a.hand=1)(hH:0<H.length):
  aK KC (aE KC) 107 [qf r n1 n2 n3 s, .pure (.agg a.row)] c H=some (.pure (.int .i64 (aR s.ao w a.hand)),H):=
 iM KC rfl rfl (LF (x6 h) (show xE H (.pure (.agg a.row)) (.agg a.row)from rfl)) rfl hH (fun H hH=>vY (c:=c) hw h1 h2 hH) rfl
theorem rb (h:oA H n1 n2 n3 v1 v2 v3 s)(hw:w<s.ao.length)(h1:a.aY=w)(h2:a.hand=0∨a.hand=1)(hH:0<H.length):
  aK KC (aE KC) 106 [qf r n1 n2 n3 s, .pure (.agg a.row)] c H=some (.pure (.int .i64 (aR s.ao w (1-a.hand))),H):=
 iM KC rfl rfl (LF (x6 h) (show xE H (.pure (.agg a.row)) (.agg a.row)from rfl)) rfl hH (fun H hH=>qU (c:=c) hw h1 h2 hH) rfl
theorem Cn (h:oA H n1 n2 n3 v1 v2 v3 s){o:Nat}(ho:o<s.ao.length)(hH:0<H.length):
  aK KC (aE KC) 127 [qf r n1 n2 n3 s, .pure (.int .i64 o)] c H=some (.pure (.int .i64 (de s.ao o)),H):=
 iM KC rfl rfl (LF (x6 h) (show xE H (.pure (.int .i64 o)) (.int .i64 o)from rfl)) rfl hH (fun H hH=>v7 (c:=c) ho hH) rfl
def Gs (H:ae)(f:Nat)(r:aI)(n1 n2 n3:Nm)(s:az)(w:Nat)(a:ai)(c:Nat):Prop:=
 ∃v1' v2' v3',v1'≤s.ak.length∧v2'≤s.ao.length∧v3'≤s.aa.length∧
  aK KC (aE KC) f [qf r n1 n2 n3 s, .pure (.agg a.row)] c H=some (.pure (.tuple []),fS H n1 n2 n3 v1' v2' v3' (dt s w a))
theorem LO (h:xN H n1 n2 n3 v1 v2 v3 s)(hb:LC s w a)(hst: ∀t:Nat,t<s.aa.length→0≤(s.aa.getD t aJ).state∧(s.aa.getD t aJ).state<16)(hH:0<H.length):
  (a.kind=1→Gs H 109 r n1 n2 n3 s w a c)∧(a.kind=2→Gs H 111 r n1 n2 n3 s w a c)∧(a.kind=3→Gs H 113 r n1 n2 n3 s w a c)∧(a.kind=4→Gs H 115 r n1 n2 n3 s w a c)∧
  (a.kind=5→Gs H 117 r n1 n2 n3 s w a c)∧(a.kind=6→Gs H 119 r n1 n2 n3 s w a c)∧(a.kind=7→Gs H 121 r n1 n2 n3 s w a c)∧(a.kind=8→Gs H 123 r n1 n2 n3 s w a c):=by
 have l1:=ae.cj h.g1;have l2:=ae.cj h.g2;have l3:=ae.cj h.g3;have d1: ¬n1.1=H.length:=(by omega);have d2: ¬n2.1=H.length:=(by omega);have d3: ¬n3.1=H.length:=(by omega);have hp:=hb.hp;have hh:=hb.hh;have hwho:=hb.aY;have hg:s.ao.getD w bB=s.ao[w]:=aX hh;have hgp:s.ak.getD w 0=s.ak[w]:=aX hp;have G23: ∀b,(H.set n2 b).get n3=H.get n3:=fun b=>ae.a9 b h.Ch.symm;have G32: ∀b,(H.set n3 b).get n2=H.get n2:=fun b=>ae.a9 b h.Ch;have C32: ∀x y,(H.set n3 x).set n2 y=(H.set n2 y).set n3 x:=fun x y=>ae.set_comm h.Ch.symm;have G31: ∀b,(H.set n3 b).get n1=H.get n1:=fun b=>ae.a9 b h.Gl;have S2: ∀x,(H.set n1 x).set n2 (.arr 2 (s.ao.map bt.row) v2 false)=H.set n1 x:=fun x=>(by rw [ae.set_comm h.Ex,h.s2]);have S3: ∀x,(H.set n1 x).set n3 (.arr 2 (s.aa.map cg.row) v3 false)=H.set n1 x:=fun x=>(by rw [ae.set_comm h.Gl,h.s3]);have S4: ∀x,(H.set n2 x).set n3 (.arr 2 (s.aa.map cg.row) v3 false)=H.set n2 x:=fun x=>(by rw [ae.set_comm h.Ch,h.s3]);have s1:=h.s1;have s2:=h.s2;have s3:=h.s3;have G22: ∀b,(H.set n2 b).get n2=some b:=fun b=>ae.vG l2;have G33: ∀b,(H.set n3 b).get n3=some b:=fun b=>ae.vG l3;have E:=fun c (f:Fr)=>Cm (r:=r) (c:=c) (a:=a) (oA.up (fr:=f) h.tooA) hh hwho hb.hand (by simp);have G:=fun c (f:Fr)=>rb (r:=r) (c:=c) (a:=a) (oA.up (fr:=f) h.tooA) hh hwho hb.hand (by simp);have heq:aR s.ao w 0=s.ao[w].l∧aR s.ao w 1=s.ao[w].r:=(by unfold aR;rw [hg];simp);refine⟨fun k=> ?_,fun k=> ?_,fun k=> ?_,fun k=> ?_,fun k=> ?_,fun k=> ?_,fun k=> ?_,fun k=> ?_⟩
 ·have hd:=jo (s:=s) (w:=w) k;refine⟨s.ak.length,v2,v3,Nat.le_refl _,h.e2,h.e3,aU (bJ KC au Try.func109 rfl rfl y8 rfl rfl rfl (by simp) hH ?_)⟩;rw [bh];unfold qf;simp [d1,d2,d3,h.g1,h.g2,h.g3,h.e1,h.e2,h.e3,hp,hh,hwho,ba,aD,ah,hd,fS,S2,S3]
 ·obtain⟨t,et,ht⟩:=hb.take k;have hd:=lu (s:=s) (w:=w) k;have hgt:=aX (d:=aJ) ht;rw [et,Int.toNat_natCast,hgt]at hd;simp only [aW,hg]at hd;refine⟨v1,s.ao.length,s.aa.length,h.e1,Nat.le_refl _,Nat.le_refl _,aU (bJ KC au Try.func111 rfl rfl FT rfl rfl rfl (by simp) hH ?_)⟩;rw [bh];unfold qf;rcases hb.hand with z|z
  ·rw [z]at hd;simp at hd;simp [d1,d2,d3,h.g1,h.g2,h.g3,h.e1,h.e2,h.e3,hp,hh,hwho,et,z,ht,bt.row,cg.row,aD,ah,hd,fS,G23,s1]
  ·rw [z]at hd;simp at hd;simp [d1,d2,d3,h.g1,h.g2,h.g3,h.e1,h.e2,h.e3,hp,hh,hwho,et,z,ht,bt.row,cg.row,aD,ah,hd,fS,G23,s1]
 ·obtain⟨t,et,ht⟩:=hb.held (by omega);rw [bS]at et;have hd:=lx (s:=s) (w:=w) k;have hgt:=aX (d:=aJ) ht;rw [et,Int.toNat_natCast,hgt,hgp]at hd;simp only [aW,hg]at hd;refine⟨v1,s.ao.length,s.aa.length,h.e1,Nat.le_refl _,Nat.le_refl _,aU (bJ KC au Try.func113 rfl rfl FV rfl rfl rfl (by simp) hH ?_)⟩;rw [et,bh]at E;rw [bh];unfold qf at E⊢;simp [hwho]at E;rcases hb.hand with z|z
  ·rw [z]at hd E;simp at hd;simp [d1,d2,d3,h.g1,h.g2,h.g3,h.e1,h.e2,h.e3,hp,hh,hwho,E,z,ht,ba,bt.row,cg.row,aD,ah,hd,fS,G32,C32,s1]
  ·rw [z]at hd E;simp at hd;simp [d1,d2,d3,h.g1,h.g2,h.g3,h.e1,h.e2,h.e3,hp,hh,hwho,E,z,ht,ba,bt.row,cg.row,aD,ah,hd,fS,G32,C32,s1]
 ·obtain⟨t,et,ht⟩:=hb.held (by omega);rw [bS]at et;obtain⟨o,eo,ho,how,htk⟩:=hb.sI k;have hgo:=aX (d:=bB) ho;have hsw: ∀x,(s.ao.set o x).getD w bB=s.ao[w]:=fun x=>(by rw [qT hh,if_neg how,hg]);have hd:=ly (s:=s) (w:=w) k;rw [et,eo,Int.toNat_natCast]at hd;have T:=fun c (f:Fr)=>Cn (r:=r) (c:=c) (oA.up (fr:=f) h.tooA) ho (by simp);rw [et,bh]at E;unfold qf at E T;simp [hwho,eo]at E;simp only [aW,hgo,hsw]at hd;rcases htk with y|y
  ·rw [y]at hd T;refine⟨v1,s.ao.length,v3,h.e1,Nat.le_refl _,h.e3,aU (bJ KC au Try.func115 rfl rfl y9 rfl rfl rfl (by simp) hH ?_)⟩;rw [bh];unfold qf;rcases hb.hand with z|z
   ·rw [z]at hd E;simp at hd;simp [d1,d2,d3,h.g1,h.g2,h.g3,h.e1,h.e2,h.e3,hp,hh,hwho,eo,E,T,z,ht,ho,ba,bt.row,cg.row,aD,ah,hd,fS,G22,G23,s1,S4,how,List.getElem_set_ne]
   ·rw [z]at hd E;simp at hd;simp [d1,d2,d3,h.g1,h.g2,h.g3,h.e1,h.e2,h.e3,hp,hh,hwho,eo,E,T,z,ht,ho,ba,bt.row,cg.row,aD,ah,hd,fS,G22,G23,s1,S4,how,List.getElem_set_ne]
  ·rw [y]at hd T;refine⟨v1,s.ao.length,v3,h.e1,Nat.le_refl _,h.e3,aU (bJ KC au Try.func115 rfl rfl y9 rfl rfl rfl (by simp) hH ?_)⟩;rw [bh];unfold qf;rcases hb.hand with z|z
   ·rw [z]at hd E;simp at hd;simp [d1,d2,d3,h.g1,h.g2,h.g3,h.e1,h.e2,h.e3,hp,hh,hwho,eo,E,T,z,ht,ho,ba,bt.row,cg.row,aD,ah,hd,fS,G22,G23,s1,S4,how,List.getElem_set_ne]
   ·rw [z]at hd E;simp at hd;simp [d1,d2,d3,h.g1,h.g2,h.g3,h.e1,h.e2,h.e3,hp,hh,hwho,eo,E,T,z,ht,ho,ba,bt.row,cg.row,aD,ah,hd,fS,G22,G23,s1,S4,how,List.getElem_set_ne]
 ·obtain⟨u,eu,hu⟩:=hb.vy (.inl k);rw [bS]at eu;have hd:=lz (s:=s) (w:=w) k;have hgt:=aX (d:=aJ) hu;rw [eu,Int.toNat_natCast,uz hu (hst u hu) (.inl rfl),hgt]at hd;rw [eu,bh]at G;unfold qf at G;refine⟨v1,v2,s.aa.length,h.e1,h.e2,Nat.le_refl _,aU (bJ KC au Try.func117 rfl rfl FY rfl rfl rfl (by simp) hH ?_)⟩;rw [bh];unfold qf;simp [d1,d2,d3,h.g1,h.g2,h.g3,h.e1,h.e2,h.e3,hp,hh,G,hu,cg.row,aD,ah,hd,fS,s1,s2]
 ·obtain⟨t,et,ht⟩:=hb.held (by omega);rw [bS]at et;obtain⟨u,eu,hu⟩:=hb.vy (.inr k);rw [bS]at eu;have hd:=lA (s:=s) (w:=w) k;have hgt:=aX (d:=aJ) ht;have hst2:=hst;have S:=mU (t:=t) (bit:=2) (on:=false) hst ht (.inr (.inl rfl));have S':=mU (ts:=cY s.aa t 2 false) (t:=t) (bit:=1) (on:=false) (fun j hj=>(S.2 j (by rw [S.1]at hj;exact hj)).2) (by rw [S.1];exact ht) (.inl rfl);rw [et,eu,Int.toNat_natCast,Int.toNat_natCast,uz (by rw [S'.1,S.1];exact hu) (S'.2 u (by rw [S.1];exact hu)).2 (.inr (.inl rfl)),Ap ht (hst t ht),hgt]at hd;rw [et,bh]at E;unfold qf at E;obtain⟨X,hX⟩: ∃X,s.aa.set t ⟨s.aa[t].cell,jq s.aa[t].state 3⟩=X:=⟨_,rfl⟩;have hXl:X.length=s.aa.length:=(by rw [←hX];simp);have huX:u<X.length:=(by omega);rw [hX,aX huX]at hd;have hXr:(s.aa.map cg.row).set t [.int .i64 s.aa[t].cell, .int .i64 (jq s.aa[t].state 3)]=X.map cg.row:=by
   rw [←hX,List.map_set];rfl
  have SX:oA (H.set n3 (.arr 2 (X.map cg.row) s.aa.length false)) n1 n2 n3 v1 v2 s.aa.length {s with aa:=X}:=
   ⟨h.Ex,h.Gl,h.Ch,(G31 _).trans h.g1,(G32 _).trans h.g2,G33 _,h.e1,h.e2,by show s.aa.length≤X.length;omega⟩
  have G':=fun c (f:Fr)=>rb (r:=r) (c:=c) (a:=a) (oA.up (fr:=f) SX) hh hwho hb.hand (by simp);simp only [eu]at G';rw [bh]at G';unfold qf at G';simp only [hXl]at G';refine⟨v1,v2,s.aa.length,h.e1,h.e2,Nat.le_refl _,aU (bJ KC au Try.func119 rfl rfl F4 rfl rfl rfl (by simp) hH ?_)⟩;rw [bh];unfold qf;simp [d1,d2,d3,h.g1,h.g2,h.g3,h.e1,h.e2,h.e3,hp,hh,E,ht,hXr,G',G33,hu,huX,hXl,cg.row,aD,ah,hd,fS,s1,s2]
 ·obtain⟨t,et,ht⟩:=hb.held (by omega);rw [bS]at et;have hd:=lB (s:=s) (w:=w) k;have hgt:=aX (d:=aJ) ht;rw [et,Int.toNat_natCast,uz ht (hst t ht) (.inr (.inr rfl)),hgt]at hd;rw [et,bh]at E;unfold qf at E;refine⟨v1,v2,s.aa.length,h.e1,h.e2,Nat.le_refl _,aU (bJ KC au Try.func121 rfl rfl F7 rfl rfl rfl (by simp) hH ?_)⟩;rw [bh];unfold qf;simp [d1,d2,d3,h.g1,h.g2,h.g3,h.e1,h.e2,h.e3,hp,hh,E,ht,cg.row,aD,ah,hd,fS,s1,s2]
 ·obtain⟨t,et,ht⟩:=hb.held (by omega);rw [bS]at et;have hd:=lC (s:=s) (w:=w) k;have hgt:=aX (d:=aJ) ht;rw [et,Int.toNat_natCast,ra ht (hst t ht) (.inr (.inr rfl)),hgt]at hd;rw [et,bh]at E;unfold qf at E;refine⟨v1,v2,s.aa.length,h.e1,h.e2,Nat.le_refl _,aU (bJ KC au Try.func123 rfl rfl F9 rfl rfl rfl (by simp) hH ?_)⟩;rw [bh];unfold qf;simp [d1,d2,d3,h.g1,h.g2,h.g3,h.e1,h.e2,h.e3,hp,hh,E,ht,cg.row,aD,ah,hd,fS,s1,s2]
end
end
def Fr.ow (f:Fr):Prop:=(f.map (·.1)).Pairwise (· < ·)
theorem Fr.v9 {q : Nat} {b : dW} : ∀ {f : Fr} {k : Nat}, k ∈ (f.ins q b).map (·.1) → k = q ∨ k ∈ f.map (·.1)
  | [], k, h => by simp at h; exact .inl h
  | (k0, c) :: r, k, h => by
    simp only [Fr.re] at h
    split at h
    · rename_i e; subst e
      simp only [List.map_cons, List.mem_cons] at h ⊢
      exact .inr h
    · split at h
      · simp only [List.map_cons, List.mem_cons] at h ⊢
        exact h
      · simp only [List.map_cons, List.mem_cons] at h ⊢
        rcases h with h | h
        · exact .inr (.inl h)
        · rcases Fr.v9 h with h | h
          · exact .inl h
          · exact .inr (.inr h)
theorem Fr.fm {q : Nat} {b : dW} : ∀ {f : Fr}, f.ow → (f.ins q b).ow
  | [], _ => by simp [Fr.ow]
  | (k, c) :: r, hs => by
    unfold Fr.ow at hs ⊢
    rw [List.map_cons, List.pairwise_cons] at hs
    simp only [Fr.re]
    split
    · rename_i e; subst e
      rw [List.map_cons, List.pairwise_cons]; exact hs
    · rename_i ne
      split
      · rename_i lt
        rw [List.map_cons, List.pairwise_cons, List.map_cons, List.pairwise_cons]
        refine ⟨fun y hy => ?_, hs⟩
        rcases List.mem_cons.1 hy with h | h
        · subst h; exact lt
        · have := hs.1 y h; simp only at *; omega
      · rw [List.map_cons, List.pairwise_cons]
        refine ⟨fun y hy => ?_, Fr.fm (f := r) hs.2⟩
        rcases Fr.v9 hy with h | h
        · subst h; simp only at *; omega
        · exact hs.1 y h
theorem Fr.get_mem {q : Nat} {b : dW} : ∀ {f : Fr}, f.get q = some b → (q, b) ∈ f
  | [], h => by simp at h
  | (k, c) :: r, h => by
    simp only [Fr.cA] at h
    split at h
    · rename_i e; subst e; cases h; exact List.mem_cons_self ..
    · exact List.mem_cons_of_mem _ (Fr.get_mem h)
def qg:Nat→Nat|0=>110619|1=>1000000041015|_=>2000000041015
def I6 (L:Nat)(r0:aI)(aj:List ai):dW:= .box [.pure (.int .i64 r0.wide), .pure (.int .i64 r0.deep), .ay (L,188441) 2 r0.ak.length 0 r0.ak.length, .ay (L,339993) 5 r0.aa.length 0 r0.aa.length, .aO,jL (L,393241) 1 (r0.bg.map ba),jL (L,62) 9 (aj.map ai.row)]
structure SF (F:Fr)(k1 k2 k3:Nat)(s:az):Prop where
 h1: ∃v,v≤s.ak.length∧F.get k1=some (.arr 1 (s.ak.map ba) v false)
 h2: ∃v,v≤s.ao.length∧F.get k2=some (.arr 2 (s.ao.map bt.row) v false)
 h3: ∃v,v≤s.aa.length∧F.get k3=some (.arr 2 (s.aa.map cg.row) v false)
structure FB (L:Nat)(F:Fr)(r0:aI)(aj:List ai)(sb:dW):Prop where
 ow:F.ow
 g6:F.get 6=some Q6
 g7:F.get 7=some (I6 L r0 aj)
 g8:F.get 8=some sb
 gp:F.get 188441=some (.arr 2 (r0.ak.map bA.row) 0 false)
 gt:F.get 339993=some (.arr 5 (r0.aa.map bU.row) 0 false)
 gl:r0.bg≠[]→F.get 393241=some (.arr 1 (r0.bg.map ba) 0 false)
 UQ:aj=[]→F.get 62=none
 ga:aj≠[]→F.get 62=some (.arr 9 (aj.map ai.row) 0 false)
 ref: ∀x∈F,x.1≠8→ ∀k,Co k=true→rf (L,k) x.2=true
theorem SF.other {F F':Fr}{k1 k2 k3:Nat}{s:az}(h:SF F k1 k2 k3 s)(e1:F'.get k1=F.get k1)(e2:F'.get k2=F.get k2)(e3:F'.get k3=F.get k3):SF F' k1 k2 k3 s:=by
 obtain⟨a,b,c⟩:=h;exact⟨by rw [e1];exact a,by rw [e2];exact b,by rw [e3];exact c⟩
section
theorem Fr.ri {k : Nat} {b : dW} : ∀ {f : Fr}, f.ow → f.get k = some b → f.ins k b = f
  | [], _, h => by simp at h
  | (j, c) :: r, hs, h => by
    unfold Fr.ow at hs
    rw [List.map_cons, List.pairwise_cons] at hs
    simp only [Fr.cA] at h
    simp only [Fr.re]
    by_cases e : k = j
    · subst e
      rw [if_pos rfl] at h
      cases h
      rw [if_pos rfl]
    · rw [if_neg e] at h
      rw [if_neg e]
      have := hs.1 k (List.mem_map_of_mem (f := (·.1)) (Fr.get_mem h))
      simp only at this
      rw [if_neg (by omega), Fr.ri hs.2 h]
def I7 (L:Nat)(r0:aI)(aj:List ai):GV:= .agg [.pure (.int .i64 r0.wide), .pure (.int .i64 r0.deep), .ay (L,188441) 2 r0.ak.length 0 r0.ak.length, .ay (L,339993) 5 r0.aa.length 0 r0.aa.length, .aO,jL (L,393241) 1 (r0.bg.map ba),jL (L,62) 9 (aj.map ai.row)]
def I8 (r0:aI)(aj:List ai):aI:={r0 with aj:=aj}
section
variable {F f0:Fr} {H:ae} {r0:aI} {aj:List ai} {sb:dW} {c:Nat}
theorem ze {nm:Nm}{es:Nat}{rows:List (List PV)}(h:rows≠[]→H.get nm=some (.arr es rows 0 false)):zb H (jL nm es rows) (.slice rows):=by
 unfold jL;by_cases hr:rows=[]
 ·subst hr;rw [if_pos rfl];simp
 ·rw [if_neg hr];exact⟨rows,0,false,h hr,Nat.zero_le _,rfl,rfl,rfl,rfl⟩
theorem FB.rd (h:FB H.length F r0 aj sb)(hs:r0.seen=[]):xE (f0::F::H) (I7 H.length r0 aj) (.agg (I8 r0 aj).row):=by
 have ne: ¬H.length=H.length+1:=(by omega);have g: ∀k,ae.get (f0::F::H) (H.length,k)=F.get k:=fun k=>(by simp [ne]);rw [iP];unfold I7;rw [qt];simp only [I8,nw,qq,nv,and_true,true_and];refine⟨⟨_,0,false,(g _).trans h.gp,Nat.zero_le _,by simp,rfl,rfl,rfl⟩,⟨_,0,false,(g _).trans h.gt,Nat.zero_le _,by simp,rfl,rfl,rfl⟩, ?_,ze fun hr=>(g _).trans (h.gl ?_),ze fun hr=>(g _).trans (h.ga ?_)⟩
 ·rw [hs];rfl
 ·intro e;rw [e]at hr;exact hr rfl
 ·intro e;rw [e]at hr;exact hr rfl
theorem SF.self {k1 k2 k3:Nat}{s:az}(hF:F.ow)(h:SF F k1 k2 k3 s)(Ex:k1≠k2)(Gl:k1≠k3)(Ch:k2≠k3): ∃v1 v2 v3,xN (f0::F::H) (H.length,k1) (H.length,k2) (H.length,k3) v1 v2 v3 s:=by
 have ne: ¬H.length=H.length+1:=(by omega);have g: ∀k,ae.get (f0::F::H) (H.length,k)=F.get k:=fun k=>(by simp [ne]);have st: ∀k b,F.get k=some b→ae.set (f0::F::H) (H.length,k) b=f0::F::H:=fun k b hb=>(by simp [ne,Fr.ri hF hb]);have nn: ∀a b:Nat,a≠b→((H.length,a):Nm)≠(H.length,b):=fun a b h e=>h (Prod.mk.inj e).2;obtain⟨⟨v1,a1,b1⟩,⟨v2,a2,b2⟩,⟨v3,a3,b3⟩⟩:=h;exact⟨v1,v2,v3,{Ex:=nn _ _ Ex,Gl:=nn _ _ Gl,Ch:=nn _ _ Ch,g1:=(g _).trans b1,g2:=(g _).trans b2,g3:=(g _).trans b3,e1:=a1,e2:=a2,e3:=a3,s1:=st _ _ b1,s2:=st _ _ b2,s3:=st _ _ b3}⟩
structure RB (r0:aI)(n:Nat):Prop where
 hn:IntKind.i64.wrap (r0.wide*r0.deep)=n
 n0:0<n
 n9:n≤9
 wide:r0.wide≠0
 pl:r0.ak.length≤3
 tl:r0.aa.length≤4
 p0:r0.ak≠[]
 t0:r0.aa≠[]
 seen:r0.seen=[]
end
end
section
def SV (r:aI):az→List (List ai)→Prop
 |_,[]=>True
 |s,g::gs=>(pj r s g∧g≠[]∧ ∀a∈g,∀b∈g,a.aQ=b.aQ)∧SV r (kY s g) gs
theorem wa {r:aI}{g:List ai}: ∀{gs:List (List ai)} {s:az},SV r s gs→(pj r (kY s gs.flatten) g∧g≠[]∧ ∀a∈g,∀b∈g,a.aQ=b.aQ)→SV r s (gs++[g])
 | [],s,_,h=>⟨h,trivial⟩
 |g0::gs,s,h,h2=>⟨h.1,wa h.2 (by rw [←iT];exact h2)⟩
structure Made (r0:aI)(aj:List ai)(s:az)(t:Int):Prop where
 gs: ∃gs:List (List ai),aj=gs.flatten∧SV r0 (aV r0) gs∧(gs.Pairwise fun g h=> ∀a∈g,∀b∈h,a.aQ<b.aQ)
 lt: ∀a∈aj,a.aQ<t
 z: ∀a∈aj,0≤a.aQ∧a.dE=0∧a.lf=0
 sc:s=kY (aV r0) aj
 snd:e9 r0 s
 t0:0≤t
theorem Made.UR {r0:aI}{aj:List ai}{s:az}{t t':Int}{g:List ai}(h:Made r0 aj s t)(hg:pj r0 s g)(hne:g≠[])(hat: ∀a∈g,a.aQ=t∧a.dE=0∧a.lf=0)(ht:t<t'):Made r0 (aj++g) (kY s g) t':=by
 obtain⟨gs,e,h1,h2⟩:=h.gs;have hs:=h.sc;have t0:=h.t0;refine⟨⟨gs++[g],by rw [e];simp,wa h1 ⟨by rw [←e,←hs];exact hg,hne,fun a ha b hb=>(hat a ha).1.trans (hat b hb).1.symm⟩, ?_⟩,fun a ha=> ?_,fun a ha=> ?_,by rw [iT,←hs],hg.snd h.snd,by omega⟩
 ·rw [List.pairwise_append];refine⟨h2,List.pairwise_singleton ..,fun g' hg' x hx a ha b hb=> ?_⟩;simp only [List.mem_singleton]at hx;subst hx;have:=h.lt a (by rw [e];exact List.mem_flatten.2 ⟨g',hg',ha⟩);have:=(hat b hb).1;omega
 ·rcases List.mem_append.1 ha with x|x
  ·have:=h.lt a x;omega
  ·have:=(hat a x).1;omega
 ·rcases List.mem_append.1 ha with x|x
  ·exact h.z a x
  ·have:=(hat a x).1;exact⟨by omega,(hat a x).2⟩
theorem LQ {r:aI}(h:Q7 r):e9 r (aV r):=by
 have ce: ∀l:List bA,∀t:Nat,ib (l.map fun _=>empty) t=0:=fun l t=>by
  induction l with
  |nil=>rfl
  |cons a l ih=>
   have: ¬(-1:Int)=t:=(by omega);simp only [List.map_cons,ib,ih];simp [uq,empty,this]
 refine {pl:=by simp [aV],hl:=by simp [aV],tl:=by simp [aV],hr:=fun i hi=> ?_,pr:=fun x hx=> ?_,pn:=h.pn,th:=fun t ht=> ?_,st:=fun t ht=> ?_}
 ·simp only [aV,List.getElem_map,empty,List.length_map];omega
 ·simp only [aV,List.mem_map]at hx;obtain⟨p,hp,rfl⟩:=hx;exact(h.pc p hp).2
 ·have ht':t<r.aa.length:=(by simpa [aV]using ht);have e:((aV r).aa.getD t aJ)=j9 r.aa[t]:=by
   rw [aX ht];simp [aV]
  rw [e];exact .inr ⟨ce _ _,(h.tc _ (List.getElem_mem ht')).1,(h.tc _ (List.getElem_mem ht')).2.1⟩
 ·have ht':t<r.aa.length:=(by simpa [aV]using ht);have e:((aV r).aa.getD t aJ)=j9 r.aa[t]:=by
   rw [aX ht];simp [aV]
  rw [e];exact⟨(h.tc _ (List.getElem_mem ht')).2.2.1,(h.tc _ (List.getElem_mem ht')).2.2.2.1⟩
def setAt (a:ai)(t:Int):ai:={a with aQ:=t}
section
variable {r:aI} {s:az} {w:Nat} {a:ai} {t:Int}
theorem Cp (h:AB r w a):AB r w (setAt a t):=⟨h.aY,h.wl,h.hand,h.kind,h.take,h.sI,h.step,h.form⟩
end
theorem te {r:aI}{n w:Nat}{a:ai}(hn:r.wide*r.deep=n)(hw:w<r.ak.length)(h:a∈cL n r.aa.length r.ak.length w):AB r w a∧a.aQ=0∧a.dE=0∧a.lf=0:=by
 have one: ∀(hand kind:Nat),(hand=0∨hand=1)→2≤kind→kind≤8→a∈lq r.aa.length r.ak.length w kind hand→AB r w a∧a.aQ=0∧a.dE=0∧a.lf=0:=fun hand kind hh k2 k8 ha=>by
  have hh':(hand:Int)=0∨(hand:Int)=1:=(by omega);unfold lq at ha;split at ha
  ·simp only [jC,List.mem_map,List.mem_range']at ha;obtain⟨x,⟨i,hi,rfl⟩,rfl⟩:=ha;exact⟨⟨rfl,hw,hh',⟨by simp [cn],by simp [cn]⟩,fun _=>⟨_,rfl,by omega⟩,fun h=>by simp [cn]at h,fun h=>by simp [cn]at h,by simp [kP,cn]⟩,rfl,rfl,rfl⟩
  ·split at ha
   ·simp only [ia,List.mem_map,List.mem_filter,List.mem_range']at ha;obtain⟨x,⟨⟨i,hi,rfl⟩,hne⟩,rfl⟩:=ha;refine⟨⟨rfl,hw,hh',⟨by simp [cn],by simp [cn]⟩,fun h=>by simp [cn]at h,fun _=>⟨_,rfl,by omega,fun e=> ?_⟩,fun h=>by simp [cn]at h,by simp [kP,cn]⟩,rfl,rfl,rfl⟩;rw [e]at hne;simp at hne
   ·rename_i n2 n4;simp only [List.mem_singleton]at ha;subst ha;have m1: ¬(kind:Int)=1:=(by omega);have m2: ¬(kind:Int)=2:=(by omega);have m4: ¬(kind:Int)=4:=(by omega);exact⟨⟨rfl,hw,hh',⟨by simp only [cn];omega,by simp only [cn];omega⟩,fun h=>absurd h m2,fun h=>absurd h m4,fun h=>absurd h m1,by simp [kP,cn,m1,m2,m4]⟩,rfl,rfl,rfl⟩
 unfold cL at h;rcases List.mem_append.1 h with h|h
 ·simp only [lk,List.mem_map,List.mem_range']at h;obtain⟨x,⟨i,hi,rfl⟩,rfl⟩:=h;refine⟨⟨rfl,hw, .inl rfl,⟨by simp [cn],by simp [cn]⟩,fun h=>by simp [cn]at h,fun h=>by simp [cn]at h,fun _=>⟨?_, ?_⟩,by simp [kP,cn]⟩,rfl,rfl,rfl⟩
  ·simp only [cn];omega
  ·simp only [cn];omega
 ·simp only [iR,List.mem_flatMap,List.mem_range',vP,List.mem_append]at h;obtain⟨k,⟨i,hi,rfl⟩,h⟩:=h;rcases h with h|h
  ·exact one 0 _ (.inl rfl) (by omega) (by omega) h
  ·exact one 1 _ (.inr rfl) (by omega) (by omega) h
end
section
variable {H:ae}
end
section
variable {H:ae}
end
section
variable {H:ae}
end
section
variable {H:ae}
end
section
variable {H:ae}
end
section
variable {c:Nat} {H:ae}
def G2 (L:Nat)(r0:aI):Fr:=kN 393241 1 (r0.bg.map ba) [(6,Q6),(7,I6 L r0 []),(188441, .arr 2 (r0.ak.map bA.row) 0 false),(339993, .arr 5 (r0.aa.map bU.row) 0 false)]
def kt (c:Nat):Nat:=aq c 339993
end
section
variable {c:Nat} {H:ae}
theorem uA {key es:Nat}{rows:List (List PV)}{F:Fr}{b:dW}:(kN key es rows F).ins key b=F.ins key b:=by
 unfold kN;split
 ·rfl
 ·exact Fr.jj _
end
section
variable {c:Nat} {H:ae}
theorem ke {K:Ctx}{rec:Rec}{f:FuncId}{args:List GV}(h1:jN args=false)(h2:K.vF f=false)(h3:K.BH f=false):aK K rec f args c H=bG K rec f args c H:=by
 unfold aK;simp [h1,h2,h3]
section
variable {x:List PV} {l:List (List PV)}
theorem zf:fC KC .eql 22 (.pure (.slice (x::l)))=some (.bool false):=by
 unfold fC;rw [Aa,Try.underlying22];rfl
theorem zg:fC KC .eql 23 (.pure (.slice (x::l)))=some (.bool false):=by
 unfold fC;rw [Aa,Try.underlying23];rfl
theorem zh:fC KC .eql 24 (.pure (.slice (x::l)))=some (.bool false):=by
 unfold fC;rw [Aa,Try.underlying24];rfl
theorem zi:fC KC .eql 25 (.pure (.slice (x::l)))=some (.bool false):=by
 unfold fC;rw [Aa,Try.underlying25];rfl
theorem zj:fC KC .eql 45 (.pure (.slice (x::l)))=some (.bool false):=by
 unfold fC;rw [Aa,Try.underlying45];rfl
theorem zk:fC KC .eql 46 (.pure (.slice (x::l)))=some (.bool false):=by
 unfold fC;rw [Aa,Try.underlying46];rfl
end
theorem po (l:List Int)(h0:l≠[])(hn:l.length≤1000000)(hH:0<H.length)(hf:H.get (H.length-1,aq c 7)=none):
  aK KC (aE KC) 75 [.pure (.slice (l.map ba))] c H=some (.ay (H.length-1,aq c 7) 1 l.length 0 l.length,H.set (H.length-1,aq c 7) (.arr 1 (l.map ba) 0 false)):=by
 obtain⟨x,l',rfl⟩:=List.exists_cons_of_ne_nil h0;have hb:(l'.length+1)*8≤1099511627776:=(by simp at hn;omega);have hall: ∀x:Int,(ba x).length=1:=fun x=>rfl;have hnl: ¬H.length+1≤H.length:=(by omega);rw [ke rfl rfl rfl];refine aU (aM KC au Try.func75 rfl rfl Li (by simp) hH ?_);simp [zf,zg,zh,zi,zj,zk,hb,hall,hnl,eW,refs,ij,fy,ez,js,ju,dedup,eJ,dg,BJ,hf,Ew,qh,jD]
theorem nE (l:List bt)(h0:l≠[])(hn:l.length≤1000000)(hH:0<H.length)(hf:H.get (H.length-1,aq c 7)=none):
  aK KC (aE KC) 76 [.pure (.slice (l.map bt.row))] c H=some (.ay (H.length-1,aq c 7) 2 l.length 0 l.length,H.set (H.length-1,aq c 7) (.arr 2 (l.map bt.row) 0 false)):=by
 obtain⟨x,l',rfl⟩:=List.exists_cons_of_ne_nil h0;have hb:(l'.length+1)*16≤1099511627776:=(by simp at hn;omega);have hall: ∀x:bt,(bt.row x).length=2:=fun x=>rfl;have hnl: ¬H.length+1≤H.length:=(by omega);rw [ke rfl rfl rfl];refine aU (aM KC au Try.func76 rfl rfl Lj (by simp) hH ?_);simp [zf,zg,zh,zi,zj,zk,hb,hall,hnl,eW,refs,ij,fy,ez,js,ju,dedup,eJ,dg,BJ,hf,Ew,qh,jD]
theorem uB (l:List cg)(h0:l≠[])(hn:l.length≤1000000)(hH:0<H.length)(hf:H.get (H.length-1,aq c 7)=none):
  aK KC (aE KC) 77 [.pure (.slice (l.map cg.row))] c H=some (.ay (H.length-1,aq c 7) 2 l.length 0 l.length,H.set (H.length-1,aq c 7) (.arr 2 (l.map cg.row) 0 false)):=by
 obtain⟨x,l',rfl⟩:=List.exists_cons_of_ne_nil h0;have hb:(l'.length+1)*16≤1099511627776:=(by simp at hn;omega);have hall: ∀x:cg,(cg.row x).length=2:=fun x=>rfl;have hnl: ¬H.length+1≤H.length:=(by omega);rw [ke rfl rfl rfl];refine aU (aM KC au Try.func77 rfl rfl Lk (by simp) hH ?_);simp [zf,zg,zh,zi,zj,zk,hb,hall,hnl,eW,refs,ij,fy,ez,js,ju,dedup,eJ,dg,BJ,hf,Ew,qh,jD]
theorem pq (l:List ai)(h0:l≠[])(hn:l.length≤1000000)(hH:0<H.length)(hf:H.get (H.length-1,aq c 7)=none):
  aK KC (aE KC) 80 [.pure (.slice (l.map ai.row))] c H=some (.ay (H.length-1,aq c 7) 9 l.length 0 l.length,H.set (H.length-1,aq c 7) (.arr 9 (l.map ai.row) 0 false)):=by
 obtain⟨x,l',rfl⟩:=List.exists_cons_of_ne_nil h0;have hb:(l'.length+1)*72≤1099511627776:=(by simp at hn;omega);have hall: ∀x:ai,(ai.row x).length=9:=fun x=>rfl;have hnl: ¬H.length+1≤H.length:=(by omega);rw [ke rfl rfl rfl];refine aU (aM KC au Try.func80 rfl rfl Ll (by simp) hH ?_);simp [zf,zg,zh,zi,zj,zk,hb,hall,hnl,eW,refs,ij,fy,ez,js,ju,dedup,eJ,dg,BJ,hf,Ew,qh,jD]
end
section
variable {c:Nat} {H:ae}
def bx (r:aI)(s:az):dW:= .box [.pure (.int .i64 r.wide), .pure (.int .i64 r.deep), .pure (.slice (r.ak.map bA.row)), .pure (.slice (r.aa.map bU.row)), .pure (.slice (r.seen.map ba)), .pure (.slice (r.bg.map ba)), .pure (.slice (r.aj.map ai.row)), .pure (.slice (s.ak.map ba)), .pure (.slice (s.ao.map bt.row)), .pure (.slice (s.aa.map cg.row))]
structure Full (s:az):Prop where
 p0:s.ak≠[]
 h0:s.ao≠[]
 pl:s.ak.length≤1000000
 hl:s.ao.length≤1000000
 tl:s.aa.length≤1000000
theorem Aq (r:aI){s:az}(h:Full s)(ht0:s.aa≠[])(hH:0<H.length)(hf1:H.get (H.length-1,aq c 28679)=none)(hf2:H.get (H.length-1,aq c 28683)=none)(hf3:H.get (H.length-1,aq c 28687)=none):
  aK KC (aE KC) 52 [.pure (.agg (aH r s))] c H=some (qf r (H.length-1,aq c 28679) (H.length-1,aq c 28683) (H.length-1,aq c 28687) s,
   fS H (H.length-1,aq c 28679) (H.length-1,aq c 28683) (H.length-1,aq c 28687) 0 0 0 s):=by
 refine aU (bw KC au Try.func52 rfl rfl B4 rfl rfl rfl (by simp) hH ?_);have Ex:aq c 28679≠aq c 28683:=(by unfold aq;omega);have Gl:aq c 28679≠aq c 28687:=(by unfold aq;omega);have Ch:aq c 28683≠aq c 28687:=(by unfold aq;omega);have k1:(H.length-1,aq c 28683)≠((H.length-1,aq c 28679):Nm):=fun e=>Ex (Prod.mk.inj e).2.symm;have k2:(H.length-1,aq c 28687)≠((H.length-1,aq c 28679):Nm):=fun e=>Gl (Prod.mk.inj e).2.symm;have k3:(H.length-1,aq c 28687)≠((H.length-1,aq c 28683):Nm):=fun e=>Ch (Prod.mk.inj e).2.symm;have g2: ∀b,(H.set (H.length-1,aq c 28679) b).get (H.length-1,aq c 28683)=none:=fun b=>(ae.a9 b k1).trans hf2;have g3: ∀b b',((H.set (H.length-1,aq c 28679) b).set (H.length-1,aq c 28683) b').get (H.length-1,aq c 28687)=none:=fun b b'=>(ae.a9 b' k3).trans ((ae.a9 b k2).trans hf3);have m1:aq 6 7=28679:=(by decide);have m2:aq 10 7=28683:=(by decide);have m3:aq 14 7=28687:=(by decide);have C1:=fun(F:Fr) (hf:F.get 28679=none)=>po (c:=6) (H:=F::H) s.ak h.p0 h.pl (by simp) (by simp [m1,hf]);have C2:=fun(F:Fr) (hf:F.get 28683=none)=>nE (c:=10) (H:=F::H) s.ao h.h0 h.hl (by simp) (by simp [m2,hf]);have C3:=fun(F:Fr) (hf:F.get 28687=none)=>uB (c:=14) (H:=F::H) s.aa ht0 h.tl (by simp) (by simp [m3,hf]);simp [m1,m2,m3]at C1 C2 C3;unfold aH;simp [C1,C2,C3,eW,refs,ij,fy,ez,js,ju,dedup,eJ,dg,BJ,hf1,g2,g3,Ew,qh,jD,fS,qf]
def OW (r:aI)(n1 n2:Nm)(s:az):GV:= .agg [.pure (.int .i64 r.wide), .pure (.int .i64 r.deep), .pure (.slice (r.ak.map bA.row)), .pure (.slice (r.aa.map bU.row)), .pure (.slice (r.seen.map ba)), .pure (.slice (r.bg.map ba)), .pure (.slice (r.aj.map ai.row)), .ay n1 1 s.ak.length 0 s.ak.length, .ay n2 2 s.ao.length 0 s.ao.length, .aO]
theorem wb:aK KC (aE KC) 77 [.pure (.slice [])] c H=some (.aO,H):=by
 unfold aK;rw [show KC.vw 77=true from rfl]
 simp [jN]
theorem x7 (r:aI){s:az}(h:Full s)(ht0:s.aa=[])(hH:0<H.length)(hf1:H.get (H.length-1,aq c 28679)=none)(hf2:H.get (H.length-1,aq c 28683)=none):
  aK KC (aE KC) 52 [.pure (.agg (aH r s))] c H=some (OW r (H.length-1,aq c 28679) (H.length-1,aq c 28683) s,
   (H.set (H.length-1,aq c 28679) (.arr 1 (s.ak.map ba) 0 false)).set (H.length-1,aq c 28683) (.arr 2 (s.ao.map bt.row) 0 false)):=by
 refine aU (bw KC au Try.func52 rfl rfl B4 rfl rfl rfl (by simp) hH ?_);have Ex:aq c 28679≠aq c 28683:=(by unfold aq;omega);have k1:(H.length-1,aq c 28683)≠((H.length-1,aq c 28679):Nm):=fun e=>Ex (Prod.mk.inj e).2.symm;have g2: ∀b,(H.set (H.length-1,aq c 28679) b).get (H.length-1,aq c 28683)=none:=fun b=>(ae.a9 b k1).trans hf2;have m1:aq 6 7=28679:=(by decide);have m2:aq 10 7=28683:=(by decide);have C1:=fun(F:Fr) (hf:F.get 28679=none)=>po (c:=6) (H:=F::H) s.ak h.p0 h.pl (by simp) (by simp [m1,hf]);have C2:=fun(F:Fr) (hf:F.get 28683=none)=>nE (c:=10) (H:=F::H) s.ao h.h0 h.hl (by simp) (by simp [m2,hf]);have C3:=fun(H:ae)=>wb (c:=14) (H:=H);simp [m1,m2]at C1 C2;unfold aH;simp [ht0,C1,C2,C3,eW,refs,ij,fy,ez,js,ju,dedup,eJ,dg,BJ,hf1,g2,Ew,qh,jD,OW]
def T7 (r:aI)(s:az):Prop:= ∀i,i<r.aa.length→s.aa.getD i aJ=⟨(r.aa.getD i cX).home,(r.aa.getD i cX).want⟩
def Rb (s:az):Prop:=s.ao=s.ao.map fun _=>empty
noncomputable def qi:aI→az→Bool:=o8 fun r s=>decide (s.ao=s.ao.map fun _=>empty) && decide (∀i,i<r.aa.length→s.aa.getD i aJ=⟨(r.aa.getD i cX).home,(r.aa.getD i cX).want⟩)
theorem Cq (r:aI)(s:az):qi r s=(decide (s.ao=s.ao.map fun _=>empty) && decide (∀i,i<r.aa.length→s.aa.getD i aJ=⟨(r.aa.getD i cX).home,(r.aa.getD i cX).want⟩)):=by rw [qi,bR]
theorem Ar (r:aI)(s:az)(hn:s.ao.length≤1000000)(Q:GX→bE→Prop): ∀k i:Nat,i+k=s.ao.length→
  ((∀j,i≤j→j<s.ao.length→s.ao.getD j bB=empty)→Q (.exit 0) ⟨[(1, .aA (H.length,1) 0),(2,aG)],[(1,bx r s)]::H,41⟩)→
  (¬(∀j,i≤j→j<s.ao.length→s.ao.getD j bB=empty)→Q .ret ⟨[(1, .aA (H.length,1) 0),(2, .pure (.bool false))],[(1,bx r s)]::H,41⟩)→
  jf KC au 74 (lp Try.f74 0) [1,9,10,11] [1,2] Q [(1, .aA (H.length,1) 0),(9, .pure (.slice (s.ao.map bt.row))),(10, .pure (.int .i64 s.ao.length)),(11, .pure (.int .i64 i))] ([(1,bx r s)]::H) 41:=by
 intro k
 induction k with
 |zero=>
  intro i hi h1 h2;apply aw;conv=>arg 4;whnf
  have: ¬i<s.ao.length:=(by omega);simp [this,bx];simpa [bx]using h1 (fun j a b=>by omega)
 |succ k ih=>
  intro i hi h1 h2;have hia:i<s.ao.length:=(by omega);have hw:=dM (x:=(i:Int)+1) (by omega) (by omega);have hg:=aX (d:=bB) hia;apply aw;conv=>arg 4;whnf
  by_cases e1:s.ao[i].l= -1
  ·by_cases e2:s.ao[i].r= -1
   ·have he:s.ao.getD i bB=empty:=(by rw [hg];cases hh:s.ao[i];rw [hh]at e1 e2;simp only at e1 e2;rw [e1,e2];rfl);have ih':=ih (i+1) (by omega) (fun h=>h1 fun j a b=>by
     by_cases e:j=i
     ·rw [e];exact he
     ·exact h j (by omega) b) (fun h=>h2 fun h'=>h fun j a b=>h' j (by omega) b)
    simp [hia,bt.row,hw,bx,e1,e2];simpa [bt.row,bx]using ih'
   ·have e2':(s.ao[i].r== -1)=false:=(by simpa using e2);simp [hia,bt.row,bx,e1,e2'];simpa [bx]using h2 fun h'=>by
     have:=h' i (Nat.le_refl _) hia;rw [hg]at this;rw [this]at e2;exact e2 rfl
  ·have e1':(s.ao[i].l== -1)=false:=(by simpa using e1);simp [hia,bt.row,bx,e1'];simpa [bx]using h2 fun h'=>by
    have:=h' i (Nat.le_refl _) hia;rw [hg]at this;rw [this]at e1;exact e1 rfl
theorem As (r:aI)(s:az)(hn:r.aa.length≤1000000)(hst:s.aa.length=r.aa.length)(Q:GX→bE→Prop): ∀k i:Nat,i+k=r.aa.length→
  ((∀j,i≤j→j<r.aa.length→s.aa.getD j aJ=⟨(r.aa.getD j cX).home,(r.aa.getD j cX).want⟩)→Q (.exit 2) ⟨[(2,aG)],[(1,bx r s)]::H,41⟩)→
  (¬(∀j,i≤j→j<r.aa.length→s.aa.getD j aJ=⟨(r.aa.getD j cX).home,(r.aa.getD j cX).want⟩)→Q .ret ⟨[(2, .pure (.bool false))],[(1,bx r s)]::H,41⟩)→
  jf KC au 74 (lp Try.f74 1) [1,21,22,23] [2] Q [(1, .aA (H.length,1) 0),(21, .pure (.slice (r.aa.map bU.row))),(22, .pure (.int .i64 r.aa.length)),(23, .pure (.int .i64 i))] ([(1,bx r s)]::H) 41:=by
 intro k
 induction k with
 |zero=>
  intro i hi h1 h2;apply aw;conv=>arg 4;whnf
  have: ¬i<r.aa.length:=(by omega);simp [this,bx];simpa [bx]using h1 (fun j a b=>by omega)
 |succ k ih=>
  intro i hi h1 h2;have hia:i<r.aa.length:=(by omega);have his:i<s.aa.length:=(by omega);have hw:=dM (x:=(i:Int)+1) (by omega) (by omega);have hg:=aX (d:=cX) hia;have hg2:=aX (d:=aJ) his;apply aw;conv=>arg 4;whnf
  by_cases e1:s.aa[i].cell=r.aa[i].home
  ·by_cases e2:s.aa[i].state=r.aa[i].want
   ·have he:s.aa.getD i aJ=⟨(r.aa.getD i cX).home,(r.aa.getD i cX).want⟩:=(by rw [hg,hg2,←e1,←e2]);have ih':=ih (i+1) (by omega) (fun h=>h1 fun j a b=>by
     by_cases e:j=i
     ·rw [e];exact he
     ·exact h j (by omega) b) (fun h=>h2 fun h'=>h fun j a b=>h' j (by omega) b)
    simp [hia,his,bU.row,cg.row,hw,bx,e1,e2];simpa [bU.row,cg.row,bx]using ih'
   ·have e2':(s.aa[i].state==r.aa[i].want)=false:=(by simpa using e2);simp [hia,his,bU.row,cg.row,bx,e1,e2'];simpa [bx]using h2 fun h'=>by
     have:=h' i (Nat.le_refl _) hia;rw [hg,hg2]at this;rw [this]at e2;exact e2 rfl
  ·have e1':(s.aa[i].cell==r.aa[i].home)=false:=(by simpa using e1);simp [hia,his,bU.row,cg.row,bx,e1'];simpa [bx]using h2 fun h'=>by
    have:=h' i (Nat.le_refl _) hia;rw [hg,hg2]at this;rw [this]at e1;exact e1 rfl
theorem rj (r:aI)(s:az)(hn:r.aa.length≤1000000)(hn2:s.ao.length≤1000000)(hst:s.aa.length=r.aa.length)(hH:0<H.length):
  aK KC (aE KC) 74 [.pure (.agg (aH r s))] c H=some (.pure (.bool (qi r s)),H):=by
 refine ey rfl rfl rfl rfl rfl hH fun H hH=> ?_;refine aU (aM KC au Try.func74 rfl rfl Lh (by simp) hH ?_);have hd:=Cq r s;have eh:(∀j,0≤j→j<s.ao.length→s.ao.getD j bB=empty)↔Rb s:=by
  unfold Rb;constructor
  ·intro h;refine List.ext_getElem (by simp) fun j h1 h2=> ?_;have:=h j (Nat.zero_le _) h1;rw [aX h1]at this;simp [this]
  ·intro h j _ hj;rw [aX hj];have:s.ao[j]'hj=(s.ao.map fun _=>empty)[j]'(by simpa using hj):=(by congr 1);rw [this];simp
 have et:(∀j,0≤j→j<r.aa.length→s.aa.getD j aJ=⟨(r.aa.getD j cX).home,(r.aa.getD j cX).want⟩)↔T7 r s:=⟨fun h i hi=>h i (Nat.zero_le _) hi,fun h i _ hi=>h i hi⟩;have L1:=fun Q=>Ar (H:=H) r s hn2 Q s.ao.length 0 (by omega);rw [eh]at L1;have L2:=fun Q=>As (H:=H) r s hn hst Q r.aa.length 0 (by omega);rw [et]at L2;unfold aH;simp;simp [bx]at L1 L2;refine L1 _ (fun h=> ?_) (fun h=> ?_)
 ·simp;refine L2 _ (fun h2=> ?_) (fun h2=> ?_)
  ·have:qi r s=true:=(by rw [hd,decide_eq_true (p:=s.ao=s.ao.map fun _=>empty) h,Bool.true_and];exact decide_eq_true (p:= ∀i,i<r.aa.length→s.aa.getD i aJ=⟨(r.aa.getD i cX).home,(r.aa.getD i cX).want⟩) h2);simp [ah,this]
  ·have:qi r s=false:=by
    rw [hd,Bool.and_eq_false_iff];right;exact decide_eq_false (p:= ∀i,i<r.aa.length→s.aa.getD i aJ=⟨(r.aa.getD i cX).home,(r.aa.getD i cX).want⟩) h2
   simp [ah,this]
 ·have:qi r s=false:=by
   rw [hd,Bool.and_eq_false_iff];left;exact decide_eq_false (p:=s.ao=s.ao.map fun _=>empty) h
  simp [ah,this]
end
section
variable {c:Nat} {H:ae}
theorem Rc {l key es bytes qg es2:Nat}{rows rows2:List (List PV)}{r:List PV}{X f0:Fr}(hl:H.length=l)(hne:key≠qg)(hf:X.get key=none)(hb:(rows.length+1)*bytes≤1099511627776):
  Eb l key (jL (l,key) es rows) es bytes [r] (f0::kN qg es2 rows2 (kN key es rows X)::H)=some (jL (l,key) es (rows++[r]),f0::kN qg es2 rows2 (kN key es (rows++[r]) X)::H):=by
 subst hl;have g: ∀rows,(kN qg es2 rows2 (kN key es rows X)).get key=(kN key es rows X).get key:=fun rows=>nr hne;have hh: ∀Fx:Fr,ae.get (f0::Fx::H) (H.length,key)=Fx.get key:=fun Fx=>(by simp);rw [za (fun h=>(hh _).trans ((g _).trans (by rw [h,qp,hf]))) (fun h=>(hh _).trans ((g _).trans (iK h))) (by simp;omega) hb];have e:(kN qg es2 rows2 (kN key es rows X)).ins key (.arr es (rows++[r]) 0 false)=kN qg es2 rows2 (kN key es (rows++[r]) X):=by
  rw [Gj hne,uA];congr 1;unfold kN;simp
 simp [e]
def lE:dW:= .box [.pure (.int .i64 0), .pure (.int .i64 0), .aO, .aO, .aO, .aO, .aO, .aO, .aO, .aO]
def x8 (r:aI)(L:Nat)(p:List Int)(h:List bt):Fr:=kN 31 2 (h.map bt.row) (kN 23 1 (p.map ba) [(1,bs r),(2,lE),(3, .box [.pure (.int .i64 r.wide), .pure (.int .i64 r.deep), .pure (.slice (r.ak.map bA.row)), .pure (.slice (r.aa.map bU.row)), .pure (.slice (r.seen.map ba)), .pure (.slice (r.bg.map ba)), .pure (.slice (r.aj.map ai.row)),jL (L,23) 1 (p.map ba),jL (L,31) 2 (h.map bt.row), .aO])])
theorem Au (r:aI)(hpl:r.ak.length≤1000000)(Q:GX→bE→Prop): ∀(k i:Nat) (p:List Int) (h:List bt),i+k=r.ak.length→p.length=i→h.length=i→
  Q (.exit 0) ⟨[(1, .aA (H.length,1) 0),(2, .aA (H.length,2) 0),(3, .aA (H.length,3) 0)],x8 r H.length (p++(r.ak.drop i).map (·.cell)) (h++(r.ak.drop i).map fun _=>empty)::H,56⟩→
  jf KC au 72 (lp Try.f72 0) [1,2,3,11,12,13] [1,2,3] Q [(1, .aA (H.length,1) 0),(2, .aA (H.length,2) 0),(3, .aA (H.length,3) 0),(11, .pure (.slice (r.ak.map bA.row))),(12, .pure (.int .i64 r.ak.length)),(13, .pure (.int .i64 i))] (x8 r H.length p h::H) 56:=by
 intro k
 induction k with
 |zero=>
  intro i p h hi hp hh hq;have e1:r.ak.drop i=[]:=List.drop_of_length_le (by omega);rw [e1]at hq;apply aw;conv=>arg 4;whnf
  have: ¬i<r.ak.length:=(by omega);simp [this,x8];simpa [x8]using hq
 |succ k ih=>
  intro i p h hi hp hh hq;have hia:i<r.ak.length:=(by omega);have hw:=dM (x:=(i:Int)+1) (by omega) (by omega);have e1:r.ak.drop i=r.ak[i]::r.ak.drop (i+1):=List.drop_eq_getElem_cons hia;have ih':=ih (i+1) (p++[r.ak[i].cell]) (h++[empty]) (by omega) (by simp [hp]) (by simp [hh]) (by rw [e1,List.map_cons,List.map_cons]at hq;rw [List.append_assoc,List.append_assoc];exact hq);have b1:(p.length+1)*8≤1099511627776:=(by omega);have b2:(h.length+1)*16≤1099511627776:=(by omega);have K1:=fun(f0 X:Fr) hf=>Rc (H:=H) (l:=H.length) (key:=23) (es:=1) (bytes:=8) (qg:=31) (es2:=2) (rows:=p.map ba) (rows2:=h.map bt.row) (r:=[.int .i64 r.ak[i].cell]) (X:=X) (f0:=f0) rfl (by decide) hf (by simpa using b1);have K2:=fun(f0 X:Fr) hf=>I2 (H:=H) (l:=H.length) (key:=31) (es:=2) (bytes:=16) (rows:=h.map bt.row) (r:=[.int .i64 (-1), .int .i64 (-1)]) (fr:=X) (f0:=f0) rfl hf (by simpa using b2);apply aw;conv=>arg 4;whnf
  simp [x8,ba,bt.row,empty]at ih';simp [hia,bA.row,x8,hw,K1,K2];exact ih'
def x9 (r:aI)(L:Nat)(p:List Int)(h:List bt)(t:List cg):Fr:=kN 51 2 (t.map cg.row) (kN 31 2 (h.map bt.row) (kN 23 1 (p.map ba) [(1,bs r),(2,lE),(3, .box [.pure (.int .i64 r.wide), .pure (.int .i64 r.deep), .pure (.slice (r.ak.map bA.row)), .pure (.slice (r.aa.map bU.row)), .pure (.slice (r.seen.map ba)), .pure (.slice (r.bg.map ba)), .pure (.slice (r.aj.map ai.row)),jL (L,23) 1 (p.map ba),jL (L,31) 2 (h.map bt.row),jL (L,51) 2 (t.map cg.row)])]))
theorem Av (r:aI)(htl:r.aa.length≤1000000)(p:List Int)(h:List bt)(Q:GX→bE→Prop): ∀(k i:Nat) (t:List cg),i+k=r.aa.length→t.length=i→
  Q (.exit 2) ⟨[(2, .aA (H.length,2) 0),(3, .aA (H.length,3) 0)],x9 r H.length p h (t++(r.aa.drop i).map j9)::H,56⟩→
  jf KC au 72 (lp Try.f72 1) [2,3,36,37,38] [2,3] Q [(2, .aA (H.length,2) 0),(3, .aA (H.length,3) 0),(36, .pure (.slice (r.aa.map bU.row))),(37, .pure (.int .i64 r.aa.length)),(38, .pure (.int .i64 i))] (x9 r H.length p h t::H) 56:=by
 intro k
 induction k with
 |zero=>
  intro i t hi ht hq;have e1:r.aa.drop i=[]:=List.drop_of_length_le (by omega);rw [e1]at hq;apply aw;conv=>arg 4;whnf
  have: ¬i<r.aa.length:=(by omega);simp [this,x9];simpa [x9]using hq
 |succ k ih=>
  intro i t hi ht hq;have hia:i<r.aa.length:=(by omega);have hw:=dM (x:=(i:Int)+1) (by omega) (by omega);have e1:r.aa.drop i=r.aa[i]::r.aa.drop (i+1):=List.drop_eq_getElem_cons hia;have ih':=ih (i+1) (t++[j9 r.aa[i]]) (by omega) (by simp [ht]) (by rw [e1,List.map_cons]at hq;rw [List.append_assoc];exact hq);have b2:(t.length+1)*16≤1099511627776:=(by omega);have K2:=fun(f0 X:Fr) hf=>I2 (H:=H) (l:=H.length) (key:=51) (es:=2) (bytes:=16) (rows:=t.map cg.row) (r:=[.int .i64 r.aa[i].cell, .int .i64 r.aa[i].state]) (fr:=X) (f0:=f0) rfl hf (by simpa using b2);apply aw;conv=>arg 4;whnf
  simp [x9,cg.row,j9]at ih';simp [hia,bU.row,x9,hw,K2];exact ih'
theorem oC (r:aI)(hpl:r.ak.length≤1000000)(htl:r.aa.length≤1000000)(hH:0<H.length):
  aK KC (aE KC) 72 [.pure (.agg r.row)] c H=some (.pure (.agg (aH r (aV r))),H):=by
 refine aU (bw KC au Try.func72 rfl rfl Lf rfl rfl rfl (by simp) hH ?_);rw [iP];have L1:=fun Q h=>Au (H:=H) r hpl Q r.ak.length 0 [] [] (by omega) rfl rfl h;simp [x8,uh,qp,bs,lE]at L1;simp;refine L1 _ ?_;clear L1;have L2:=fun p h Q hh=>Av (H:=H) r htl p h Q r.aa.length 0 [] (by omega) rfl hh;simp [x9,uh,qp,bs,lE]at L2;simp;have L3:=L2 (r.ak.map (·.cell)) (r.ak.map fun _=>empty);simp at L3;refine L3 _ ?_;clear L2 L3;simp;obtain⟨a1,h1⟩: ∃a1,r.ak.map (ba ∘ fun x=>x.cell)=a1:=⟨_,rfl⟩;obtain⟨a2,h2⟩: ∃a2,r.ak.map (bt.row ∘ fun _=>empty)=a2:=⟨_,rfl⟩;obtain⟨a3,h3⟩: ∃a3,r.aa.map (cg.row ∘ j9)=a3:=⟨_,rfl⟩;rw [h1,h2,h3];generalize hx:dW.box [.pure (.int .i64 r.wide), .pure (.int .i64 r.deep), .pure (.slice (r.ak.map bA.row)), .pure (.slice (r.aa.map bU.row)), .pure (.slice (r.seen.map ba)), .pure (.slice (r.bg.map ba)), .pure (.slice (r.aj.map ai.row)),jL (H.length,23) 1 a1,jL (H.length,31) 2 a2,jL (H.length,51) 2 a3]=x;obtain⟨y,hy⟩: ∃y,dW.box [.pure (.int .i64 r.wide), .pure (.int .i64 r.deep), .pure (.slice (r.ak.map bA.row)), .pure (.slice (r.aa.map bU.row)), .pure (.slice (r.seen.map ba)), .pure (.slice (r.bg.map ba)), .pure (.slice (r.aj.map ai.row))]=y:=⟨_,rfl⟩;rw [hy];obtain⟨F,hF⟩: ∃F,kN 51 2 a3 (kN 31 2 a2 (kN 23 1 a1 [(1,y),(2,x),(3,x)]))=F:=⟨_,rfl⟩;have g1:a1≠[]→F.get 23=some (.arr 1 a1 0 false):=fun h=>(by rw [←hF,nr (by decide),nr (by decide),iK h]);have g2:a2≠[]→F.get 31=some (.arr 2 a2 0 false):=fun h=>(by rw [←hF,nr (by decide),iK h]);have g3:a3≠[]→F.get 51=some (.arr 2 a3 0 false):=fun h=>(by rw [←hF,iK h]);rw [hF,ah (by simp),nF];have lt:H.length-1<H.length:=(by omega);rw [Aw];have ci: ∀rows:List (List PV),cb (if rows=[]then .aO else .pure (.slice rows))= .pure (.slice rows):=fun rows=>by
  split
  ·rename_i h;subst h;rfl
  ·rfl
 have e:canon (cO ([.pure (.int .i64 r.wide), .pure (.int .i64 r.deep), .pure (.slice (r.ak.map bA.row)), .pure (.slice (r.aa.map bU.row)), .pure (.slice (r.seen.map ba)), .pure (.slice (r.bg.map ba)), .pure (.slice (r.aj.map ai.row)),jL (H.length,23) 1 a1,jL (H.length,31) 2 a2,jL (H.length,51) 2 a3].map (cH (F::H) (H.length-1))))= .pure (.agg (aH r (aV r))):=by
  refine vT ?_;simp only [List.map_cons,List.map_nil,wc,mR rfl lt g1,mR rfl lt g2,mR rfl lt g3,ci];simp [aH,aV,←h1,←h2,←h3,cb]
 rw [e]
end
section
variable {c:Nat} {H:ae}
def ik (tk:List (Int×Int)):List (PV×GV):=tk.map fun x=>(.agg [.int .i64 x.1, .int .i64 x.2], .pure (.bool true))
theorem jO (a b : Int) : ∀ (tk : List (Int × Int)) (i : Nat), b9 (.agg [.int .i64 a, .int .i64 b]) (ik tk) i = some (if (a, b) ∈ tk then some (i + tk.idxOf (a, b), .pure (.bool true)) else none)
  | [], i => by simp [ik, b9]
  | (p, q) :: tk, i => by
    have ih := jO a b tk (i + 1)
    unfold ik at ih ⊢
    rw [List.map_cons]
    unfold b9
    by_cases h : a = p ∧ b = q
    · obtain ⟨rfl, rfl⟩ := h
      simp [kR, gg]
    · have h' : (a == p && b == q) = false := by
        rw [Bool.and_eq_false_iff]
        by_cases e : a = p
        · right; simpa using fun e2 => h ⟨e, e2⟩
        · left; simpa using e
      have hne : ¬ (a, b) = (p, q) := fun e => h ⟨(Prod.mk.inj e).1, (Prod.mk.inj e).2⟩
      have hne' : ¬ (p, q) = (a, b) := fun e => hne e.symm
      simp only [kR, gg, if_true, Bool.and_true, h', ih, List.mem_cons, hne, false_or]
      have hb : ((p, q) == (a, b)) = false := by simpa using hne'
      simp only [List.idxOf_cons, hb, cond_false, Option.some.injEq]
      by_cases hm : (a, b) ∈ tk
      · simp [hm]; omega
      · simp [hm]
def rm (tk:List (Int×Int))(x:Int×Int):List (Int×Int):=if x∈tk then tk else tk++[x]
theorem Cr {tk:List (Int×Int)}{x y:Int×Int}:y∈rm tk x↔y∈tk∨y=x:=by
 unfold rm;split
 ·rename_i h;constructor
  ·exact .inl
  ·rintro(h'|rfl)
   ·exact h'
   ·exact h
 ·simp
def dN (tk l:List (Int×Int)):List (Int×Int):=l.foldl rm tk
theorem tf {y:Int×Int}: ∀{l tk:List (Int×Int)},y∈dN tk l↔y∈tk∨y∈l
 | [],tk=>by simp [dN]
 |x::l,tk=>by
  show y∈dN (rm tk x) l↔_
  rw [tf,Cr];simp only [List.mem_cons];constructor
  ·rintro((h|h)|h)
   ·exact .inl h
   ·exact .inr (.inl h)
   ·exact .inr (.inr h)
  ·rintro(h|h|h)
   ·exact .inl (.inl h)
   ·exact .inl (.inr h)
   ·exact .inr h
theorem Cs {tk:List (Int×Int)}{a b:Int}(h:(a,b)∈tk):(ik tk).set (tk.idxOf (a,b)) (.agg [.int .i64 a, .int .i64 b], .pure (.bool true))=ik tk:=by
 have hl:tk.idxOf (a,b)<tk.length:=List.idxOf_lt_length_iff.2 h;unfold ik;refine List.ext_getElem (by simp) fun j h1 h2=> ?_;rw [List.getElem_set];split
 ·rename_i e;subst e;simp [List.getElem_idxOf]
 ·rfl
theorem Ct {tk:List (Int×Int)}{a b:Int}:ik tk++[(.agg [.int .i64 a, .int .i64 b], .pure (.bool true))]=ik (tk++[(a,b)]):=by simp [ik]
structure MF (F:Fr)(r:aI)(s:az)(tk:List (Int×Int)):Prop where
 g2:F.get 2=some (bx r s)
 g4:F.get 4=some lE
 gm:F.get 18=some (.map (ik tk))
theorem tg {F:Fr}{r:aI}{s:az}{tk:List (Int×Int)}(hF:MF F r s tk)(a:ai)(g:List ai)(n i:Nat)(l:List (Int×Int))(hl:l.length≤1000)(Q:GX→bE→Prop): ∀k j:Nat,j+k=l.length→
  ((∀x∈l.drop j,x∉tk)→Q (.exit 2) ⟨[(2, .aA (H.length,2) 0),(4, .aA (H.length,4) 0),(5,aG),(6,aG),(7, .aA (H.length,7) 0),(8, .map (H.length,18)),(10, .aA (H.length+1,10) 0),(11, .pure (.slice (l.map cP))),(19, .pure (.slice (g.map ai.row))),(20, .pure (.int .i64 n)),(21, .pure (.int .i64 i))],[(10,fD a)]::F::H,65⟩)→
  (¬(∀x∈l.drop j,x∉tk)→Q .ret ⟨[(2, .aA (H.length,2) 0),(4, .aA (H.length,4) 0),(5, .pure (.int .i64 i)),(6, .pure (.int .i64 12)),(7, .aA (H.length,7) 0),(8, .map (H.length,18)),(10, .aA (H.length+1,10) 0),(11, .pure (.slice (l.map cP))),(19, .pure (.slice (g.map ai.row))),(20, .pure (.int .i64 n)),(21, .pure (.int .i64 i))],[(10,fD a)]::F.ins 4 (bx r s)::H,65⟩)→
  jf KC au 88 (lp Try.f88 1) [2,4,7,8,9,10,11,19,20,21,35,36,37] [2,4,5,6,7,8,10,11,19,20,21] Q
   [(2, .aA (H.length,2) 0),(4, .aA (H.length,4) 0),(7, .aA (H.length,7) 0),(8, .map (H.length,18)),(9, .pure (.int .i64 i)),(10, .aA (H.length+1,10) 0),(11, .pure (.slice (l.map cP))),(19, .pure (.slice (g.map ai.row))),(20, .pure (.int .i64 n)),(21, .pure (.int .i64 i)),(35, .pure (.slice (l.map cP))),(36, .pure (.int .i64 l.length)),(37, .pure (.int .i64 j))] ([(10,fD a)]::F::H) 65:=by
 have g2:=hF.g2;have g4:=hF.g4;have gm:=hF.gm;intro k
 induction k with
 |zero=>
  intro j hj h1 h2;apply aw;conv=>arg 4;whnf
  have hnl: ¬j<l.length:=(by omega);have e:l.drop j=[]:=List.drop_of_length_le (by omega);simp [hnl];simpa [fD]using h1 (by rw [e];simp)
 |succ k ih=>
  intro j hj h1 h2;have hja:j<l.length:=(by omega);have hw:=dM (x:=(j:Int)+1) (by omega) (by omega);have ed:l.drop j=l[j]::l.drop (j+1):=List.drop_eq_getElem_cons hja;have ne: ¬H.length=H.length+1:=(by omega);simp only [bx]at g2;simp only [lE]at g4;apply aw;conv=>arg 4;whnf
  by_cases hm:l[j]∈tk
  ·have hm':(l[j].1,l[j].2)∈tk:=hm;have h2':=h2 (fun h=>h l[j] (by rw [ed];exact List.mem_cons_self ..) hm);simp only [bx,fD]at h2';simp [hja,cP,gm,jO,hm',mapOf,ne,g2,g4,aD,fD];exact h2'
  ·have hm': ¬(l[j].1,l[j].2)∈tk:=hm;have ih':=ih (j+1) (by omega) (fun h=>h1 fun x hx=>by
    rw [ed]at hx;rcases List.mem_cons.1 hx with rfl|hx
    ·exact hm
    ·exact h x hx) (fun h=>h2 fun h'=>h fun x hx=>h' x (by rw [ed];exact List.mem_cons_of_mem _ hx))
   simp [hja,cP,gm,jO,hm',mapOf,ne,hw,fD];simpa [cP,fD]using ih'
theorem wg {a:ai}(g:List ai)(n i:Nat)(l:List (Int×Int))(hl:l.length≤1000)(Q:GX→bE→Prop): ∀(k j:Nat) (F:Fr) (tk:List (Int×Int)),j+k=l.length→F.ow→F.get 18=some (.map (ik tk))→
  Q (.exit 4) ⟨[(2, .aA (H.length,2) 0),(4, .aA (H.length,4) 0),(7, .aA (H.length,7) 0),(8, .map (H.length,18)),(10, .aA (H.length+1,10) 0),(19, .pure (.slice (g.map ai.row))),(20, .pure (.int .i64 n)),(21, .pure (.int .i64 i))],[(10,fD a)]::F.ins 18 (.map (ik (dN tk (l.drop j))))::H,65⟩→
  jf KC au 88 (lp Try.f88 2) [2,4,7,8,10,19,20,21,47,48,49] [2,4,7,8,10,19,20,21] Q
   [(2, .aA (H.length,2) 0),(4, .aA (H.length,4) 0),(7, .aA (H.length,7) 0),(8, .map (H.length,18)),(10, .aA (H.length+1,10) 0),(19, .pure (.slice (g.map ai.row))),(20, .pure (.int .i64 n)),(21, .pure (.int .i64 i)),(47, .pure (.slice (l.map cP))),(48, .pure (.int .i64 l.length)),(49, .pure (.int .i64 j))] ([(10,fD a)]::F::H) 65:=by
 intro k
 induction k with
 |zero=>
  intro j F tk hj hs gm h1;apply aw;conv=>arg 4;whnf
  have hnl: ¬j<l.length:=(by omega);have e:l.drop j=[]:=List.drop_of_length_le (by omega);rw [e,show dN tk []=tk from rfl,Fr.ri hs gm]at h1
  simp only [fD]at h1;simp [hnl,fD];exact h1
 |succ k ih=>
  intro j F tk hj hs gm h1;have hja:j<l.length:=(by omega);have hw:=dM (x:=(j:Int)+1) (by omega) (by omega);have ed:l.drop j=l[j]::l.drop (j+1):=List.drop_eq_getElem_cons hja;have ne: ¬H.length=H.length+1:=(by omega);rw [ed,show dN tk (l[j]::l.drop (j+1))=dN (rm tk l[j]) (l.drop (j+1))from rfl]at h1
  have ih':=ih (j+1) (F.ins 18 (.map (ik (rm tk l[j])))) (rm tk l[j]) (by omega) (Fr.fm hs) (Fr.bO ..) (by rw [Fr.jj];exact h1);apply aw;conv=>arg 4;whnf
  by_cases hm:l[j]∈tk
  ·have hm':(l[j].1,l[j].2)∈tk:=hm;have e2:rm tk l[j]=tk:=(by unfold rm;rw [if_pos hm]);rw [e2]at ih';have e3:=Cs hm';simp [hja,cP,gm,jO,hm',ne,hw,fD,P1,iJ,e3];simpa [cP,fD]using ih'
  ·have hm': ¬(l[j].1,l[j].2)∈tk:=hm;have e2:rm tk l[j]=tk++[(l[j].1,l[j].2)]:=(by unfold rm;rw [if_neg hm]);rw [e2]at ih';simp [hja,cP,gm,jO,hm',ne,hw,fD,P1,iJ,Ct];simpa [cP,fD]using ih'
end
end Go.Gh
