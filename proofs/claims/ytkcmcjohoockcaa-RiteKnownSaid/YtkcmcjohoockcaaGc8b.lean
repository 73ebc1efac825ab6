/- Texts joined: the evaluator over ghost values, its soundness, the walks. Spaces struck and names made short by a program, for the size. -/
import Derived.Test.YtkcmcjohoockcaaGc8a
import Derived.Laws.StructEq
namespace Go.Gh
set_option linter.unusedVariables false
set_option linter.unusedSimpArgs false
set_option linter.unnecessarySimpa false
set_option maxRecDepth 100000
set_option maxHeartbeats 8000000
section
section
variable {w w':World} {S S':Nat→Prop} {μ μ':Mu} {H H':ae} {P:Program}
theorem uO {b:Nat}{c:Array Value}{e:TypeId}{fr:Nat×Nat}(h:w.heap[b]? =some (.cells c e fr))(off n:Nat):
  kx w b off ((c.toList.drop off).take n):=by
 intro j v hv;have:c.toList[off+j]? =some v:=by
  rw [List.getElem?_take]at hv;split at hv
  ·rw [List.getElem?_drop]at hv;exact hv
  ·cases hv
 simp only [World.cell?,h];simpa using this
theorem gW {b o:Nat}{f:Nat→Value}{n:Nat}(h: ∀j,j<n→w.cell? ⟨b,o+j,none⟩=some (f j)):kx w b o ((List.range n).map f):=by
 intro j v hv;rw [List.getElem?_map]at hv;by_cases hj:j<n
 ·rw [List.getElem?_range hj]at hv;simp at hv;subst hv;exact h j hj
 ·rw [List.getElem?_eq_none (by simp;omega)]at hv;simp at hv
theorem lN {ℓ:Nat}{f:Nat→Value}{gs:List GV}(h: ∀j,j<gs.length→(f j).oneCell'=true∧ax w S μ ℓ (f j) (gs.getD j aG)):
  bz w S μ ℓ ((List.range gs.length).map f) gs:=
 .mZ _ _ (by simp) fun j hj=>by
  have e:((List.range gs.length).map f).getD j undef=f j:=(by simp [List.getD_eq_getElem?_getD,hj]);rw [e];exact h j hj
theorem gX (a:Addr):(Instr.sureAddr (.pointer (some a))).run P w= .ok a w:=rfl
theorem bz.up {ℓ ℓ':Nat}{vs:List Value}{gs:List GV}(h:bz w S μ ℓ vs gs)(hl:ℓ≤ℓ'):bz w S μ ℓ' vs gs:=
 h.mono (fun _ h=>h) (fun _ _=>rfl) (fun _ _ h=>h) (fun _ _ _ _ h=>h) hl
theorem iX {ℓ:Nat} {t:TypeId} {ag:Bool} {size b o:Nat} {vs:List Value} {gs:List GV} {r:GV} (ha:dC P t=some ag) (hs:aZ P t=some size)
  (hc:kx w b o vs) (hr:bz w S μ ℓ vs gs)
  (h:(if ag then (if size≤gs.length then some (cO (gs.take size))else none)else gs[0]?)=some r):
  ∃u,(Instr.loadAt t (.pointer (some ⟨b,o,none⟩))).run P w= .ok u w∧ax w S μ ℓ u r:=by
 cases ag with
 |true=>
  simp only [if_true]at h;split at h
  ·rename_i hl;simp only [Option.some.injEq]at h;subst h;have hlen:(vs.take size).length=size:=(by rw [List.length_take,hr.length];omega);refine⟨.agg (vs.take size).toArray, ?_,tx (hr.take size)⟩
   have:=sN (P:=P) w (vs:=vs.take size) ha (by rw [hlen];exact hs) (b:=b) (o:=o) (fun j v hv=>hc j v (by
    rw [List.getElem?_take]at hv;split at hv;exact hv;cases hv))
   simpa [Instr.loadAt,gX]using this
  ·cases h
 |false=>
  simp only [Bool.false_eq_true,if_false]at h;obtain⟨v,h1,h2,h3⟩:=hr.get 0 r h;refine⟨v, ?_,h3⟩;have:=mF (P:=P) w (t:=t) (b:=b) (o:=o) (v:=v) ha (by simpa using hc 0 v h1);simpa [Instr.loadAt,gX]using this
theorem pz {ℓ:Nat}{t:TypeId}{a r:GV}{v:Value}(hH:aN w S μ H)(hv:ax w S μ ℓ v a)(h:ig P t H a=some r):
  ∃u,(Instr.loadAt t v).run P w= .ok u w∧ax w S μ ℓ u r:=by
 unfold ig at h;split at h
 ·rename_i ag size ha hs;split at h
  ·
   rename_i nm off
   cases hv with
   |aA _ _ b h1 h2=>
   split at h
   ·rename_i cs hg;obtain⟨b',c,e,k1,k2,k3,k4⟩:=hH.fY _ _ hg _ _ h2;rw [h2]at k1;cases k1;have k5:=(k4.drop off).up h1;refine iX ha hs (vs:=(c.toList.drop off)) (gs:=cs.drop off) (fun j v hv=> ?_) k5 ?_
    ·have:=uO k3 off (c.toList.length);exact this j v (by rw [List.take_of_length_le (by simp)];exact hv)
    ·cases ag with
     |true=>
      simp only [if_true]at h⊢;split at h
      ·rw [if_pos (by simp;omega)];exact h
      ·cases h
     |false=>simpa [List.getElem?_drop]using h
   ·cases h
  ·
   rename_i nm es top i off
   cases hv with
   |bZ _ _ _ _ _ b h1 h2=>
   split at h
   ·rename_i es' elems vf ro hg;split at h
    ·rename_i hc;obtain⟨rfl,hvf,hi,htop⟩:=hc;obtain⟨h0,k1,k2,k3,k4⟩:=hH.fY _ _ hg _ _ h2;obtain⟨g1,g2,g3,g4⟩:=k4 top b h2;obtain⟨_,g5⟩:=g4 hvf;split at h
     ·rename_i row hrow;have hmem:row∈elems:=List.mem_of_getElem? hrow;have hrl:row.length=es':=k1 _ hmem;have hgd:elems.getD i []=row:=by simp [List.getD_eq_getElem?_getD,hrow]
      have hcell: ∀j,j<es'-off→w.cell? ⟨b,i*es'+off+j,none⟩=some ((fun j=>(w.cell? ⟨b,i*es'+off+j,none⟩).getD undef) j)∧
        ((w.cell? ⟨b,i*es'+off+j,none⟩).getD undef).oneCell'=true:=fun j hj=>by
       obtain⟨u,u1,u2,u3⟩:=g5 i (off+j) hi (by omega);show w.cell? ⟨b,i*es'+off+j,none⟩=some ((w.cell? ⟨b,i*es'+off+j,none⟩).getD undef)∧_
       rw [show i*es'+off+j=i*es'+(off+j)by omega,u1];exact⟨rfl,u2⟩
      have hrel:bz w S μ ℓ ((List.range ((row.drop off).map GV.pure).length).map (fun j=>(w.cell? ⟨b,i*es'+off+j,none⟩).getD undef)) ((row.drop off).map .pure):=by
       refine lN fun j hj=> ?_;have hj':j<es'-off:=(by simp at hj;omega);obtain⟨u,u1,u2,u3⟩:=g5 i (off+j) hi (by omega);rw [show i*es'+off+j=i*es'+(off+j)by omega,u1]
       rw [hgd]at u3;have e:((row.drop off).map GV.pure).getD j aG= .pure (row.getD (off+j) .dead):=by
        have hj2:off+j<row.length:=(by omega);simp [List.getD_eq_getElem?_getD,List.getElem?_drop,hj2]
       rw [e];exact⟨u2, .pure _ _ u3⟩
      refine iX ha hs (vs:=(List.range ((row.drop off).map GV.pure).length).map (fun j=>(w.cell? ⟨b,i*es'+off+j,none⟩).getD undef)) (gs:=(row.drop off).map .pure)
       (gW fun j hj=> ?_) hrel ?_
      ·exact(hcell j (by simp at hj;omega)).1
      ·cases ag with
       |true=>
        simp only [if_true]at h⊢;split at h
        ·rw [if_pos (by simp;omega)];simp only [Option.some.injEq]at h;rw [←h,←List.map_take,mg]
        ·cases h
       |false=>
        simp only [Bool.false_eq_true,if_false]at h⊢;rw [List.getElem?_map,List.getElem?_drop,Nat.add_zero];split at h
        ·rename_i p hp;rw [hp];simpa using h
        ·cases h
     ·cases h
    ·cases h
   ·
    rename_i es' rows n hg;split at h
    ·rename_i hc;obtain⟨rfl,rfl,rfl,hi,htop⟩:=hc;have m:cD w S μ nm es' rows n:=hH.fY _ _ hg _ _ h2;have hml:=m.le;obtain⟨g1,g2,g3,g4,g5⟩:=m.top top b (by have:=m.Az;omega) h2;have hlt:i<rows.length:=(by omega);rw [List.getElem?_eq_getElem hlt]at h;simp only [Option.some.injEq]at h;subst h;obtain⟨bi,cp,u1,u2,u3⟩:=g5 i hi;have e:rows.getD i []=rows[i]:=(by simp [List.getD_eq_getElem?_getD,hlt]);rw [e]at u1 u3;refine⟨_, ?_, .eT nm es' i _ cp bi h1 u2 u3⟩;have:=mF (P:=P) w (t:=t) (b:=b) (o:=i*1+0) (v:= .slice (some ⟨bi,0,none⟩) (rows[i]).length cp) ha (by simpa using u1);simpa [Instr.loadAt,gX]using this
    ·cases h
   ·cases h
  ·
   rename_i nm es i j off
   cases hv with
   |fZ _ _ _ _ _ b h1 h2=>
   split at h
   ·rename_i es' rows n hg;split at h
    ·rename_i hc;subst hc;have m:cD w S μ nm es' rows n:=hH.fY _ _ hg _ _ h2;split at h
     ·rename_i r hr;have hlt:i<rows.length:=m.je _ _ h2;have er:rows.getD i []=r:=(by simp [List.getD_eq_getElem?_getD,hr]);obtain⟨b',q1,⟨q2,q3,q4⟩⟩:=m.row i hlt;rw [h2]at q1;cases q1;rw [er]at q4;split at h
      ·rename_i row hrow;have hmem:row∈r:=List.mem_of_getElem? hrow;have hrl:row.length=es':=m.wid _ (List.mem_of_getElem? hr) _ hmem;have hj:j<r.length:=(List.getElem?_eq_some_iff.1 hrow).1;have hgd:r.getD j []=row:=by simp [List.getD_eq_getElem?_getD,hrow]
       have hcell: ∀q,q<es'-off→w.cell? ⟨b,j*es'+off+q,none⟩=some ((fun q=>(w.cell? ⟨b,j*es'+off+q,none⟩).getD undef) q)∧
         ((w.cell? ⟨b,j*es'+off+q,none⟩).getD undef).oneCell'=true:=fun q hq=>by
        obtain⟨u,u1,u2,u3⟩:=q4 j (off+q) hj (by omega);show w.cell? ⟨b,j*es'+off+q,none⟩=some ((w.cell? ⟨b,j*es'+off+q,none⟩).getD undef)∧_
        rw [show j*es'+off+q=j*es'+(off+q)by omega,u1];exact⟨rfl,u2⟩
       have hrel:bz w S μ ℓ ((List.range ((row.drop off).map GV.pure).length).map (fun q=>(w.cell? ⟨b,j*es'+off+q,none⟩).getD undef)) ((row.drop off).map .pure):=by
        refine lN fun q hq=> ?_;have hq':q<es'-off:=(by simp at hq;omega);obtain⟨u,u1,u2,u3⟩:=q4 j (off+q) hj (by omega);rw [show j*es'+off+q=j*es'+(off+q)by omega,u1]
        rw [hgd]at u3;have e:((row.drop off).map GV.pure).getD q aG= .pure (row.getD (off+q) .dead):=by
         have hq2:off+q<row.length:=(by omega);simp [List.getD_eq_getElem?_getD,List.getElem?_drop,hq2]
        rw [e];exact⟨u2, .pure _ _ u3⟩
       refine iX ha hs (vs:=(List.range ((row.drop off).map GV.pure).length).map (fun q=>(w.cell? ⟨b,j*es'+off+q,none⟩).getD undef)) (gs:=(row.drop off).map .pure)
        (gW fun q hq=> ?_) hrel ?_
       ·exact(hcell q (by simp at hq;omega)).1
       ·cases ag with
        |true=>
         simp only [if_true]at h⊢;split at h
         ·rw [if_pos (by simp;omega)];simp only [Option.some.injEq]at h;rw [←h,←List.map_take,mg]
         ·cases h
        |false=>
         simp only [Bool.false_eq_true,if_false]at h⊢;rw [List.getElem?_map,List.getElem?_drop,Nat.add_zero];split at h
         ·rename_i p hp;rw [hp];simpa using h
         ·cases h
      ·cases h
     ·cases h
    ·cases h
   ·cases h
  ·
   rename_i cs
   cases hv with
   |bF b o _ f hS hf h1 hr=>
   refine iX ha hs (vs:=(List.range (cs.map GV.pure).length).map f) (gs:=cs.map .pure) (gW fun j hj=>hf j (by simpa using hj)) (lN fun j hj=> ?_) ?_
   ·have hj':j<cs.length:=(by simpa using hj);have e:(cs.map GV.pure).getD j aG= .pure (cs.getD j .dead):=(by simp [List.getD_eq_getElem?_getD,hj']);rw [e];exact⟨h1 j hj', .pure _ _ (hr j hj')⟩
   ·cases ag with
    |true=>
     simp only [if_true]at h⊢;split at h
     ·rw [if_pos (by simpa using ‹_›)];simp only [Option.some.injEq]at h;rw [←h,←List.map_take,mg]
     ·cases h
    |false=>
     simp only [Bool.false_eq_true,if_false]at h⊢;rw [List.getElem?_map];split at h
     ·rename_i p hp;rw [hp];simpa using h
     ·cases h
  ·
   rename_i cs
   cases hv with
   |fO b o _ f hS hf h1 hr=>
   exact iX ha hs (vs:=(List.range cs.length).map f) (gs:=cs) (gW fun j hj=>hf j hj) (lN fun j hj=>⟨h1 j hj,hr j hj⟩) h
  ·cases h
 ·cases h
theorem Mu.lO {nm:Nm}{top b:Nat}(h:μ nm top=some b):μ.jF nm top b=μ:=by
 funext n t
 simp only [Mu.jF];split
 ·rename_i e;rw [e.1,e.2,h]
 ·rfl
theorem bz.setRow {ℓ:Nat} {vs:List Value} {gs:List GV} (h:bz w S μ ℓ vs gs) {b:Nat} (hb: ¬S b) {c c':Array Value} {e:TypeId} {fr:Nat×Nat}
  (hg:w.heap[b]? =some (.cells c e fr)) (hs:c'.size=c.size):bz (w.setRow b c') S μ ℓ vs gs:=
 h.mono (fun _ h=>h) (fun k hk=>setRow_other w b k c' fun e=>hb (e▸hk)) (kq w b c c' e fr hg hs) (fun _ _ _ _ h=>h) (Nat.le_refl _)
theorem bI.setRow {v:Value}{p:PV}(h:bI w S v p){b:Nat}(hb: ¬S b)(c':Array Value):bI (w.setRow b c') S v p:=
 h.mono (fun _ h=>h) (fun k hk=>setRow_other w b k c' fun e=>hb (e▸hk))
theorem cG {α:Type}(l xs:List α)(off:Nat)(h:off+xs.length≤l.length):(aD l off xs).length=l.length:=by
 simp [aD];omega
theorem di {α:Type}(l xs:List α)(off j:Nat)(h:off+xs.length≤l.length):
  (aD l off xs)[j]? =if j<off then l[j]? else if j<off+xs.length then xs[j-off]? else l[j]? :=by
 unfold aD;have h1:(l.take off).length=off:=(by simp;omega);split
 ·rename_i hj;rw [List.append_assoc,List.getElem?_append_left (by omega),List.getElem?_take,if_pos hj]
 ·split
  ·rw [List.append_assoc,List.getElem?_append_right (by omega),h1,List.getElem?_append_left (by omega)]
  ·rw [List.append_assoc,List.getElem?_append_right (by omega),h1,List.getElem?_append_right (by omega),List.getElem?_drop];congr 1;omega
theorem uK (ℓ:Nat){k:Nat}{t:TypeId}{a x:GV}{va vx:Value}(hH:aN w S μ H)(ha:ax w S μ k va a)(hx:ax w S μ k vx x)(h:lP P t H a x=some H'):
  ∃w' S' μ',(Instr.storeAt t va vx).run P w= .ok () w'∧aN w' S' μ' H'∧Ev ℓ w S μ w' S' μ'∧H'.length=H.length:=by
 unfold lP at h;split at h
 ·rename_i size hs;split at h
  ·cases h
  ·rename_i cells hcells;split at h
   ·cases h
   ·rename_i hlen;simp only [ne_eq,Decidable.not_not]at hlen;have hc:=dL hx hcells;have hvs:vx.cells.size=size:=(by have:=hc.length;simp at this;omega);split at h
    ·
     rename_i nm off
     cases ha with
     |aA _ _ b h1 h2=>
     obtain⟨S1,a1,a2,a3,a4⟩:=iW ℓ nm.1 hH hc;generalize hlow:cK H nm.1 cells=q at h a1 a3 a4;obtain⟨cs',H1⟩:=q;simp only at h a1 a3 a4;split at h
     ·rename_i cs hg;split at h
      ·rename_i hle;simp only [Option.some.injEq]at h;subst h;obtain⟨b',c,e,k1,k2,k3,k4⟩:=a1.fY _ _ hg _ _ h2;rw [h2]at k1;cases k1;have hcl:c.size=cs.length:=(by simpa using k4.length);have hst:=m0 (P:=P) w (t:=t) (v:=vx) (o:=off) (by rw [hvs];exact hs) k3 (by omega) a3.one;have hsz:(aD c.toList off vx.cells.toList).toArray.size=c.size:=by
        simp;rw [cG];simp;simp;omega
       have:=a1.row ℓ (x:= .box (aD cs off cs')) (ae.cj hg) h2 k2 k3 hsz 0 (by
        rw [Mu.lO h2];refine⟨b,(aD c.toList off vx.cells.toList).toArray,e,h2,k2,setRow_heap w b c _ e _ k3, ?_⟩;simp only [];exact(k4.aD a3 off).setRow k2 k3 hsz) (fun b' hb'=>by rw [h2]at hb';cases hb';rfl)
       rw [Mu.lO h2]at this;refine⟨_,S1,μ, ?_,this.1,a2.trans this.2,by rw [ae.length_set];exact a4.1⟩;simpa [Instr.storeAt,gX]using hst
      ·cases h
     ·cases h
    ·
     rename_i nm es top i off
     cases ha with
     |bZ _ _ _ _ _ b h1 h2=>
     obtain⟨S1,a1,a2,a3,a4⟩:=fH ℓ hH hc;generalize hlow:bp H cells=q at h a1 a3 a4;obtain⟨ps,H1⟩:=q;simp only at h a1 a3 a4;split at h
     ·rename_i es' elems vf ro hg;split at h
      ·rename_i hcond;obtain⟨rfl,rfl,rfl,hi⟩:=hcond;split at h
       ·rename_i row hrow;split at h
        ·rename_i hle;simp only [Option.some.injEq]at h;subst h;obtain⟨h0,k1,k2,k3,k4⟩:=a1.fY _ _ hg _ _ h2;obtain⟨g1,⟨c,e,g2⟩,g3,g4⟩:=k4 _ b h2;have hnS:=g3 rfl;obtain⟨_,g5⟩:=g4 k2;have hrl:row.length=es':=k1 _ (List.mem_of_getElem? hrow);have hpl:ps.length=size:=(by have:=a3.length;simp at this;omega);have hcsize:(i+1)*es'≤c.size:=by
          obtain⟨u,u1,_⟩:=g5 i (es'-1) hi (by omega);simp only [World.cell?,g2]at u1;have:=(Array.getElem?_eq_some_iff.1 u1).1;rw [Nat.add_mul];omega
         have hbnd:i*es'+off+vx.cells.toList.length≤c.toList.length:=by
          have:(i+1)*es'=i*es'+es':=(by rw [Nat.add_mul];omega);simp;omega
         have hst:=m0 (P:=P) w (t:=t) (v:=vx) (o:=i*es'+off) (by rw [hvs];exact hs) g2 (by simpa using hbnd) a3.one;have hsz:(aD c.toList (i*es'+off) vx.cells.toList).toArray.size=c.size:=by
          simp only [List.size_toArray];rw [cG _ _ _ hbnd];simp
         obtain⟨p1,p2⟩:=bz.mG _ _ a3
         have:=a1.row ℓ (x:= .arr es' (elems.set i (aD row off ps)) elems.length false) (ae.cj hg) h2 hnS g2 hsz elems.length (by
          rw [Mu.lO h2];refine⟨h0,fun r hr=> ?_,by simp,⟨b,by simpa using h2⟩,fun t' b' hb'=> ?_⟩
          ·rcases List.mem_or_eq_of_mem_set hr with hr|rfl
           ·exact k1 r hr
           ·rw [cG _ _ _ (by omega)];exact hrl
          ·obtain⟨q1,⟨c2,e2,q2⟩,q3,q4⟩:=k4 t' b' hb';refine⟨by simpa using q1, ?_,fun _=>q3 rfl,fun hv=>⟨fun hro=>(by cases hro),fun i' j hi' hj=> ?_⟩⟩
           ·by_cases e':b'=b
            ·subst e';exact⟨_,e,setRow_heap w b' c _ e _ g2⟩
            ·exact⟨c2,e2,by rw [setRow_other w b b' _ e'];exact q2⟩
           ·obtain rfl:t'=elems.length:=(by omega);rw [h2]at hb';cases hb'
            have hcell:(w.setRow b (aD c.toList (i*es'+off) vx.cells.toList).toArray).cell? ⟨b,i'*es'+j,none⟩=
              (aD c.toList (i*es'+off) vx.cells.toList)[i'*es'+j]? :=by
             rw [cell_setRow_same w b _ c _ e (0,0) g2];simp
            rw [hcell,di _ _ _ _ hbnd];obtain⟨u,u1,u2,u3⟩:=g5 i' j hi' hj;have u1':c.toList[i'*es'+j]? =some u:=(by simpa [World.cell?,g2]using u1);by_cases ei:i'=i
            ·subst ei;have egd:(elems.set i' (aD row off ps)).getD i' []=aD row off ps:=by
              simp [List.getD_eq_getElem?_getD,List.getElem?_set,hi']
             rw [egd,List.getD_eq_getElem?_getD,di _ _ _ _ (by omega)];have egd2:elems.getD i' []=row:=(by simp [List.getD_eq_getElem?_getD,hrow]);rw [egd2,List.getD_eq_getElem?_getD]at u3;by_cases c1:j<off
             ·rw [if_pos (by omega),if_pos c1];exact⟨u,u1',u2,u3.setRow hnS _⟩
             ·by_cases c2:j<off+ps.length
              ·have hlen3:vx.cells.toList.length=ps.length:=p1;rw [if_neg (by omega),if_pos (by omega),if_neg c1,if_pos c2];obtain⟨z1,z2⟩:=p2 (j-off) (by omega);have e5:i'*es'+j-(i'*es'+off)=j-off:=(by omega);rw [e5];have hlt:j-off<vx.cells.toList.length:=(by omega);rw [List.getD_eq_getElem?_getD,List.getElem?_eq_getElem hlt]at z1 z2;refine⟨_,List.getElem?_eq_getElem hlt,z1, ?_⟩;simp only [Option.getD_some]at z2;rw [←List.getD_eq_getElem?_getD];exact z2.setRow hnS _
              ·have hlen3:vx.cells.toList.length=ps.length:=p1;rw [if_neg (by omega),if_neg (by omega),if_neg c1,if_neg c2];exact⟨u,u1',u2,u3.setRow hnS _⟩
            ·have egd:(elems.set i (aD row off ps)).getD i' []=elems.getD i' []:=by
              simp [List.getD_eq_getElem?_getD,List.getElem?_set,Ne.symm ei]
             rw [egd];have hout: ¬(i*es'+off≤i'*es'+j∧i'*es'+j<i*es'+off+vx.cells.toList.length):=by
              have hlen3:vx.cells.toList.length=ps.length:=p1;rintro⟨o1,o2⟩;rcases Nat.lt_or_gt_of_ne ei with hlt|hgt
              ·have:(i'+1)*es'≤i*es':=Nat.mul_le_mul_right _ hlt;rw [Nat.add_mul]at this;omega
              ·have:(i+1)*es'≤i'*es':=Nat.mul_le_mul_right _ hgt;rw [Nat.add_mul]at this;omega
             by_cases c1:i'*es'+j<i*es'+off
             ·rw [if_pos c1];exact⟨u,u1',u2,u3.setRow hnS _⟩
             ·rw [if_neg c1,if_neg (by omega)];exact⟨u,u1',u2,u3.setRow hnS _⟩) (fun b' hb'=>by rw [h2]at hb';cases hb';rfl)
         rw [Mu.lO h2]at this;refine⟨_,S1,μ, ?_,this.1,a2.trans this.2,by rw [ae.length_set];exact a4.1⟩;simpa [Instr.storeAt,gX]using hst
        ·cases h
       ·cases h
      ·cases h
     ·cases h
    ·
     rename_i nm es i j off
     cases ha with
     |fZ _ _ _ _ _ b h1 h2=>
     obtain⟨S1,a1,a2,a3,a4⟩:=fH ℓ hH hc;generalize hlow:bp H cells=q at h a1 a3 a4;obtain⟨ps,H1⟩:=q;simp only at h a1 a3 a4;split at h
     ·rename_i es' rows n hg;split at h
      ·rename_i hcond;subst hcond;split at h
       ·rename_i r hr;split at h
        ·rename_i row hrow;split at h
         ·rename_i hle;simp only [Option.some.injEq]at h;subst h;have m:cD w S1 μ nm es' rows n:=a1.fY _ _ hg _ _ h2;have hlt:i<rows.length:=m.je _ _ h2;have er:rows.getD i []=r:=(by simp [List.getD_eq_getElem?_getD,hr]);obtain⟨b',q1,⟨⟨c,e,q2⟩,q3,q4⟩⟩:=m.row i hlt;rw [h2]at q1;cases q1;rw [er]at q4;have h0:=m.pos;have hrl:row.length=es':=m.wid _ (List.mem_of_getElem? hr) _ (List.mem_of_getElem? hrow);have hj:j<r.length:=(List.getElem?_eq_some_iff.1 hrow).1;have hgd:r.getD j []=row:=(by simp [List.getD_eq_getElem?_getD,hrow]);have hpl:ps.length=size:=(by have:=a3.length;simp at this;omega);have hcsize:(j+1)*es'≤c.size:=by
           obtain⟨u,u1,_⟩:=q4 j (es'-1) hj (by omega);simp only [World.cell?,q2]at u1;have:=(Array.getElem?_eq_some_iff.1 u1).1;rw [Nat.add_mul];omega
          have hbnd:j*es'+off+vx.cells.toList.length≤c.toList.length:=by
           have:(j+1)*es'=j*es'+es':=(by rw [Nat.add_mul];omega);simp;omega
          have hst:=m0 (P:=P) w (t:=t) (v:=vx) (o:=j*es'+off) (by rw [hvs];exact hs) q2 (by simpa using hbnd) a3.one;have hsz:(aD c.toList (j*es'+off) vx.cells.toList).toArray.size=c.size:=by
           simp only [List.size_toArray];rw [cG _ _ _ hbnd];simp
          obtain⟨p1,p2⟩:=bz.mG _ _ a3;have hlen3:vx.cells.toList.length=ps.length:=p1;have hro: ∀k,(rows.set i (r.set j (aD row off ps))).getD k []=if k=i then r.set j (aD row off ps)else rows.getD k []:=fun k=>by
           by_cases e:k=i
           ·subst e;simp [List.getD_eq_getElem?_getD,List.getElem?_set,hlt]
           ·simp [List.getD_eq_getElem?_getD,List.getElem?_set,Ne.symm e,e]
          have hle2: ∀k,((rows.set i (r.set j (aD row off ps))).getD k []).length=(rows.getD k []).length:=fun k=>by
           rw [hro];split
           ·rename_i e;subst e;rw [er];simp
           ·rfl
          have vy: ∀b',b'≠b→(w.setRow b (aD c.toList (j*es'+off) vx.cells.toList).toArray).heap[b']? =w.heap[b']? :=fun b' hb'=>setRow_other w b b' _ hb'
          have:=a1.row ℓ (x:= .nj es' (rows.set i (r.set j (aD row off ps))) n) (ae.cj hg) h2 q3 q2 hsz (mb i) (by
           rw [Mu.lO h2];refine⟨m.pos,by simpa using m.le,m.Az,fun x hx y hy=> ?_,fun k hk=> ?_,m.inj,fun k b' hb'=>by simpa using m.je k b' hb',fun t' b' ht' hb'=> ?_⟩
           ·rcases List.mem_or_eq_of_mem_set hx with hx|rfl
            ·exact m.wid x hx y hy
            ·rcases List.mem_or_eq_of_mem_set hy with hy|rfl
             ·exact m.wid r (List.mem_of_getElem? hr) y hy
             ·rw [cG _ _ _ (by omega)];exact hrl
           ·have hk':k<rows.length:=(by simpa using hk);obtain⟨bk,z1,z2⟩:=m.row k hk';refine⟨bk,z1, ?_⟩;by_cases ek:k=i
            ·subst ek;rw [h2]at z1;cases z1;refine⟨⟨_,e,setRow_heap w b c _ e _ q2⟩,q3,fun i' j' hi' hj'=> ?_⟩;rw [hro,if_pos rfl]at hi'⊢;have hi2:i'<r.length:=by simpa using hi'
             have hcell:(w.setRow b (aD c.toList (j*es'+off) vx.cells.toList).toArray).cell? ⟨b,i'*es'+j',none⟩=
               (aD c.toList (j*es'+off) vx.cells.toList)[i'*es'+j']? :=by
              rw [cell_setRow_same w b _ c _ e (0,0) q2];simp
             rw [hcell,di _ _ _ _ hbnd];obtain⟨u,u1,u2,u3⟩:=q4 i' j' hi2 hj';have u1':c.toList[i'*es'+j']? =some u:=(by simpa [World.cell?,q2]using u1);by_cases ei:i'=j
             ·subst ei;have egd:(r.set i' (aD row off ps)).getD i' []=aD row off ps:=by
               simp [List.getD_eq_getElem?_getD,List.getElem?_set,hi2]
              rw [egd,List.getD_eq_getElem?_getD,di _ _ _ _ (by omega)];rw [hgd,List.getD_eq_getElem?_getD]at u3;by_cases c1:j'<off
              ·rw [if_pos (by omega),if_pos c1];exact⟨u,u1',u2,u3.setRow q3 _⟩
              ·by_cases c2:j'<off+ps.length
               ·rw [if_neg (by omega),if_pos (by omega),if_neg c1,if_pos c2];obtain⟨y1,y2⟩:=p2 (j'-off) (by omega);have e5:i'*es'+j'-(i'*es'+off)=j'-off:=(by omega);rw [e5];have hlt2:j'-off<vx.cells.toList.length:=(by omega);rw [List.getD_eq_getElem?_getD,List.getElem?_eq_getElem hlt2]at y1 y2;refine⟨_,List.getElem?_eq_getElem hlt2,y1, ?_⟩;simp only [Option.getD_some]at y2;rw [←List.getD_eq_getElem?_getD];exact y2.setRow q3 _
               ·rw [if_neg (by omega),if_neg (by omega),if_neg c1,if_neg c2];exact⟨u,u1',u2,u3.setRow q3 _⟩
             ·have egd:(r.set j (aD row off ps)).getD i' []=r.getD i' []:=by
               simp [List.getD_eq_getElem?_getD,List.getElem?_set,Ne.symm ei]
              rw [egd];have hout: ¬(j*es'+off≤i'*es'+j'∧i'*es'+j'<j*es'+off+vx.cells.toList.length):=by
               rintro⟨o1,o2⟩;rcases Nat.lt_or_gt_of_ne ei with hl|hg
               ·have:(i'+1)*es'≤j*es':=Nat.mul_le_mul_right _ hl;rw [Nat.add_mul]at this;omega
               ·have:(j+1)*es'≤i'*es':=Nat.mul_le_mul_right _ hg;rw [Nat.add_mul]at this;omega
              by_cases c1:i'*es'+j'<j*es'+off
              ·rw [if_pos c1];exact⟨u,u1',u2,u3.setRow q3 _⟩
              ·rw [if_neg c1,if_neg (by omega)];exact⟨u,u1',u2,u3.setRow q3 _⟩
            ·have hne:bk≠b:=fun e=>ek (m.inj _ _ _ (e▸z1) h2);rw [hro,if_neg ek];exact z2.mono (fun _ h=>h) (fun k hk=>vy k fun e=>q3 (e▸hk)) (vy _ hne) (fun h=>h)
           ·obtain⟨g1,⟨c2,e2,g2⟩,g3,g4,g5⟩:=m.top t' b' ht' hb';have hne:b'≠b:=fun e=>g4 i (e▸h2);refine⟨g1,⟨c2,e2,by rw [vy _ hne];exact g2⟩,g3,g4,fun k hk=> ?_⟩;obtain⟨bi,cp,k1,k2,k3⟩:=g5 k hk;rw [hle2 k];exact⟨bi,cp,by rw [cQ (vy _ hne)];exact k1,k2,k3⟩) (fun b' hb'=>by rw [h2]at hb';cases hb';rfl)
          rw [Mu.lO h2]at this;refine⟨_,S1,μ, ?_,this.1,a2.trans this.2,by rw [ae.length_set];exact a4.1⟩;simpa [Instr.storeAt,gX]using hst
         ·cases h
        ·cases h
       ·cases h
      ·cases h
     ·cases h
    ·cases h
 ·cases h
end
end
section
def jE (ℓ:Nat)(w:World)(S:Nat→Prop)(μ:Mu)(H:ae)(r:Result Next)(v:GV)(H':ae):Prop:=
 ∃nx u w' S' μ',r= .ok nx w'∧(nx= .value u∨(nx= .skip∧u=undef))∧ax w' S' μ' (H'.length-1) u v∧aN w' S' μ' H'∧Ev ℓ w S μ w' S' μ'∧H'.length=H.length
section
variable {w:World} {S:Nat→Prop} {μ:Mu} {H:ae} {P:Program} {ℓ:Nat}
theorem jE.same {u:Value}{v:GV}(hH:aN w S μ H)(hv:ax w S μ (H.length-1) u v):jE ℓ w S μ H (.ok (.value u) w) v H:=
 ⟨_,u,w,S,μ,rfl, .inl rfl,hv,hH, .refl _ _ _ _,rfl⟩
theorem jE.of {u:Value}{v:GV}{r:Result Next}(hH:aN w S μ H)(hv:ax w S μ (H.length-1) u v)(hr:r= .ok (.value u) w):jE ℓ w S μ H r v H:=by
 subst hr;exact .same hH hv
theorem ax.jP {k:Nat}{v:Value}{b:Bool}(h:ax w S μ k v (.pure (.bool b))):v= .bool b:=by
 have:=h.pv;cases this;rfl
theorem ax.eO {k:Nat}{v:Value}{q:IntKind}{n:Int}(h:ax w S μ k v (.pure (.int q n))):v= .int q n:=by
 have:=h.pv;cases this;rfl
theorem ax.kh {k:Nat}{v:Value}{l:List UInt8}(h:ax w S μ k v (.pure (.str l))): ∃s:ByteArray,v= .string s∧s.data.toList=l:=by
 have:=h.pv;cases this;exact⟨_,rfl,rfl⟩
theorem ax.nG {k:Nat}{v:Value}{l:List PV}(h:ax w S μ k v (.pure (.agg l))): ∃vs:Array Value,v= .agg vs∧bz w S μ k vs.toList (l.map .pure):=by
 have:=h.pv
 cases this with
 |agg vs _ h1 h2 h3=>
  exact⟨vs,rfl, .wE _ _ (by simpa using h1) fun j hj=>by
   have a:=h2 j hj;have b:=h3 j hj;rw [dP]at a b;exact⟨a,b⟩⟩
theorem zr {nm:Nm}(hH:aN w S μ H)(hg:H.get nm=none)(top b:Nat): ∀n t b',μ n t=some b'→μ.jF nm top b n t=some b':=by
 intro n t b' h;by_cases e:n=nm
 ·subst e;obtain⟨y,hy⟩:=hH.je _ _ _ h;rw [hg]at hy;cases hy
 ·rw [Mu.cB μ _ _ _ e];exact h
theorem bz.T8 {k:Nat}{vs:List Value}{gs:List GV}{nm:Nm}(h:bz w S μ k vs gs)(hH:aN w S μ H)(hg:H.get nm=none)(o:Obj)(top:Nat):
  bz (w.alloc o) S (μ.jF nm top w.heap.size) k vs gs:=
 h.mono (fun _ h=>h) (fun b hb=>bC w o b (hH.slt b hb)) (eE w o) (fun n t b _ h=>zr hH hg _ _ n t b h) (Nat.le_refl _)
theorem gT {l key:Nat}{b:dW}{nm:Nm}{H':ae}(h:hQ H l key b=some (nm,H')):nm=(l,key)∧l<H.length∧H.get nm=none∧H'=H.set nm b:=by
 unfold hQ at h;split at h
 ·cases h
 ·split at h
  ·cases h
  ·rename_i h1 _ h2;simp only [Option.some.injEq,Prod.mk.injEq]at h;obtain⟨rfl,rfl⟩:=h;exact⟨rfl,by omega,h2,rfl⟩
theorem zt {k d:Nat} {vs:Array Value} {cs:List GV} {t:TypeId} {nm:Nm} {H':ae} (hH:aN w S μ H) (hc:bz w S μ k vs.toList cs) (hk:k≤H.length-1)
  (h:fK H d (.box cs)=some (nm,H')):
  jE ℓ w S μ H (.ok (.value (.pointer (some ⟨w.heap.size,0,none⟩))) (w.alloc (.cells vs t))) (.aA nm 0) H':=by
 obtain⟨rfl,hl,hg,rfl⟩:=gT h
 obtain⟨h1,h2⟩:=hH.new ℓ hg hl (.cells vs t) 0 (.box cs) (by
  refine⟨w.heap.size,vs,t,Mu.bc _ _ _ _,fun h=> ?_,cu w _, ?_⟩
  ·have:=hH.slt _ h;omega
  ·exact(hc.T8 hH hg _ 0).up hk)
 exact⟨_,_,_,S,_,rfl, .inl rfl, .aA _ _ _ (by simp [ae.length_set]) (Mu.bc _ _ _ _),h1,h2,ae.length_set _ _ _⟩
theorem wv {d:Nat} {t:TypeId} {z:GV} {cs:List GV} {nm:Nm} {H':ae} (hH:aN w S μ H) (hz:b8 P t=some z) (hc:bm z=some cs)
  (h:fK H d (.box cs)=some (nm,H')):
  jE ℓ w S μ H ((do pure (Next.value (←Instr.alloc t true (.tuple #[]))):Sem Next).run P w) (.aA nm 0) H':=by
 obtain⟨v,h1,rfl⟩:=lG (P:=P) w hz;have hc':=dL (dF (w:=w) (S:=S) (μ:=μ) (ℓ:=H.length-1) v) hc;have:=zt (ℓ:=ℓ) (t:=t) hH hc' (Nat.le_refl _) h;simpa [Instr.alloc,h1,newVar,newRow]using this
theorem AE {d:Nat} {t:TypeId} {v:Value} {x:GV} {cs:List GV} {nm:Nm} {H':ae} (hH:aN w S μ H) (hx:ax w S μ (H.length-1) v x) (hc:bm x=some cs)
  (h:fK H d (.box cs)=some (nm,H')):
  jE ℓ w S μ H ((do pure (Next.value (←Instr.box t v)):Sem Next).run P w) (.aA nm 0) H':=by
 have:=zt (ℓ:=ℓ) (t:=t) hH (dL hx hc) (Nat.le_refl _) h;simpa [Instr.box,newVar,newRow]using this
theorem pC (off:Nat): ∀(vs:List Value) (k:Nat) (cells:Array Value),off+k+vs.length≤cells.size→
  ((vs.zipIdx k).foldl (fun(cs:Array Value) x=>cs.setIfInBounds (off+x.2) x.1) cells).toList=aD cells.toList (off+k) vs
 | [],k,cells,_=>by simp [aD]
 |v::r,k,cells,h=>by
  simp only [List.length_cons]at h;rw [List.zipIdx_cons,List.foldl_cons,pC off r (k+1) _ (by simp;omega)];apply List.ext_getElem?;intro j;have hl:(cells.setIfInBounds (off+k) v).toList=cells.toList.set (off+k) v:=(by simp);rw [hl,di _ _ _ _ (by simp;omega),di _ _ _ _ (by simp;omega)];simp only [List.length_cons];by_cases c1:j<off+k
  ·rw [if_pos (by omega),if_pos c1,List.getElem?_set,if_neg (by omega)]
  ·by_cases c2:j=off+k
   ·subst c2;rw [if_pos (by omega),if_neg (by omega),if_pos (by omega),List.getElem?_set,if_pos rfl];simp;omega
   ·by_cases c3:j<off+k+(r.length+1)
    ·rw [if_neg (by omega),if_pos (by omega),if_neg c1,if_pos c3];obtain⟨q,hq⟩: ∃q,j-(off+k)=q+1:=⟨j-(off+k)-1,by omega⟩;rw [hq,List.getElem?_cons_succ];congr 1;omega
    ·rw [if_neg (by omega),if_neg (by omega),if_neg c1,if_neg c3,List.getElem?_set,if_neg (by omega)]
theorem iY {k : Nat} {place place' : Nat → Option (Nat × Nat)} (hp : ∀ i x, place' i = some x → place i = some x) :
    ∀ (ps : List (Nat × GV)) (vs : List (Nat × Value)) (cells : Array Value) (cs cs' : List GV), vs.length = ps.length →
      (∀ j, (h : j < ps.length) → ∃ v, vs[j]? = some (ps[j].1, v) ∧ ax w S μ k v ps[j].2) → bz w S μ k cells.toList cs → db place' cs ps = some cs' →
      ∃ c, Instr.fill place cells vs = some c ∧ bz w S μ k c.toList cs'
  | [], vs, cells, cs, cs', hl, _, hc, hf => by
    have : vs = [] := List.eq_nil_of_length_eq_zero (by simpa using hl)
    subst this
    simp only [db, Option.some.injEq] at hf; subst hf
    exact ⟨cells, rfl, hc⟩
  | (i, g) :: ps, vs, cells, cs, cs', hl, hr, hc, hf => by
    cases vs with
    | nil => simp at hl
    | cons x vs =>
    obtain ⟨v, hv, hrel⟩ := hr 0 (by simp)
    simp at hv; subst hv
    simp only [db] at hf
    split at hf
    · cases hf
    · rename_i off size hpl
      split at hf
      · cases hf
      · rename_i us hus
        split at hf
        · cases hf
        · rename_i hcond
          have hk := dL hrel hus
          have hlen := hk.length
          simp only [Array.length_toList] at hlen
          have hcl := hc.length
          simp only [Array.length_toList] at hcl
          have hsz : off + v.cells.size ≤ cells.size := by omega
          have hfold : ((v.cells.zipIdx.foldl (fun cs (c, j) => cs.setIfInBounds (off + j) c) cells)).toList = aD cells.toList off v.cells.toList := by
            have := pC off v.cells.toList 0 cells (by simpa using hsz)
            rw [← Array.foldl_toList]
            simpa using this
          obtain ⟨c, h1, h2⟩ := iY hp ps vs (v.cells.zipIdx.foldl (fun cs (c, j) => cs.setIfInBounds (off + j) c) cells) (aD cs off us) cs' (by simpa using hl)
            (fun j hj => hr (j + 1) (by simpa using hj)) (by rw [hfold]; exact hc.aD hk off) hf
          refine ⟨c, ?_, h2⟩
          simp only [Instr.fill, hp _ _ hpl]
          rw [if_neg (by simp; omega)]
          exact h1
theorem tz {a:Act}{s:aS}(hs: ∀t,ax w S μ ℓ (a.tmps.getD t undef) (look s t))(parts:Array (Nat×Operand)):
  (parts.map fun x=>(x.1,a.eval x.2)).toList.length=(parts.toList.map (qo s)).length∧
  ∀j,(h:j<(parts.toList.map (qo s)).length)→ ∃v,(parts.map fun x=>(x.1,a.eval x.2)).toList[j]? =some ((parts.toList.map (qo s))[j].1,v)∧
   ax w S μ ℓ v (parts.toList.map (qo s))[j].2:=by
 refine⟨by simp,fun j h=> ?_⟩;have h':j<parts.size:=(by simpa using h);refine⟨a.eval parts[j].2, ?_, ?_⟩
 ·simp [h',qo]
 ·simp only [List.getElem_map,Array.getElem_toList,qo];exact iU hs _
theorem rE (w:World): ∀(fs:List Field) (l:List (Nat×Nat)),placesOf P fs=some l→(fs.mapM fun f=>do pure (f.offset,←sizeOf f.type):Sem (List (Nat×Nat))).run P w= .ok l w
 | [],l,h=>by simp [placesOf]at h;subst h;simp
 |f::r,l,h=>by
  simp only [placesOf]at h;split at h
  ·rename_i n l' h1 h2;simp only [Option.some.injEq]at h;subst h;have ih:=rE w r l' h2;simp only [bind_pure_comp]at ih⊢;rw [List.mapM_cons];simp [cM w h1,ih]
  ·cases h
theorem wx {t:TypeId} {parts:Array (Nat×Operand)} {a:Act} {s:aS} {z:GV} {zs cs:List GV} (hH:aN w S μ H)
    (hs: ∀t,ax w S μ (H.length-1) (a.tmps.getD t undef) (look s t)) (hz:b8 P t=some z) (hzc:bm z=some zs)
    (h:(match qe P t with
          |some (_,e)=>(match aZ P e with|some size=>db (fun i=>some (i*size,size)) zs (parts.toList.map (qo s))|none=>none)
          |none=>(match eI P t with|some l=>db (fun i=>l[i]?) zs (parts.toList.map (qo s))|none=>none))=some cs):
    jE ℓ w S μ H ((do pure (Next.value (←Instr.build t (parts.map fun x=>(x.1,a.eval x.2)))):Sem Next).run P w) (cO cs) H:=by
  obtain⟨v,h1,rfl⟩:=lG (P:=P) w hz;have hc:=dL (dF (w:=w) (S:=S) (μ:=μ) (ℓ:=H.length-1) v) hzc;obtain⟨p1,p2⟩:=tz hs parts;unfold qe eI at h
  cases hu:P.underlying t with
  |none=>simp [hu]at h
  |some d=>
    cases d with
    |array n e=>
      simp only [hu]at h;split at h
      · rename_i size hsz
        obtain⟨c,c1,c2⟩:=iY (place:=fun i=>some (i*size,size)) (fun i x hx=>hx) _ _ v.cells zs cs p1 p2 hc h;refine .of hH (dK c2) ?_;rw [Array.toList_map]at c1;simp [Instr.build,h1,aC w hu,cM w hsz,c1]
      · cases h
    |struct fs=>
      simp only [hu]at h;split at h
      · rename_i l hl
        have hpl:=rE w fs.toList l hl;obtain⟨c,c1,c2⟩:=iY (place:=fun i=>l[i]?) (fun i x hx=>hx) _ _ v.cells zs cs p1 p2 hc h;refine .of hH (dK c2) ?_;rw [Array.toList_map]at c1;simp only [bind_pure_comp]at hpl;simp [Instr.build,h1,aC w hu,Array.mapM_eq_mapM_toList,hpl,c1]
      · cases h
    |_=>simp [hu]at h
end
end
section
section
variable {w:World} {S:Nat→Prop} {μ:Mu} {H:ae} {P:Program} {ℓ:Nat}
theorem bP {α:Type}(es:Nat): ∀(n:Nat) (l:List α),(chunks es n l).length=n
 |0,_=>rfl
 |n+1,l=>by simp [chunks,bP es n]
theorem kg {α:Type}(es:Nat): ∀(n:Nat) (l:List α) (i:Nat),i<n→(chunks es n l)[i]? =some ((l.drop (i*es)).take es)
 |0,_,i,h=>by omega
 |n+1,l,i,h=>by
  cases i with
  |zero=>simp [chunks]
  |succ i=>
   simp only [chunks,List.getElem?_cons_succ];rw [kg es n _ i (by omega),List.drop_drop];congr 3;rw [Nat.add_mul];omega
theorem ky {α:Type}{es n:Nat}{l:List α}(h:l.length=n*es): ∀r∈chunks es n l,r.length=es:=by
 intro r hr;obtain⟨i,hi,rfl⟩:=List.getElem_of_mem hr;have hi':i<n:=(by simpa [bP]using hi);have:=kg es n l i hi';rw [List.getElem?_eq_getElem hi]at this;simp only [Option.some.injEq]at this;rw [this];have:(i+1)*es≤n*es:=Nat.mul_le_mul_right _ hi';rw [Nat.add_mul]at this;simp;omega
theorem gS {α:Type}{es n:Nat}{l:List α}(d:α)(i j:Nat)(hi:i<n)(hj:j<es):
  ((chunks es n l).getD i []).getD j d=l.getD (i*es+j) d:=by
 have e:(chunks es n l).getD i []=(l.drop (i*es)).take es:=(by rw [List.getD_eq_getElem?_getD,kg es n l i hi];rfl);rw [e,List.getD_eq_getElem?_getD,List.getElem?_take,if_pos hj,List.getElem?_drop,List.getD_eq_getElem?_getD]
theorem m5 {k:Nat}{v:Value}{g:GV}(h:ax w S μ k v g):ax w S μ k v (cb g):=by
 cases g with
 |aO=>cases h with|aO a=>exact .pure _ _ (.dJ a 0)
 |_=>exact h
theorem gh {k:Nat}{vs:List Value}{gs:List GV}(h:bz w S μ k vs gs):bz w S μ k vs (gs.map cb):=by
 induction h with
 |nil=>exact .nil
 |cons h1 h2 _ ih=>exact .cons h1 (m5 h2) ih
theorem mf {k:Nat}{v:Value}{g:GV}(h:ax w S μ k v g):ax w S μ k v (canon g):=by
 have hagg: ∀{v:Value} {l:List GV},ax w S μ k v (.agg l)→ax w S μ k v (cO (l.map cb)):=by
  intro v l h;obtain⟨vs,rfl,hc⟩:=h.cells;exact dK (gh hc)
 cases g with
 |aO=>exact m5 h
 |agg l=>exact hagg h
 |tuple l=>
  cases h with
  |tuple vs _ h1 h2=>
   refine fT (by simpa using h1) fun j hj=> ?_;have hj':j<l.length:=(by simpa using hj);have h3:=h2 j hj';simp only [List.getD_eq_getElem?_getD,List.getElem?_map,List.getElem?_eq_getElem hj',Option.map_some,Option.getD_some]at h3⊢;split
   ·rename_i l' e;rw [e]at h3;exact hagg h3
   ·exact m5 h3
 |_=>exact h
theorem AK {es n:Nat}{cs:List GV}(i j:Nat)(hi:i<n)(hj:j<es):((chunks es n cs).getD i []).getD j aG=cs.getD (i*es+j) aG:=gS aG i j hi hj
theorem oK {α:Type}(z:Array α) [Inhabited α](len:Nat):((Array.range (len*z.size)).map (z[· %z.size]!)).toList=(List.replicate len z.toList).flatten:=by
 by_cases hz:z.size=0
 ·simp [hz,Array.eq_empty_of_size_eq_zero hz]
 induction len with
 |zero=>simp
 |succ n ih=>
  rw [List.replicate_succ',List.flatten_append,←ih,Nat.add_mul,Nat.one_mul];simp only [Array.toList_map,Array.toList_range,List.flatten_cons,List.flatten_nil,List.append_nil];rw [List.range_add,List.map_append,List.map_map];congr 1;apply List.ext_getElem
  ·simp
  ·intro i h1 h2;have h2':i<z.size:=(by simpa using h2);simp only [List.getElem_map,List.getElem_range,Function.comp];rw [Nat.mul_comm n,Nat.mul_add_mod,Nat.mod_eq_of_lt h2'];simp [h2']
theorem kz {place : Nat → Option (Nat × Nat)} : ∀ (ps : List (Nat × GV)) (q cs : List GV), db place q ps = some cs → cs.length = q.length
  | [], q, cs, hf => by simp [db] at hf; subst hf; rfl
  | (i, g) :: ps, q, cs, hf => by
    simp only [db] at hf
    cases hp : place i with
    | none => rw [hp] at hf; cases hf
    | some x =>
      obtain ⟨off, size⟩ := x
      rw [hp] at hf
      simp only at hf
      cases hc : bm g with
      | none => rw [hc] at hf; cases hf
      | some us =>
        rw [hc] at hf
        simp only at hf
        by_cases hcond : us.length ≠ size ∨ off + us.length > q.length
        · rw [if_pos hcond] at hf; cases hf
        · rw [if_neg hcond] at hf
          rw [kz ps _ _ hf, cG _ _ _ (by omega)]
theorem gi {t e:TypeId} {len size:Nat} {parts:Array (Nat×Operand)} {a:Act} {s:aS} {z:GV} {zs cs:List GV} (hH:aN w S μ H)
  (hs: ∀t,ax w S μ (H.length-1) (a.tmps.getD t undef) (look s t)) (hu:cU P t=some e) (hsz:aZ P e=some size) (hz:b8 P e=some z) (hzc:bm z=some zs)
  (hzl:zs.length=size) (hpos:0<size) (hmax:len*size≤16777216)
  (h:db (fun i=>some (i*size,size)) (List.replicate len zs).flatten (parts.toList.map (qo s))=some cs):
  ∃c:Array Value,bz w S μ (H.length-1) c.toList cs∧cs.length=len*size∧
   (Instr.buildSlice t len (parts.map fun x=>(x.1,a.eval x.2))).run P w= .ok (.slice (some ⟨w.heap.size,0,none⟩) len len) (w.alloc (.cells c e)):=by
 obtain⟨v,h1,rfl⟩:=lG (P:=P) w hz;have hc:=dL (dF (w:=w) (S:=S) (μ:=μ) (ℓ:=H.length-1) v) hzc;have hvl:v.cells.size=size:=(by have:=hc.length;simp at this;omega);obtain⟨p1,p2⟩:=tz hs parts;have hu':P.underlying t=some (.slice e):=by
  unfold cU at hu;split at hu
  ·rename_i e' he;simp at hu;subst hu;exact he
  ·cases hu
 by_cases h0:len*size=0
 ·have hl0:len=0:=by rcases Nat.mul_eq_zero.1 h0 with h|h<;>omega
  subst hl0;obtain⟨c,c1,c2⟩:=iY (w:=w) (S:=S) (μ:=μ) (k:=H.length-1) (place:=fun i=>some (i*size,size)) (fun i x hx=>hx) _ _ #[] _ cs p1 p2 (by simp;exact .nil) h;rw [Array.toList_map]at c1;have hcs:cs.length=0:=(by rw [kz _ _ _ h];simp);have e0: ∀f:Nat→Value,Array.map f (Array.range 0)= #[]:=fun f=>Array.eq_empty_of_size_eq_zero (by simp);refine⟨c,c2,by omega, ?_⟩;simp [Instr.buildSlice,aC w hu',cM w hsz,newRow,e0,c1]
 ·have hcells:bz w S μ (H.length-1) (((Array.range (len*size)).map (v.cells[· %v.cells.size]!))).toList (List.replicate len zs).flatten:=by
   have:=oK v.cells len;rw [hvl]at this⊢;rw [this];exact hc.replicate len
  obtain⟨c,c1,c2⟩:=iY (place:=fun i=>some (i*size,size)) (fun i x hx=>hx) _ _ _ _ cs p1 p2 hcells h;rw [Array.toList_map]at c1;have hcs:cs.length=len*size:=(by rw [kz _ _ _ h];simp [List.length_flatten,hzl]);refine⟨c,c2,hcs, ?_⟩;have hng: ¬len*size>2^24:=(by omega);simp only [Nat.mul_eq_zero]at h0;simp [Instr.buildSlice,aC w hu',cM w hsz,newRow,hng,h0,h1,c1];intro hh;exact absurd (Nat.mul_eq_zero.1 hh) h0
theorem cJ {t e:TypeId}(hu:cU P t=some e):P.underlying t=some (.slice e):=by
 unfold cU at hu;split at hu
 ·rename_i e' he;simp at hu;subst hu;exact he
 ·cases hu
theorem mW {t e:TypeId} {len size:Nat} {parts:Array (Nat×Operand)} {a:Act} {s:aS} {z:GV} {zs cs:List GV} (hH:aN w S μ H)
  (hs: ∀t,ax w S μ (H.length-1) (a.tmps.getD t undef) (look s t)) (hu:cU P t=some e) (hsz:aZ P e=some size) (hz:b8 P e=some z) (hzc:bm z=some zs)
  (hzl:zs.length=size) (hpos:0<size) (hmax:len*size≤16777216)
  (h:db (fun i=>some (i*size,size)) (List.replicate len zs).flatten (parts.toList.map (qo s))=some cs):
  jE ℓ w S μ H ((do pure (Next.value (←Instr.buildSlice t len (parts.map fun x=>(x.1,a.eval x.2)))):Sem Next).run P w) (if len=0 then .aO else .lits (chunks size len cs)) H:=by
 obtain⟨c,h1,h2,h3⟩:=gi hH hs hu hsz hz hzc hzl hpos hmax h;obtain⟨a1,a2⟩:=hH.lit ℓ (.cells c e);refine⟨_,_,_,_,μ,by simp [h3];rfl, .inl rfl, ?_,a1,a2,rfl⟩;split
 ·rename_i h0;subst h0;exact .aO _
 ·have hck:c.size=len*size:=by have:=h1.length;simp at this;omega
  have:=ax.lits (w:=w.alloc (.cells c e)) (S:=fun b=>S b∨b=w.heap.size) (μ:=μ) (ℓ:=H.length-1) w.heap.size 0 len size (chunks size len cs) (fun i j=>c.getD (i*size+j) undef)
   (.inr rfl) hpos (ky h2) (fun i j hi hj=>by
    rw [bP]at hi;have hlt:i*size+j<c.size:=by
     have:(i+1)*size≤len*size:=Nat.mul_le_mul_right _ hi;rw [Nat.add_mul]at this;omega
    simp only [World.cell?,cu,Nat.zero_add];simp [Array.getD_eq_getD_getElem?,hlt])
   (fun i j hi hj=>by
    rw [bP]at hi;have hlt:i*size+j<cs.length:=by
     have:(i+1)*size≤len*size:=Nat.mul_le_mul_right _ hi;rw [Nat.add_mul]at this;omega
    rw [dP];exact(h1.getD _ hlt).1)
   (fun i j hi hj=>by
    rw [bP]at hi;have hlt:i*size+j<cs.length:=by
     have:(i+1)*size≤len*size:=Nat.mul_le_mul_right _ hi;rw [Nat.add_mul]at this;omega
    rw [dP,AK i j hi hj];exact(h1.getD _ hlt).2.mono (fun b h=> .inl h) (fun b hb=>bC w _ b (hH.slt b hb)) (eE w _) (fun _ _ _ _ h=>h) (Nat.le_refl _))
  rw [bP]at this;exact this
theorem AG {t e:TypeId} {len size:Nat} {parts:Array (Nat×Operand)} {a:Act} {s:aS} {z:GV} {zs cs:List GV} {ps:List PV} (hH:aN w S μ H)
  (hs: ∀t,ax w S μ (H.length-1) (a.tmps.getD t undef) (look s t)) (hu:cU P t=some e) (hsz:aZ P e=some size) (hz:b8 P e=some z) (hzc:bm z=some zs)
  (hzl:zs.length=size) (hpos:0<size) (hmax:len*size≤16777216)
  (h:db (fun i=>some (i*size,size)) (List.replicate len zs).flatten (parts.toList.map (qo s))=some cs) (hp:bd (cs.map cb)=some ps) (h0:len≠0):
  jE ℓ w S μ H ((do pure (Next.value (←Instr.buildSlice t len (parts.map fun x=>(x.1,a.eval x.2)))):Sem Next).run P w) (.pure (.slice (chunks size len ps))) H:=by
 obtain⟨c,h1,h2,h3⟩:=gi hH hs hu hsz hz hzc hzl hpos hmax h;obtain⟨a1,a2⟩:=hH.lit ℓ (.cells c e);refine⟨_,_,_,_,μ,by simp [h3];rfl, .inl rfl, ?_,a1,a2,rfl⟩;have h1':=gh h1;rw [dG hp]at h1';obtain⟨q1,q2⟩:=bz.mG _ _ h1';have hpl:ps.length=len*size:=(by have:=h1.length;simp at q1 this;omega);have hck:c.size=len*size:=by simp at q1;omega
 have:=bI.slice (w:=w.alloc (.cells c e)) (S:=fun b=>S b∨b=w.heap.size) w.heap.size 0 len size (chunks size len ps) (fun i j=>c.getD (i*size+j) undef)
  (.inr rfl) hpos (ky hpl) (fun i j hi hj=>by
   rw [bP]at hi;have hlt:i*size+j<c.size:=by
    have:(i+1)*size≤len*size:=Nat.mul_le_mul_right _ hi;rw [Nat.add_mul]at this;omega
   simp only [World.cell?,cu,Nat.zero_add];simp [Array.getD_eq_getD_getElem?,hlt])
  (fun i j hi hj=>by
   rw [bP]at hi;have hlt:i*size+j<ps.length:=by
    have:(i+1)*size≤len*size:=Nat.mul_le_mul_right _ hi;rw [Nat.add_mul]at this;omega
   rw [dP];exact(q2 _ hlt).1)
  (fun i j hi hj=>by
   rw [bP]at hi;have hlt:i*size+j<ps.length:=by
    have:(i+1)*size≤len*size:=Nat.mul_le_mul_right _ hi;rw [Nat.add_mul]at this;omega
   rw [dP,gS PV.dead i j hi hj];exact(q2 _ hlt).2.mono (fun b h=> .inl h) (fun b hb=>bC w _ b (hH.slt b hb)))
  (by rw [bP];omega)
 rw [bP]at this;exact .pure _ _ this
theorem qv {l key:Nat} {nm:Nm} {H':ae} {size n cap:Nat} {rows:List (List PV)} {c:Array Value} {e:TypeId} (hH:aN w S μ H)
  (h:hQ H l key (.arr size rows 0 false)=some (nm,H')) (hpos:0<size) (hrows: ∀r∈rows,r.length=size) (hn:rows.length=n) (hcap:n≤cap) (hsz:cap*size≤c.size)
  (hc: ∀i j,i<n→j<size→(c.getD (i*size+j) undef).oneCell'=true∧bI w S (c.getD (i*size+j) undef) ((rows.getD i []).getD j .dead)):
  ∃μ',ax (w.alloc (.cells c e)) S μ' (H'.length-1) (.slice (some ⟨w.heap.size,0,none⟩) n cap) (.ay nm size n 0 n)∧aN (w.alloc (.cells c e)) S μ' H'∧
   Ev ℓ w S μ (w.alloc (.cells c e)) S μ'∧H'.length=H.length:=by
 obtain⟨rfl,hl,hg,rfl⟩:=gT h;have hno: ∀t b,μ (l,key) t≠some b:=fun t b h=>by obtain⟨y,hy⟩:=hH.je _ _ _ h;rw [hg]at hy;cases hy
 obtain⟨h1,h2⟩:=hH.new ℓ hg hl (.cells c e) n (.arr size rows 0 false) (by
  refine⟨hpos,hrows,Nat.zero_le _,⟨w.heap.size,by rw [hn];exact Mu.bc _ _ _ _⟩,fun top b hb=> ?_⟩;by_cases et:top=n
  ·subst et;rw [Mu.bc]at hb;cases hb;refine⟨by omega,⟨c,e,cu w _⟩,fun _ hS=> ?_,fun _=>⟨fun h=>(by cases h),fun i j hi hj=> ?_⟩⟩
   ·have:=hH.slt _ hS;omega
   ·obtain⟨z1,z2⟩:=hc i j hi hj;have hlt:i*size+j<c.size:=by
     have:(i+1)*size≤cap*size:=Nat.mul_le_mul_right _ (by omega);rw [Nat.add_mul]at this;omega
    refine⟨c.getD (i*size+j) undef, ?_,z1,z2.mono (fun _ h=>h) (fun b hb=>bC w _ b (hH.slt b hb))⟩;simp only [World.cell?,cu];simp [Array.getD_eq_getD_getElem?,hlt]
  ·rw [Mu.bX μ _ _ et]at hb;exact absurd hb (hno _ _))
 refine⟨_, ?_,h1,h2,ae.length_set _ _ _⟩
 have:=ax.ay (w:=w.alloc (.cells c e)) (S:=S) (μ:=μ.jF (l,key) n w.heap.size) (ℓ:=(ae.set H (l,key) (.arr size rows 0 false)).length-1) (l,key) size n 0 n cap w.heap.size c.size e
  (by simp [ae.length_set];omega) (Mu.bc _ _ _ _) (by omega) (by omega) (by unfold World.shape?;rw [cu]) (by rw [Nat.zero_add];exact hsz)
 rw [Nat.zero_mul]at this;exact this
end
end
section
section
variable {w:World} {S:Nat→Prop} {μ:Mu} {H:ae} {P:Program} {ℓ:Nat}
def m6 (w:World)(S:Nat→Prop)(cells:Array Value)(xs:List (List PV))(size:Nat):Prop:=
 cells.size=xs.length*size∧ ∀i j,i<xs.length→j<size→(cells.getD (i*size+j) undef).oneCell'=true∧bI w S (cells.getD (i*size+j) undef) ((xs.getD i []).getD j .dead)
theorem fJ {n size i j:Nat}(hi:i<n)(hj:j<size):i*size+j<n*size:=by
 have:(i+1)*size≤n*size:=Nat.mul_le_mul_right _ hi;rw [Nat.add_mul]at this;omega
theorem uP {size i j:Nat}(hj:j<size):(i*size+j)/size=i∧(i*size+j)%size=j:=by
 constructor
 ·rw [Nat.mul_comm,Nat.mul_add_div (by omega),Nat.div_eq_of_lt hj];omega
 ·rw [Nat.mul_comm,Nat.mul_add_mod,Nat.mod_eq_of_lt hj]
theorem iy {w2:World}(hw:w2.heap=w.heap){b o n size:Nat}(hpos:0<size)(f:Nat→Nat→Value)(hf: ∀i j,i<n→j<size→w.cell? ⟨b,o+(i*size+j),none⟩=some (f i j)):
  ∃cells:Array Value,(loadCells ⟨b,o,none⟩ (n*size)).run P w2= .ok cells w2∧cells.size=n*size∧ ∀i j,i<n→j<size→cells.getD (i*size+j) undef=f i j:=by
 have hlen:((List.range (n*size)).map fun q=>f (q/size) (q%size)).length=n*size:=(by simp);have hc:kx w2 b o ((List.range (n*size)).map fun q=>f (q/size) (q%size)):=by
  have:kx w b o ((List.range (n*size)).map fun q=>f (q/size) (q%size)):=gW fun q hq=>by
   have h1:q/size<n:=(by rw [Nat.div_lt_iff_lt_mul hpos];exact hq);have h2:q%size<size:=Nat.mod_lt _ hpos;have:=hf _ _ h1 h2
   rwa [Nat.div_add_mod' q size]at this
  intro j v hv;have:=this j v hv;unfold World.cell? at this⊢;rw [hw];exact this
 have:=pD (P:=P) w2 hc;rw [hlen]at this;refine⟨_,this,by simp,fun i j hi hj=> ?_⟩;obtain⟨d1,d2⟩:=uP (i:=i) hj;rw [dP];simp [List.getD_eq_getElem?_getD,fJ hi hj,d1,d2]
theorem nK (ℓ:Nat){size:Nat}: ∀(l:List (List GV)) (f:Nat→Nat→Value) (S:Nat→Prop) (H:ae) (k:Nat),aN w S μ H→(∀r∈l,r.length=size)→
  (∀i j,i<l.length→j<size→(f i j).oneCell'=true∧ax w S μ k (f i j) ((l.getD i []).getD j aG))→
  ∃S',aN w S' μ (dV H l).2∧Ev ℓ w S μ w S' μ∧dr H (dV H l).2∧(dV H l).1.length=l.length∧(∀r∈(dV H l).1,r.length=size)∧
   ∀i j,i<l.length→j<size→bI w S' (f i j) (((dV H l).1.getD i []).getD j .dead)
 | [],f,S,H,k,hH,_,_=>⟨S,hH, .refl _ _ _ _, .refl H,rfl,by simp [dV],by simp⟩
 |r::l,f,S,H,k,hH,hl,hr=>by
  have hrl:r.length=size:=hl r (by simp);have hc:bz w S μ k ((List.range r.length).map (f 0)) r:=lN fun j hj=>(by simpa using hr 0 j (by simp) (by omega));obtain⟨S1,a1,a2,a3,a4⟩:=fH ℓ hH hc;obtain⟨S2,b1,b2,b3,b4,b6,b5⟩:=nK ℓ l (fun i=>f (i+1)) S1 _ k a1 (fun x hx=>hl x (by simp [hx])) (fun i j hi hj=>by
   have:=hr (i+1) j (by simpa using hi) hj;exact⟨this.1,by simpa using this.2.mono a2.sub (fun _ _=>rfl) (fun _ _ h=>h) (fun _ _ _ _ h=>h) (Nat.le_refl _)⟩)
  have hpl:(bp H r).1.length=size:=(by have:=a3.length;simp at this;omega);refine⟨S2,b1,a2.trans b2,a4.trans b3,by simp [dV,b4],fun x hx=> ?_,fun i j hi hj=> ?_⟩
  ·simp only [dV,List.mem_cons]at hx;rcases hx with rfl|hx
   ·exact hpl
   ·exact b6 x hx
  ·cases i with
   |zero=>
    obtain⟨q1,q2⟩:=bz.mG _ _ a3;have:=(q2 j (by omega)).2;simp only [dV,List.getD_cons_zero];have e:((List.range r.length).map (f 0)).getD j undef=f 0 j:=(by simp [List.getD_eq_getElem?_getD,hrl,hj]);rw [e]at this;exact this.mono b2.sub (fun _ _=>rfl)
   |succ i=>simp only [dV,List.getD_cons_succ];exact b5 i j (by simpa using hi) hj
theorem nH (ℓ:Nat) {k:Nat} {v:Value} {x:GV} {xs:List (List PV)} {H1:ae} {size:Nat} (hH:aN w S μ H) (hv:ax w S μ k v x) (h:fA H x=some (xs,H1))
  (hpos:0<size) (hsz: ∀r∈xs,r.length=size):
  ∃S1,aN w S1 μ H1∧Ev ℓ w S μ w S1 μ∧dr H H1∧(∀w2:World,(Builtin.lenOf v).run P w2= .ok xs.length w2)∧
   ∀w2:World,w2.heap=w.heap→ ∃cells,(Builtin.firstCells size xs.length v).run P w2= .ok cells w2∧m6 w S1 cells xs size:=by
 have rowlen: ∀(l:List (List PV)) (es:Nat),l≠[]→(∀r∈l,r.length=es)→(∀r∈l,r.length=size)→es=size:=by
  intro l es hne h1 h2
  cases l with
  |nil=>exact absurd rfl hne
  |cons r l=>have a:=h1 r (by simp);have b:=h2 r (by simp);omega
 cases x with
 |aO=>
  simp only [fA,Option.some.injEq,Prod.mk.injEq]at h;obtain⟨rfl,rfl⟩:=h;cases hv with|aO a=>
  refine⟨S,hH, .refl _ _ _ _, .refl H,fun w2=>rfl,fun w2 _=>⟨#[], ?_,by simp,by simp⟩⟩;cases a<;>simp [Builtin.firstCells,loadCells,loadCellsFrom]
 |pure p=>
  cases p with
  |slice l=>
   simp only [fA,Option.some.injEq,Prod.mk.injEq]at h;obtain⟨rfl,rfl⟩:=h;refine⟨S,hH, .refl _ _ _ _, .refl H, ?_⟩;have:=hv.pv
   cases this with
   |dJ a cap=>
    refine⟨fun w2=>rfl,fun w2 _=>⟨#[], ?_,by simp,by simp⟩⟩;cases a<;>simp [Builtin.firstCells,loadCells,loadCellsFrom]
   |slice b o cap es _ f hS he hes hf h1 hr hcp=>
    refine⟨fun w2=>rfl,fun w2 hw=> ?_⟩;by_cases hne:l=[]
    ·subst hne;exact⟨#[],by simp [Builtin.firstCells,loadCells,loadCellsFrom],by simp,by simp⟩
    ·obtain rfl:es=size:=rowlen l es hne hes hsz;obtain⟨cells,c1,c2,c3⟩:=iy (P:=P) hw he f hf;exact⟨cells,by simpa [Builtin.firstCells]using c1,c2,fun i j hi hj=>by rw [c3 i j hi hj];exact⟨h1 i j hi hj,hr i j hi hj⟩⟩
  |str l=>
   simp only [fA,Option.some.injEq,Prod.mk.injEq]at h;obtain⟨rfl,rfl⟩:=h;obtain⟨s,rfl,hs⟩:=hv.kh;refine⟨S,hH, .refl _ _ _ _, .refl H,fun w2=> ?_,fun w2 _=> ?_⟩
   ·subst hs;simp [Builtin.lenOf]
   ·by_cases hne:l=[]
    ·subst hne;refine⟨#[], ?_,by simp,by simp⟩;have:s.extract 0 0=ByteArray.empty:=(by ext1;simp);simp [Builtin.firstCells,this]
    ·have hs1:size=1:=by
      cases l with
      |nil=>exact absurd rfl hne
      |cons b r=>have:=hsz [.int .u8 b.toNat] (by simp);simpa using this.symm
     subst hs1;have hex:s.extract 0 l.length=s:=by
      have:l.length=s.size:=(by subst hs;simp);rw [this];ext1;simp
     refine⟨s.data.map fun b=> .int .u8 b.toNat, ?_, ?_,fun i j hi hj=> ?_⟩
     ·simp only [List.length_map];simp [Builtin.firstCells,hex]
     ·subst hs;simp
     ·obtain rfl:j=0:=(by omega);have hi':i<l.length:=(by simpa using hi);have hi2:i<s.data.size:=(by subst hs;simpa using hi');rw [dP];have e:(s.data.map fun b=>Value.int .u8 b.toNat).toList.getD (i*1+0) undef= .int .u8 (l[i]).toNat:=by
       subst hs;simp [List.getD_eq_getElem?_getD,Array.getElem?_eq_getElem hi2]
      have e2:((l.map fun b=> [PV.int .u8 b.toNat]).getD i []).getD 0 .dead= .int .u8 (l[i]).toNat:=by
       simp [List.getD_eq_getElem?_getD,hi']
      rw [e,e2];exact⟨rfl, .int _ _⟩
  |_=>simp [fA]at h
 |lits l=>
  simp only [fA,Option.some.injEq]at h
  cases hv with
  |lits b o cap es _ f hS he hes hf h1 hr=>
  by_cases hne:l=[]
  ·subst hne;simp only [dV,Prod.mk.injEq]at h;obtain⟨rfl,rfl⟩:=h;exact⟨S,hH, .refl _ _ _ _, .refl H,fun w2=>rfl,fun w2 _=>⟨#[],by simp [Builtin.firstCells,loadCells,loadCellsFrom],by simp,by simp⟩⟩
  ·obtain⟨S1,b1,b2,b3,b4,b6,b5⟩:=nK ℓ l f S H k hH hes (fun i j hi hj=>⟨h1 i j hi hj,hr i j hi hj⟩);rw [h]at b1 b3 b4 b5 b6;simp only at b1 b3 b4 b5 b6;have hxne:xs≠[]:=(by intro e;subst e;exact hne (List.eq_nil_of_length_eq_zero (by simpa using b4.symm)));obtain rfl:es=size:=rowlen xs es hxne b6 hsz;refine⟨S1,b1,b2,b3,fun w2=>by simp [Builtin.lenOf,b4],fun w2 hw=> ?_⟩;obtain⟨cells,c1,c2,c3⟩:=iy (P:=P) hw he f hf;refine⟨cells,by rw [b4];simpa [Builtin.firstCells]using c1,by rw [b4];exact c2,fun i j hi hj=> ?_⟩;rw [b4]at hi;rw [c3 i j hi hj];exact⟨h1 i j hi hj,b5 i j hi hj⟩
 |ay nm es top lo len=>
  simp only [fA,gI]at h;split at h
  ·rename_i l hl;simp only [Option.some.injEq,Prod.mk.injEq]at h;obtain⟨rfl,rfl⟩:=h;split at hl
   ·rename_i es' elems vf ro hg;split at hl
    ·rename_i hc;obtain⟨rfl,hvf,hlen,htop⟩:=hc;simp only [PV.slice.injEq]at hl;subst hl
     cases hv with
     |ay _ _ _ _ _ cap b n e h1 h2 h3 h4 h5 h6=>
     obtain⟨h0,k1,k2,k3,k4⟩:=hH.fY _ _ hg _ _ h2;obtain⟨g1,g2,g3,g4⟩:=k4 top b h2;obtain⟨_,g5⟩:=g4 hvf;have hlen2:((elems.drop lo).take len).length=len:=(by simp;omega);refine⟨S,hH, .refl _ _ _ _, .refl H,fun w2=>by rw [hlen2];rfl,fun w2 hw=> ?_⟩;rw [hlen2];by_cases hz:len=0
     ·subst hz;exact⟨#[],by simp [Builtin.firstCells,loadCells,loadCellsFrom],by simp,by simp⟩
     ·have hne:(elems.drop lo).take len≠[]:=(by intro e;rw [e]at hlen2;simp at hlen2;omega);obtain rfl:es'=size:=rowlen _ es' hne (fun r hr=>k1 r (List.mem_of_mem_drop (List.mem_of_mem_take hr))) hsz;obtain⟨cells,c1,c2,c3⟩:=iy (P:=P) (b:=b) (o:=lo*es') (n:=len) hw h0 (fun i j=>(w.cell? ⟨b,(lo+i)*es'+j,none⟩).getD undef) (fun i j hi hj=>by
       obtain⟨u,u1,u2,u3⟩:=g5 (lo+i) j (by omega) hj;have e:lo*es'+(i*es'+j)=(lo+i)*es'+j:=(by rw [Nat.add_mul];omega);rw [e,u1];rfl)
      refine⟨cells,by simpa [Builtin.firstCells]using c1,by rw [hlen2];exact c2,fun i j hi hj=> ?_⟩;rw [hlen2]at hi;obtain⟨u,u1,u2,u3⟩:=g5 (lo+i) j (by omega) hj;have hget:(((elems.drop lo).take len).getD i [])=elems.getD (lo+i) []:=by
       simp [List.getD_eq_getElem?_getD,List.getElem?_take,hi,List.getElem?_drop]
      rw [c3 i j hi hj,u1,hget];exact⟨u2,u3⟩
    ·cases hl
   ·cases hl
  ·cases h
 |_=>simp [fA]at h
theorem tA (n:Nat): ∀(r c:Nat),Builtin.growBy n r c≤(c+768)*2^r
 |0,c=>by simp [Builtin.growBy]
 |r+1,c=>by
  unfold Builtin.growBy;split
  ·have:1≤2^(r+1):=Nat.one_le_two_pow
   calc c≤(c+768)*1:=by omega
    _≤_:=Nat.mul_le_mul_left _ this
  ·have h1:=tA n r (c+(c+768)/4);have h2:c+(c+768)/4+768≤(c+768)*2:=by omega
   calc _≤(c+(c+768)/4+768)*2^r:=h1
    _≤(c+768)*2*2^r:=Nat.mul_le_mul_right _ h2
    _=(c+768)*2^(r+1):=by rw [Nat.pow_succ];rw [Nat.mul_assoc,Nat.mul_comm 2]
theorem wF (need cap:Nat)(h:cap<need):Builtin.nextslicecap need cap≤16*(need+768):=by
 unfold Builtin.nextslicecap;split
 ·omega
 ·split
  ·omega
  ·refine Nat.le_trans (tA need 4 cap) ?_;have e:(2:Nat)^4=16:=(by decide);rw [e];omega
theorem LS {need cap bytes:Nat}(h:cap<need)(hb:bytes≤1048576)(hn:need*bytes≤1099511627776): ¬Builtin.nextslicecap need cap*bytes>2^48:=by
 have h1:=Nat.mul_le_mul_right bytes (wF need cap h);have h2:16*(need+768)*bytes=16*(need*bytes)+16*768*bytes:=(by rw [Nat.mul_assoc,Nat.add_mul];omega);omega
theorem mc {e:TypeId}{size:Nat}(h:o6 P e=some size)(w:World): ∃v,(zeroValue e).run P w= .ok v w∧v.cells.size=size:=by
 unfold o6 at h;split at h
 ·rename_i z hz;split at h
  ·rename_i zs hzs;simp only [Option.some.injEq]at h;obtain⟨v,h1,rfl⟩:=lG (P:=P) w hz;have:=(dL (dF (w:=w) (S:=fun _=>False) (μ:=fun _ _=>none) (ℓ:=0) v) hzs).length;simp at this;exact⟨v,h1,by omega⟩
  ·cases h
 ·cases h
theorem nL {t:Option TypeId}(h:dQ P t=true): ∃t',t=some t'∧((∃e,P.underlying t'=some (.slice e))∨P.underlying t'=some .string):=by
 unfold dQ at h;split at h
 ·rename_i t';split at h
  ·exact⟨t',rfl, .inl ⟨_,‹_›⟩⟩
  ·exact⟨t',rfl, .inr ‹_›⟩
  ·cases h
 ·cases h
end
end
section
section
variable {w:World} {S:Nat→Prop} {μ:Mu} {H:ae} {P:Program} {ℓ:Nat}
theorem dy {ats:Array TypeId} {ty t e:TypeId} {base:Option Addr} {len cap size:Nat} {vx:Value} {n:Nat} {cells:Array Value} {r:Result Unit}
  (h0:ats[0]? =some t) (h1:dQ P ats[1]? =true) (hu:P.underlying t=some (.slice e)) (hs:aZ P e=some size) (hn:(Builtin.lenOf vx).run P w= .ok n w)
  (hc:(Builtin.firstCells size n vx).run P w= .ok cells w) (hfit:len+n≤cap) {w':World}
  (hst:(match base with|some a=>storeCells (a.add (len*size)) cells.toList|none=>pure ()).run P w= .ok () w'):
  (Builtin.append_ ats ty #[.slice base len cap,vx]).run P w= .ok (.slice base (len+n) cap) w':=by
 obtain⟨t',h1',h1''⟩:=nL h1;rcases h1'' with ⟨e',he⟩|he
 all_goals
  cases base with
  |none=>
   simp at hst;subst hst;simp [Builtin.append_,h0,h1',aC w hu,aC w he,cM w hs,hn,hfit,hc]
  |some a=>
   simp only at hst;simp [Builtin.append_,h0,h1',aC w hu,aC w he,cM w hs,hn,hfit,hc,hst]
theorem dU {ats:Array TypeId} {ty t e:TypeId} {base:Option Addr} {len cap size bytes:Nat} {vx:Value} {n:Nat} {old cells:Array Value} {z:Value}
  (h0:ats[0]? =some t) (h1:dQ P ats[1]? =true) (hu:P.underlying t=some (.slice e)) (hs:aZ P e=some size) (hb:iI P e=some bytes) (hb0:0<bytes) (hb1:bytes≤1048576)
  (hmax:(len+n)*bytes≤1099511627776) (hn:(Builtin.lenOf vx).run P w= .ok n w)
  (ho:(Builtin.firstCells size len (.slice base len cap)).run P w.drew= .ok old w.drew) (hc:(Builtin.firstCells size n vx).run P w.drew= .ok cells w.drew)
  (hz:(zeroValue e).run P w.drew= .ok z w.drew) (hfit: ¬len+n≤cap):
  ∃newCap,len+n≤newCap∧(Builtin.append_ ats ty #[.slice base len cap,vx]).run P w=
   .ok (.slice (some ⟨w.heap.size,0,none⟩) (len+n) newCap) (w.drew.alloc (.cells (old++cells++Builtin.zeroCells z.cells (newCap-(len+n))) e)):=by
 obtain⟨t',h1',h1''⟩:=nL h1;obtain⟨i,hi,rfl⟩:=uQ (P:=P) w hb;obtain⟨i2,hi2,hi2'⟩:=uQ (P:=P) w.drew hb;refine⟨(Question.appendCap (len+n) cap e).cut (w.tape w.drawn (.appendCap (len+n) cap e)), ?_, ?_⟩
 ·simp [Question.cut]
 ·have hbz:i.bytes≠0:=(by omega);have hcap: ¬Builtin.nextslicecap (len+n) cap*i.bytes>2^48:=LS (by omega) hb1 hmax;have hlim: ¬((((len+n:Nat):Int)>IntKind.i64.max)∧(False∨i.bytes=0)):=fun h=>(by rcases h.2 with h|h;exact h;exact hbz h);have ay:({w with drawn:=w.drawn+1}:World)=w.drew:=rfl;rcases h1'' with ⟨e',he⟩|he
  all_goals
   simp only [Builtin.append_];simp [h0,h1',aC w hu,aC w he,cM w hs,hn,hfit,hi,hbz,hcap,Question.forced,ay,hi2,ho,hc,hz,newRow]
theorem dh (z:Array Value)(n:Nat):(Builtin.zeroCells z n).size=n*z.size:=by simp [Builtin.zeroCells]
theorem aN.drew (hH:aN w S μ H):aN w.drew S μ H∧Ev ℓ w S μ w.drew S μ:=by
 have hw: ∀b:Nat,w.drew.heap[b]? =w.heap[b]? :=fun _=>rfl;refine⟨⟨fun n b hb t0 b0 hb0=>(hH.fY n b hb t0 b0 hb0).mono (fun _ h=>h) (fun b _=>hw b) (fun _ _ h=>h) (fun _ _ _ _ h=>h) (fun _=>rfl) (fun _ b _=>hw b) (fun _ _ _ h=>h),hH.je,hH.fF,hH.lt,hH.slt⟩, ?_⟩;exact⟨rfl,rfl,rfl,Nat.le_refl _,fun _ h=>h,fun b _ _=>hw b,fun _ _ h=>h,fun b r h=>⟨r,h⟩,fun _ _ _ _ h=>h,fun n t b h _=>⟨n,t,h⟩,fun _ h _=> .inl h⟩
theorem gD {α:Type}(a b:Array α)(i:Nat)(d:α)(h:i<a.size):(a++b).getD i d=a.getD i d:=by
 simp [Array.getD_eq_getD_getElem?,Array.getElem?_append,h]
theorem nM {α:Type}(a b:Array α)(i:Nat)(d:α)(h:a.size≤i):(a++b).getD i d=b.getD (i-a.size) d:=by
 simp [Array.getD_eq_getD_getElem?,Array.getElem?_append,Nat.not_lt.2 h]
theorem yl {nm:Nm} {es vf n cap:Nat} {elems xs:List (List PV)} {c:Array Value} {e:TypeId} (hH:aN w S μ H) (hg:H.get nm=some (.arr es elems vf false)) {t0 b0:Nat} (hb0:μ nm t0=some b0) (hvf:vf≤elems.length)
  (hrows: ∀r∈xs,r.length=es) (hn:elems.length+xs.length=n) (hx:0<xs.length) (hcap:n≤cap) (hsz:cap*es≤c.size)
  (hc: ∀i j,i<n→j<es→(c.getD (i*es+j) undef).oneCell'=true∧bI w S (c.getD (i*es+j) undef) (((elems++xs).getD i []).getD j .dead)):
  ∃μ',ax (w.alloc (.cells c e)) S μ' nm.1 (.slice (some ⟨w.heap.size,0,none⟩) n cap) (.ay nm es n 0 n)∧aN (w.alloc (.cells c e)) S μ' (H.set nm (.arr es (elems++xs) vf false))∧
   Ev ℓ w S μ (w.alloc (.cells c e)) S μ':=by
 obtain⟨h0,k1,k2,k3,k4⟩:=hH.fY _ _ hg _ _ hb0;have hno: ∀b,μ nm n≠some b:=fun b hb=>by have:=(k4 n b hb).1;omega
 obtain⟨h1,h2⟩:=hH.yd ℓ (ae.cj hg) (w':=w.alloc (.cells c e)) (S':=S) (μ':=μ.jF nm n w.heap.size) (x:= .arr es (elems++xs) vf false) rfl rfl rfl (by rw [bM];omega)
  (fun _ h=>h) (fun b h=> .inl h) (fun b h=>by have:=hH.slt b h;rw [bM];omega) (fun k hk _=>bC w _ k hk) (eE w _) (lI w _) (fun q t h=>Mu.cB μ _ _ _ h)
  (fun t b h=>by
   by_cases et:t=n
   ·subst et;exact absurd h (hno b)
   ·rw [Mu.bX μ _ _ et];exact h)
  (fun t b h=>by
   by_cases et:t=n
   ·subst et;rw [Mu.bc]at h;cases h;exact .inr (Nat.le_refl _)
   ·rw [Mu.bX μ _ _ et]at h;exact .inl ⟨t,h⟩)
  (fun t b h=>by
   by_cases et:t=n
   ·subst et;rw [Mu.bc]at h;cases h;rw [bM];omega
   ·rw [Mu.bX μ _ _ et]at h;have:=hH.lt _ _ _ h;rw [bM];omega)
  (by
   refine⟨h0,fun r hr=> ?_,by simp;omega,⟨w.heap.size,by rw [List.length_append,hn];exact Mu.bc _ _ _ _⟩,fun top b hb=> ?_⟩
   ·rcases List.mem_append.1 hr with hr|hr
    ·exact k1 r hr
    ·exact hrows r hr
   ·by_cases et:top=n
    ·subst et;rw [Mu.bc]at hb;cases hb;refine⟨by rw [List.length_append];omega,⟨c,e,cu w _⟩,fun _ hS=> ?_,fun _=>⟨fun h=>(by cases h),fun i j hi hj=> ?_⟩⟩
     ·have:=hH.slt _ hS;omega
     ·obtain⟨z1,z2⟩:=hc i j hi hj;have hlt:i*es+j<c.size:=by have:=fJ (n:=cap) (show i<cap by omega) hj;omega
      refine⟨c.getD (i*es+j) undef, ?_,z1,z2.mono (fun _ h=>h) (fun b hb=>bC w _ b (hH.slt b hb))⟩;simp only [World.cell?,cu];simp [Array.getD_eq_getD_getElem?,hlt]
    ·rw [Mu.bX μ _ _ et]at hb;obtain⟨g1,⟨c2,e2,g2⟩,g3,g4⟩:=k4 top b hb;refine⟨by rw [List.length_append];omega,⟨c2,e2,by rw [bC w _ b (hH.lt _ _ _ hb)];exact g2⟩,g3,fun hv=>⟨fun h=>(by cases h),fun i j hi hj=> ?_⟩⟩;obtain⟨u,u1,u2,u3⟩:=(g4 hv).2 i j hi hj;have e3:(elems++xs).getD i []=elems.getD i []:=by
      simp [List.getD_eq_getElem?_getD,List.getElem?_append_left (show i<elems.length by omega)]
     exact⟨u,by rw [cQ (bC w _ b (hH.lt _ _ _ hb))];exact u1,u2,by rw [e3];exact u3.mono (fun _ h=>h) (fun b hb=>bC w _ b (hH.slt b hb))⟩)
 refine⟨_, ?_,h1,h2⟩
 have:=ax.ay (w:=w.alloc (.cells c e)) (S:=S) (μ:=μ.jF nm n w.heap.size) (ℓ:=nm.1) nm es n 0 n cap w.heap.size c.size e
  (Nat.le_refl _) (Mu.bc _ _ _ _) (by omega) (by omega) (by unfold World.shape?;rw [cu]) (by rw [Nat.zero_add];exact hsz)
 rw [Nat.zero_mul]at this;exact this
theorem wG {nm:Nm} {es vf cap b sz:Nat} {ek:TypeId} {elems xs:List (List PV)} {cells:Array Value} (hH:aN w S μ H) (hg:H.get nm=some (.arr es elems vf false)) (hvf:vf≤elems.length)
  (hrows: ∀r∈xs,r.length=es) (hx:0<xs.length) (hm:μ nm elems.length=some b) (hcap:elems.length+xs.length≤cap) (hsh:w.shape? b=some (ek,sz)) (hsz:cap*es≤sz)
  (hc:m6 w S cells xs es):
  ∃w' μ',(storeCells (⟨b,elems.length*es,none⟩:Addr) cells.toList).run P w= .ok () w'∧
   ax w' S μ' nm.1 (.slice (some ⟨b,0,none⟩) (elems.length+xs.length) cap) (.ay nm es (elems.length+xs.length) 0 (elems.length+xs.length))∧
   aN w' S μ' (H.set nm (.arr es (elems++xs) vf false))∧Ev ℓ w S μ w' S μ':=by
 obtain⟨h0,k1,k2,k3,k4⟩:=hH.fY _ _ hg _ _ hm;obtain⟨g1,⟨c,e,g2⟩,g3,g4⟩:=k4 _ b hm;have hnS:=g3 rfl;have hcs:c.size=sz:=(by unfold World.shape? at hsh;rw [g2]at hsh;simp at hsh;exact hsh.2);have hbnd:elems.length*es+cells.toList.length≤c.toList.length:=by
  have h1:=hc.1;have h2:(elems.length+xs.length)*es≤cap*es:=Nat.mul_le_mul_right _ hcap;rw [Nat.add_mul]at h2;simp;omega
 have hone: ∀v∈cells.toList,v.oneCell'=true:=by
  intro v hv;obtain⟨q,hq,rfl⟩:=List.getElem_of_mem hv;have hq':q<xs.length*es:=(by have:=hc.1;simp at hq;omega);have h1:q/es<xs.length:=(by rw [Nat.div_lt_iff_lt_mul h0];exact hq');have:=(hc.2 _ _ h1 (Nat.mod_lt q h0)).1;rw [Nat.div_add_mod' q es,dP,List.getD_eq_getElem?_getD,List.getElem?_eq_getElem hq]at this;exact this
 have hst:=run_storeCells_at (P:=P) b (elems.length*es) e cells.toList 0 c w g2 (by simpa using hbnd) hone;simp only [Nat.add_zero]at hst;have hsize:(aD c.toList (elems.length*es) cells.toList).toArray.size=c.size:=by
  simp only [List.size_toArray];rw [cG _ _ _ hbnd];simp
 have hno: ∀b',μ nm (elems.length+xs.length)=some b'→b'=b:=fun b' hb=>by have:=(k4 _ b' hb).1;omega
 have:=hH.row ℓ (x:= .arr es (elems++xs) vf false) (ae.cj hg) hm hnS g2 hsize (elems.length+xs.length) (by
  have cellc: ∀o,(w.setRow b (aD c.toList (elems.length*es) cells.toList).toArray).cell? ⟨b,o,none⟩=(aD c.toList (elems.length*es) cells.toList)[o]? :=fun o=>by
   rw [cell_setRow_same w b _ c _ e (0,0) g2];simp
  have old: ∀top b',μ nm top=some b'→vf≤top→ ∀i j,i<top→j<es→ ∃u,(w.setRow b (aD c.toList (elems.length*es) cells.toList).toArray).cell? ⟨b',i*es+j,none⟩=some u∧u.oneCell'=true∧
    bI (w.setRow b (aD c.toList (elems.length*es) cells.toList).toArray) S u (((elems++xs).getD i []).getD j .dead):=by
   intro top b' hb' hv i j hi hj;obtain⟨q1,q2,q3,q4⟩:=k4 top b' hb';obtain⟨u,u1,u2,u3⟩:=(q4 hv).2 i j hi hj;have e3:(elems++xs).getD i []=elems.getD i []:=by
    simp [List.getD_eq_getElem?_getD,List.getElem?_append_left (show i<elems.length by omega)]
   rw [e3];refine⟨u, ?_,u2,u3.setRow hnS _⟩;by_cases eb:b'=b
   ·subst eb;have hlt:i*es+j<elems.length*es:=fJ (by omega) hj;rw [cellc,di _ _ _ _ hbnd,if_pos hlt];simpa [World.cell?,g2]using u1
   ·rw [cell_setRow_other w b _ _ (by exact eb)];exact u1
  refine⟨h0,fun r hr=> ?_,by simp;omega,⟨b,by rw [List.length_append];exact Mu.bc _ _ _ _⟩,fun top b' hb'=> ?_⟩
  ·rcases List.mem_append.1 hr with hr|hr
   ·exact k1 r hr
   ·exact hrows r hr
  ·by_cases et:top=elems.length+xs.length
   ·subst et;rw [Mu.bc]at hb';cases hb';refine⟨by rw [List.length_append];exact Nat.le_refl _,⟨_,e,setRow_heap w b c _ e _ g2⟩,fun _=>hnS,fun _=>⟨fun h=>(by cases h),fun i j hi hj=> ?_⟩⟩;by_cases hio:i<elems.length
    ·exact old _ b hm hvf i j hio hj
    ·have hix:i-elems.length<xs.length:=(by omega);obtain⟨z1,z2⟩:=hc.2 (i-elems.length) j hix hj;have e3:(elems++xs).getD i []=xs.getD (i-elems.length) []:=by
      simp [List.getD_eq_getElem?_getD,List.getElem?_append_right (show elems.length≤i by omega)]
     have hidx:i*es+j=elems.length*es+((i-elems.length)*es+j):=by
      have:i=elems.length+(i-elems.length):=(by omega);rw [this,Nat.add_mul];simp;omega
     have hlt:=fJ (n:=xs.length) hix hj;have hq:(i-elems.length)*es+j<cells.toList.length:=(by have:=hc.1;simp;omega);rw [e3,cellc,di _ _ _ _ hbnd,if_neg (by omega),if_pos (by omega)];have e4:i*es+j-elems.length*es=(i-elems.length)*es+j:=(by omega);rw [e4];rw [dP,List.getD_eq_getElem?_getD,List.getElem?_eq_getElem hq]at z1 z2;exact⟨_,List.getElem?_eq_getElem hq,z1,z2.setRow hnS _⟩
   ·rw [Mu.bX μ _ _ et]at hb';obtain⟨q1,⟨c2,e2,q2⟩,q3,q4⟩:=k4 top b' hb';refine⟨by rw [List.length_append];omega, ?_,q3,fun hv=>⟨fun h=>(by cases h),old top b' hb' hv⟩⟩;by_cases eb:b'=b
    ·subst eb;exact⟨_,e,setRow_heap w b' c _ e _ g2⟩
    ·exact⟨c2,e2,by rw [setRow_other w b b' _ eb];exact q2⟩) hno
 refine⟨_,_,by simpa [aD]using hst, ?_,this.1,this.2⟩
 have hv:=ax.ay (w:=w.setRow b (aD c.toList (elems.length*es) cells.toList).toArray) (S:=S) (μ:=μ.jF nm (elems.length+xs.length) b) (ℓ:=nm.1) nm es (elems.length+xs.length) 0 (elems.length+xs.length) cap b sz ek
  (Nat.le_refl _) (Mu.bc _ _ _ _) (by omega) (by omega) (kq w b c _ e (0,0) g2 hsize b _ hsh) (by rw [Nat.zero_add];exact hsz)
 rw [Nat.zero_mul]at hv;simpa [aD]using hv
theorem rF {nm:Nm} {es vf b sz p:Nat} {ek:TypeId} {elems xs:List (List PV)} {cells:Array Value} (hH:aN w S μ H) (hg:H.get nm=some (.arr es elems vf false)) (hvf:vf≤elems.length)
  (hrows: ∀r∈xs,r.length=es) (hm:μ nm elems.length=some b) (hp:p+xs.length≤elems.length) (hsh:w.shape? b=some (ek,sz)) (hsz:elems.length*es≤sz)
  (hc:m6 w S cells xs es):
  ∃w',(storeCells (⟨b,p*es,none⟩:Addr) cells.toList).run P w= .ok () w'∧aN w' S μ (H.set nm (.arr es (aD elems p xs) elems.length false))∧Ev ℓ w S μ w' S μ:=by
 obtain⟨h0,k1,k2,k3,k4⟩:=hH.fY _ _ hg _ _ hm;obtain⟨g1,⟨c,e,g2⟩,g3,g4⟩:=k4 _ b hm;obtain⟨_,g5⟩:=g4 hvf;have hnS:=g3 rfl;have hcs:c.size=sz:=(by unfold World.shape? at hsh;rw [g2]at hsh;simp at hsh;exact hsh.2);have hbnd:p*es+cells.toList.length≤c.toList.length:=by
  have h1:=hc.1;have h2:(p+xs.length)*es≤elems.length*es:=Nat.mul_le_mul_right _ hp;rw [Nat.add_mul]at h2;simp;omega
 have hone: ∀v∈cells.toList,v.oneCell'=true:=by
  intro v hv;obtain⟨q,hq,rfl⟩:=List.getElem_of_mem hv;have hq':q<xs.length*es:=(by have:=hc.1;simp at hq;omega);have h1:q/es<xs.length:=(by rw [Nat.div_lt_iff_lt_mul h0];exact hq');have:=(hc.2 _ _ h1 (Nat.mod_lt q h0)).1;rw [Nat.div_add_mod' q es,dP,List.getD_eq_getElem?_getD,List.getElem?_eq_getElem hq]at this;exact this
 have hst:=run_storeCells_at (P:=P) b (p*es) e cells.toList 0 c w g2 (by simpa using hbnd) hone;simp only [Nat.add_zero]at hst;have hsize:(aD c.toList (p*es) cells.toList).toArray.size=c.size:=by
  simp only [List.size_toArray];rw [cG _ _ _ hbnd];simp
 have hsl:(aD elems p xs).length=elems.length:=cG _ _ _ hp;have hcl:cells.toList.length=xs.length*es:=by have:=hc.1;simpa using this
 have:=hH.row ℓ (x:= .arr es (aD elems p xs) elems.length false) (ae.cj hg) hm hnS g2 hsize elems.length (by
  rw [Mu.lO hm];refine⟨h0,fun r hr=> ?_,by omega,⟨b,by rw [hsl];exact hm⟩,fun top b' hb'=> ?_⟩
  ·unfold aD at hr;rcases List.mem_append.1 hr with hr|hr
   ·rcases List.mem_append.1 hr with hr|hr
    ·exact k1 r (List.mem_of_mem_take hr)
    ·exact hrows r hr
   ·exact k1 r (List.mem_of_mem_drop hr)
  ·obtain⟨q1,⟨c2,e2,q2⟩,q3,q4⟩:=k4 top b' hb';refine⟨by omega, ?_,fun _=>q3 rfl,fun hv=>⟨fun hro=>(by cases hro),fun i j hi hj=> ?_⟩⟩
   ·by_cases e':b'=b
    ·subst e';exact⟨_,e,setRow_heap w b' c _ e _ g2⟩
    ·exact⟨c2,e2,by rw [setRow_other w b b' _ e'];exact q2⟩
   ·obtain rfl:top=elems.length:=(by omega);rw [hm]at hb';cases hb';have hcell:(w.setRow b (aD c.toList (p*es) cells.toList).toArray).cell? ⟨b,i*es+j,none⟩=(aD c.toList (p*es) cells.toList)[i*es+j]? :=by
     rw [cell_setRow_same w b _ c _ e (0,0) g2];simp
    rw [hcell,di _ _ _ _ hbnd];obtain⟨u,u1,u2,u3⟩:=g5 i j hi hj;have u1':c.toList[i*es+j]? =some u:=(by simpa [World.cell?,g2]using u1);have egd:(aD elems p xs).getD i []=if i<p then elems.getD i []else if i<p+xs.length then xs.getD (i-p) []else elems.getD i []:=by
     simp only [List.getD_eq_getElem?_getD];rw [di _ _ _ _ hp];split
     ·rfl
     ·split<;>rfl
    rw [egd];by_cases c1:i<p
    ·have:(i+1)*es≤p*es:=Nat.mul_le_mul_right _ c1;rw [Nat.add_mul]at this;rw [if_pos (by omega),if_pos c1];exact⟨u,u1',u2,u3.setRow hnS _⟩
    ·have a1:p*es≤i*es:=Nat.mul_le_mul_right _ (by omega);by_cases c2:i<p+xs.length
     ·have hix:i-p<xs.length:=(by omega);obtain⟨z1,z2⟩:=hc.2 (i-p) j hix hj;have hidx:i*es+j=p*es+((i-p)*es+j):=by
       have:i=p+(i-p):=(by omega);rw [this,Nat.add_mul];simp;omega
      have hlt:=fJ (n:=xs.length) hix hj;have hq:(i-p)*es+j<cells.toList.length:=(by omega);rw [if_neg (by omega),if_pos (by omega),if_neg c1,if_pos c2];have e4:i*es+j-p*es=(i-p)*es+j:=(by omega);rw [e4];rw [dP,List.getD_eq_getElem?_getD,List.getElem?_eq_getElem hq]at z1 z2;exact⟨_,List.getElem?_eq_getElem hq,z1,z2.setRow hnS _⟩
     ·have a2:(p+xs.length)*es≤i*es:=Nat.mul_le_mul_right _ (by omega);rw [Nat.add_mul]at a2;rw [if_neg (by omega),if_neg (by omega),if_neg c1,if_neg c2];exact⟨u,u1',u2,u3.setRow hnS _⟩) (fun b' hb'=>by rw [hm]at hb';cases hb';rfl)
 rw [Mu.lO hm]at this;exact⟨_,by simpa [aD]using hst,this.1,this.2⟩
end
end
section
section
variable {w:World} {S:Nat→Prop} {μ:Mu} {H:ae} {P:Program} {ℓ:Nat}
theorem mV {old cells z:Array Value}{xs ys:List (List PV)}{size:Nat}(ho:m6 w S old xs size)(hc:m6 w S cells ys size):
  ∀i j,i<xs.length+ys.length→j<size→((old++cells++z).getD (i*size+j) undef).oneCell'=true∧bI w S ((old++cells++z).getD (i*size+j) undef) (((xs++ys).getD i []).getD j .dead):=by
 intro i j hi hj;have h1:=ho.1;have h2:=hc.1;by_cases c1:i<xs.length
 ·have hlt:=fJ (n:=xs.length) c1 hj;rw [gD _ _ _ _ (by simp;omega),gD _ _ _ _ (by omega)];have e3:(xs++ys).getD i []=xs.getD i []:=(by simp [List.getD_eq_getElem?_getD,List.getElem?_append_left c1]);rw [e3];exact ho.2 i j c1 hj
 ·have hix:i-xs.length<ys.length:=(by omega);have hlt:=fJ (n:=ys.length) hix hj;have hidx:i*size+j=xs.length*size+((i-xs.length)*size+j):=by
   have:i=xs.length+(i-xs.length):=(by omega);rw [this,Nat.add_mul];simp;omega
  rw [gD _ _ _ _ (by simp;omega),nM _ _ _ _ (by omega)];have e3:(xs++ys).getD i []=ys.getD (i-xs.length) []:=by simp [List.getD_eq_getElem?_getD,List.getElem?_append_right (show xs.length≤i by omega)]
  have e4:i*size+j-old.size=(i-xs.length)*size+j:=(by omega);rw [e3,e4];exact hc.2 _ j hix hj
theorem sL (K : Ctx) {k l key : Nat} {t : TypeId} {s x : GV} {vs vx : Value} {v : GV} {H' : ae} {ats : Array TypeId} {ty : TypeId} (hH : aN w S μ H) (hs : ax w S μ k vs s) (hx : ax w S μ k vx x)
    (hk : k = H.length - 1) (h0 : ats[0]? = some t) (h1 : dQ K.P ats[1]? = true) (h : l5 K H l key t s x = some (v, H')) :
    jE ℓ w S μ H ((do pure (Next.value (← Builtin.append_ ats ty #[vs, vx])) : Sem Next).run K.P w) v H' := by
  unfold l5 at h
  split at h
  · rename_i e hu0
    have hu := cJ hu0
    split at h
    · rename_i size bytes xs H1 hsz hby hge
      split at h
      · rename_i hcond
        simp only [Bool.and_eq_true, decide_eq_true_eq, List.all_eq_true, beq_iff_eq] at hcond
        obtain ⟨⟨⟨⟨hzs, hrows⟩, hpos⟩, hb0⟩, hb1⟩ := hcond
        obtain ⟨S1, a1, a2, a3, a4, a5⟩ := nH ℓ (P := K.P) hH hx hge hpos hrows
        have hlen1 : H1.length = H.length := a3.1
        obtain ⟨cells, c1, c2⟩ := a5 w rfl
        split at h
        ·
          cases hs with | aO a =>
          split at h
          · rename_i hmax
            split at h
            · rename_i hemp
              simp only [Option.some.injEq, Prod.mk.injEq] at h
              obtain ⟨rfl, rfl⟩ := h
              obtain rfl : xs = [] := by simpa using hemp
              have hcz : cells = #[] := Array.eq_empty_of_size_eq_zero (by simpa using c2.1)
              subst hcz
              have hst : (match a with | some a => storeCells (a.add (0 * size)) (#[] : Array Value).toList | none => pure ()).run K.P w = .ok () w := by
                cases a <;> simp [storeCells]
              have := dy (ty := ty) h0 h1 hu hsz (a4 w) c1 (Nat.le_refl 0) hst (r := .ok () w)
              simp only [List.length_nil, Nat.add_zero] at this
              exact ⟨_, _, w, S1, μ, by simp [this], .inl rfl, .aO a, a1, a2, hlen1⟩
            · rename_i hemp
              have hx0 : 0 < xs.length := by cases xs; simp at hemp; simp
              split at h
              · rename_i nm H2 hnew
                simp only [Option.some.injEq, Prod.mk.injEq] at h
                obtain ⟨rfl, rfl⟩ := h
                obtain ⟨z, z1, z2⟩ := mc hzs w.drew
                obtain ⟨cells2, d1, d2⟩ := a5 w.drew rfl
                have hold : (Builtin.firstCells size 0 (.slice a 0 0)).run K.P w.drew = .ok #[] w.drew := by cases a <;> simp [Builtin.firstCells, loadCells, loadCellsFrom]
                obtain ⟨newCap, n1, n2⟩ := dU (ty := ty) (cap := 0) (len := 0) h0 h1 hu hsz hby hb0 hb1 (by simpa using hmax) (a4 w) hold d1 z1 (by omega)
                obtain ⟨b1, b2⟩ := a1.drew (ℓ := ℓ)
                have hthree := mV (w := w) (S := S1) (old := #[]) (z := Builtin.zeroCells z.cells (newCap - (0 + xs.length))) (xs := []) ⟨by simp, by simp⟩ d2
                obtain ⟨μ', e1, e2, e3, e4⟩ := qv (ℓ := ℓ) (c := #[] ++ cells2 ++ Builtin.zeroCells z.cells (newCap - (0 + xs.length))) (e := e) (n := xs.length) (cap := newCap) b1 hnew hpos hrows rfl (by omega)
                  (by simp only [Array.size_append, dh, z2, d2.1, Array.size_empty]
                      have : newCap = xs.length + (newCap - (0 + xs.length)) := by omega
                      rw [this, Nat.add_mul]; simp) (fun i j hi hj => by
                        have := hthree i j (by simpa using hi) hj
                        simp only [List.nil_append] at this
                        have h9 : ∀ {u p}, bI w S1 u p → bI w.drew S1 u p := fun h => bI.mono (w := w) (w' := w.drew) (fun _ h => h) (fun _ _ => rfl) h
                        exact ⟨this.1, h9 this.2⟩)
                simp only [Nat.zero_add] at n2 e1 e2 e3
                exact ⟨_, _, _, S1, μ', by simp [n2], .inl rfl, e1, e2, (a2.trans b2).trans e3, by omega⟩
              · cases h
          · cases h
        ·
          rename_i nm es top lo len
          cases hs with
          | ay _ _ _ _ _ cap b n ek q1 q2 q3 q4 q5 q6 =>
          split at h
          · rename_i es' elems vf ro hg
            split at h
            · rename_i hcond2
              obtain ⟨rfl, rfl, rfl, rfl, rfl, hvf, rfl, hmax⟩ := hcond2
              obtain ⟨h00, k1, k2, k3, k4⟩ := a1.fY _ _ hg _ _ q2
              obtain ⟨g1, ⟨c0, e0, g2⟩, g3, g4⟩ := k4 _ b q2
              split at h
              · rename_i hemp
                simp only [Option.some.injEq, Prod.mk.injEq] at h
                obtain ⟨rfl, rfl⟩ := h
                obtain rfl : xs = [] := by simpa using hemp
                have hcz : cells = #[] := Array.eq_empty_of_size_eq_zero (by simpa using c2.1)
                subst hcz
                have := dy (ty := ty) (base := some ⟨b, 0 * es, none⟩) (cap := cap) h0 h1 hu hsz (a4 w) c1 (by simpa using q3) (by simp [storeCells]; rfl) (r := .ok () w)
                simp only [List.length_nil, Nat.add_zero] at this
                refine ⟨_, _, w, S1, μ, by simp only [Sem.run_bind, this, Result.andThen_ok]; rfl, .inl rfl, ?_, a1, a2, hlen1⟩
                have hv := ax.ay (w := w) (S := S1) (μ := μ) (ℓ := H1.length - 1) nm es elems.length 0 elems.length cap b n ek (by omega) q2 q3 q4 q5 q6
                exact hv
              · rename_i hemp
                have hx0 : 0 < xs.length := by cases xs; simp at hemp; simp
                simp only [Option.some.injEq, Prod.mk.injEq] at h
                obtain ⟨rfl, rfl⟩ := h
                by_cases hfit : elems.length + xs.length ≤ cap
                · obtain ⟨w', μ', r1, r2, r3, r4⟩ := wG (ℓ := ℓ) (P := K.P) a1 hg hvf hrows hx0 q2 hfit q5 (by simpa using q6) c2
                  have := dy (ty := ty) (base := some ⟨b, 0 * es, none⟩) (len := elems.length) (cap := cap) h0 h1 hu hsz (a4 w) c1 hfit (w' := w')
                    (by simp only [Nat.zero_mul]; rw [cS, Nat.zero_add]; exact r1) (r := .ok () w)
                  refine ⟨_, _, w', S1, μ', by simp only [Sem.run_bind, this, Result.andThen_ok]; rfl, .inl rfl, ?_, r3, a2.trans r4, by rw [ae.length_set]; exact hlen1⟩
                  rw [Nat.zero_mul]
                  exact r2.up (by rw [ae.length_set]; have := ae.cj hg; omega)
                · obtain ⟨z, z1, z2⟩ := mc hzs w.drew
                  obtain ⟨cells2, d1, d2⟩ := a5 w.drew rfl
                  obtain ⟨_, g5⟩ := g4 hvf
                  obtain ⟨old, o1, o2, o3⟩ := iy (w := w) (w2 := w.drew) (P := K.P) (b := b) (o := 0 * es) (n := elems.length) rfl hpos (fun i j => (w.cell? ⟨b, i * es + j, none⟩).getD undef) (fun i j hi hj => by
                    obtain ⟨u, u1, u2, u3⟩ := g5 i j hi hj
                    rw [Nat.zero_mul, Nat.zero_add, u1]; rfl)
                  have hor : m6 w S1 old elems es := ⟨o2, fun i j hi hj => by
                    obtain ⟨u, u1, u2, u3⟩ := g5 i j hi hj
                    rw [o3 i j hi hj, u1]; exact ⟨u2, u3⟩⟩
                  obtain ⟨newCap, n1, n2⟩ := dU (ty := ty) (base := some ⟨b, 0 * es, none⟩) (cap := cap) (len := elems.length) h0 h1 hu hsz hby hb0 hb1 hmax (a4 w) (by simpa [Builtin.firstCells] using o1) d1 z1 hfit
                  obtain ⟨b1, b2⟩ := a1.drew (ℓ := ℓ)
                  have hthree := mV (z := Builtin.zeroCells z.cells (newCap - (elems.length + xs.length))) hor d2
                  obtain ⟨μ', e1, e2, e3⟩ := yl (ℓ := ℓ) (c := old ++ cells2 ++ Builtin.zeroCells z.cells (newCap - (elems.length + xs.length))) (e := e) (n := elems.length + xs.length) (cap := newCap) b1 hg q2 hvf hrows rfl hx0 n1
                    (by simp only [Array.size_append, dh, z2, d2.1, o2]
                        have : newCap = elems.length + xs.length + (newCap - (elems.length + xs.length)) := by omega
                        rw [this, Nat.add_mul, Nat.add_mul]; simp) (fun i j hi hj => by
                          have := hthree i j hi hj
                          exact ⟨this.1, bI.mono (w := w) (w' := w.drew) (fun _ h => h) (fun _ _ => rfl) this.2⟩)
                  refine ⟨_, _, _, S1, μ', by simp only [Sem.run_bind, n2, Result.andThen_ok]; rfl, .inl rfl, ?_, e2, (a2.trans b2).trans e3, by rw [ae.length_set]; exact hlen1⟩
                  exact e1.up (by rw [ae.length_set]; have := ae.cj hg; omega)
            · split at h
              ·
                rename_i hcond2
                obtain ⟨rfl, rfl, rfl, hvf, rfl, hin⟩ := hcond2
                obtain ⟨h00, k1, k2, k3, k4⟩ := a1.fY _ _ hg _ _ q2
                split at h
                · rename_i hemp
                  simp only [Option.some.injEq, Prod.mk.injEq] at h
                  obtain ⟨rfl, rfl⟩ := h
                  obtain rfl : xs = [] := by simpa using hemp
                  have hcz : cells = #[] := Array.eq_empty_of_size_eq_zero (by simpa using c2.1)
                  subst hcz
                  have := dy (ty := ty) (base := some ⟨b, lo * es, none⟩) (len := len) (cap := cap) h0 h1 hu hsz (a4 w) c1 (by simp; omega) (by simp [storeCells]; rfl) (r := .ok () w)
                  simp only [List.length_nil, Nat.add_zero] at this
                  refine ⟨_, _, w, S1, μ, by simp only [Sem.run_bind, this, Result.andThen_ok]; rfl, .inl rfl, ?_, a1, a2, hlen1⟩
                  exact ax.ay (w := w) (S := S1) (μ := μ) (ℓ := H1.length - 1) nm es elems.length lo len cap b n ek (by omega) q2 q3 q4 q5 q6
                · rename_i hemp
                  simp only [Option.some.injEq, Prod.mk.injEq] at h
                  obtain ⟨rfl, rfl⟩ := h
                  have hsz2 : elems.length * es ≤ n := Nat.le_trans (Nat.mul_le_mul_right _ q3) q6
                  obtain ⟨w', r1, r3, r4⟩ := rF (ℓ := ℓ) (P := K.P) (p := lo + len) a1 hg hvf hrows q2 hin q5 hsz2 c2
                  have hfit : len + xs.length ≤ cap := by omega
                  have := dy (ty := ty) (base := some ⟨b, lo * es, none⟩) (len := len) (cap := cap) h0 h1 hu hsz (a4 w) c1 hfit (w' := w')
                    (by simp only; rw [cS, ← Nat.add_mul]; exact r1) (r := .ok () w)
                  refine ⟨_, _, w', S1, μ, by simp only [Sem.run_bind, this, Result.andThen_ok]; rfl, .inl rfl, ?_, r3, a2.trans r4, by rw [ae.length_set]; exact hlen1⟩
                  exact ax.ay (w := w') (S := S1) (μ := μ) nm es elems.length lo (len + xs.length) cap b n ek (by rw [ae.length_set]; omega) q2 q3 (by omega) (r4.zp _ _ q5) q6
              · cases h
          · cases h
        · cases h
      · cases h
    · cases h
  · cases h
theorem uJ {t e:TypeId} {len size d:Nat} {parts:Array (Nat×Operand)} {a:Act} {s:aS} {z:GV} {zs cs:List GV} {ps:List PV} {nm:Nm} {H':ae} (hH:aN w S μ H)
  (hs: ∀t,ax w S μ (H.length-1) (a.tmps.getD t undef) (look s t)) (hu:cU P t=some e) (hsz:aZ P e=some size) (hz:b8 P e=some z) (hzc:bm z=some zs)
  (hzl:zs.length=size) (hpos:0<size) (hmax:len*size≤16777216)
  (h:db (fun i=>some (i*size,size)) (List.replicate len zs).flatten (parts.toList.map (qo s))=some cs) (hp:bd (cs.map cb)=some ps)
  (hnew:fK H d (.arr size (chunks size len ps) 0 false)=some (nm,H')):
  jE ℓ w S μ H ((do pure (Next.value (←Instr.buildSlice t len (parts.map fun x=>(x.1,a.eval x.2)))):Sem Next).run P w) (.ay nm size len 0 len) H':=by
 obtain⟨c,h1,h2,h3⟩:=gi hH hs hu hsz hz hzc hzl hpos hmax h;have h1':=gh h1;rw [dG hp]at h1';obtain⟨q1,q2⟩:=bz.mG _ _ h1';have hpl:ps.length=len*size:=(by have:=h1.length;simp at q1 this;omega);have hck:c.size=len*size:=(by simp at q1;omega);obtain⟨μ',e1,e2,e3,e4⟩:=qv (ℓ:=ℓ) (c:=c) (e:=e) (n:=len) (cap:=len) hH hnew hpos (ky hpl) (bP _ _ _) (Nat.le_refl _) (by omega) (fun i j hi hj=>by
  have hlt:=fJ hi hj;rw [dP,gS PV.dead i j hi hj];exact q2 _ (by omega))
 exact⟨_,_,_,S,μ',by simp [h3], .inl rfl,e1,e2,e3,e4⟩
theorem sK {t e:TypeId} {len size d:Nat} {parts:Array (Nat×Operand)} {a:Act} {s:aS} {z:GV} {zs cs:List GV} {nm:Nm} {H':ae} (hH:aN w S μ H)
  (hs: ∀t,ax w S μ (H.length-1) (a.tmps.getD t undef) (look s t)) (hu:cU P t=some e) (hsz:aZ P e=some size) (hz:b8 P e=some z) (hzc:bm z=some zs)
  (hzl:zs.length=size) (hpos:0<size) (hmax:len*size≤16777216)
  (h:db (fun i=>some (i*size,size)) (List.replicate len zs).flatten (parts.toList.map (qo s))=some cs)
  (hnew:fK (bp H cs).2 d (.arr size (chunks size len (bp H cs).1) 0 false)=some (nm,H')):
  jE ℓ w S μ H ((do pure (Next.value (←Instr.buildSlice t len (parts.map fun x=>(x.1,a.eval x.2)))):Sem Next).run P w) (.ay nm size len 0 len) H':=by
 obtain⟨c,h1,h2,h3⟩:=gi hH hs hu hsz hz hzc hzl hpos hmax h;obtain⟨S1,a1,a2,a3,a4⟩:=fH ℓ hH h1;generalize hps:(bp H cs).1=ps at a3 hnew;obtain⟨q1,q2⟩:=bz.mG _ _ a3;have hcl:=h1.length;have hpl:ps.length=len*size:=(by simp at q1 hcl;omega);have hck:c.size=len*size:=(by simp at q1;omega);obtain⟨μ',e1,e2,e3,e4⟩:=qv (ℓ:=ℓ) (c:=c) (e:=e) (n:=len) (cap:=len) a1 hnew hpos (ky hpl) (bP _ _ _) (Nat.le_refl _) (by omega) (fun i j hi hj=>by
  have hlt:=fJ hi hj;rw [dP,gS PV.dead i j hi hj];exact q2 _ (by omega))
 exact⟨_,_,_,S1,μ',by simp [h3], .inl rfl,e1,e2,a2.trans e3,e4.trans a4.1⟩
theorem wrap_small {n:Int}(h0:0≤n)(h1:n≤1099511627776):IntKind.i64.wrap n=n:=by
 simp only [IntKind.wrap,IntKind.signed,IntKind.bits];simp;omega
theorem qj {t e:TypeId} {size bytes d:Nat} {z:GV} {zs:List GV} {ps:List PV} {l c:Int} {kl kc:IntKind} {nm:Nm} {H':ae} (hH:aN w S μ H)
  (hu:cU P t=some e) (hsz:aZ P e=some size) (hby:iI P e=some bytes) (hz:b8 P e=some z) (hzc:bm z=some zs) (hp:bd (zs.map cb)=some ps)
  (hpl:ps.length=size) (hpos:0<size) (hb0:0<bytes) (hl0:0≤l) (hlc:l≤c) (hcb:c*bytes≤1099511627776)
  (hnew:fK H d (.arr size (List.replicate l.toNat ps) 0 false)=some (nm,H')):
  jE ℓ w S μ H ((do pure (Next.value (←Instr.makeSlice t (.int kl l) (.int kc c))):Sem Next).run P w) (.ay nm size l.toNat 0 l.toNat) H':=by
 obtain⟨v,hv1,rfl⟩:=lG (P:=P) w hz;have hc:=dL (dF (w:=w) (S:=S) (μ:=μ) (ℓ:=H.length-1) v) hzc;have hc':=gh hc;rw [dG hp]at hc';obtain⟨q1,q2⟩:=bz.mG _ _ hc';have hvl:v.cells.size=size:=(by simp at q1;omega);obtain⟨i,hi,rfl⟩:=uQ (P:=P) w hby;have hcmax:c≤1099511627776:=by
  have:c*1≤c*(i.bytes:Int):=Int.mul_le_mul_of_nonneg_left (by omega) (by omega);omega
 have hw1:IntKind.i64.wrap l=l:=wrap_small hl0 (by omega);have hw2:IntKind.i64.wrap c=c:=wrap_small (by omega) hcmax;have htl: ¬((281474976710656:Int)<(i.bytes:Int)*c):=(by rw [Int.mul_comm];omega);have hcells:((Array.range (c.toNat*size)).map (v.cells[· %v.cells.size]!)).toList=(List.replicate c.toNat v.cells.toList).flatten:=by rw [←hvl];exact oK v.cells c.toNat
 have hrun: ∃cs:Array Value,cs.toList=(List.replicate c.toNat v.cells.toList).flatten∧
   (Instr.makeSlice t (.int kl l) (.int kc c)).run P w= .ok (.slice (some ⟨w.heap.size,0,none⟩) l.toNat c.toNat) (w.alloc (.cells cs e)):=by
  by_cases h0:c.toNat*size=0
  ·have hc0:c.toNat=0:=by rcases Nat.mul_eq_zero.1 h0 with h|h<;>omega
   have e0: ∀f:Nat→Value,Array.map f (Array.range 0)= #[]:=fun f=>Array.eq_empty_of_size_eq_zero (by simp);have hci:c=0:=(by omega);have hli:l=0:=(by omega);subst hci;subst hli;refine⟨#[],by simp, ?_⟩;have hwz:IntKind.i64.wrap 0=0:=hw1;simp [Instr.makeSlice,aC w (cJ hu),asInt,asIntOf,hi,hwz,cM w hsz,newRow,e0]
  ·refine⟨_,hcells, ?_⟩;have hlt: ¬l<0:=(by omega);have hlc': ¬l>c:=(by omega);have hcn: ¬c<0:=(by omega);simp only [Nat.mul_eq_zero]at h0;simp [Instr.makeSlice,aC w (cJ hu),asInt,asIntOf,hi,hw1,hw2,hlt,hlc',hcn,htl,cM w hsz,hv1,newRow,h0];intro hh;exact absurd (Nat.mul_eq_zero.1 hh) h0
 obtain⟨cs,cs1,cs2⟩:=hrun;have hcsz:cs.size=c.toNat*size:=(by have:=congrArg List.length cs1;simp [List.length_flatten,hvl]at this;exact this);obtain⟨μ',e1,e2,e3,e4⟩:=qv (ℓ:=ℓ) (c:=cs) (e:=e) (n:=l.toNat) (cap:=c.toNat) hH hnew hpos (fun r hr=>by rw [(List.mem_replicate.1 hr).2];exact hpl) (by simp) (by omega) (by omega) (fun i' j hi' hj=>by
  have hget:cs.getD (i'*size+j) undef=v.cells.toList.getD j undef:=by
   have hlt:=fJ (n:=c.toNat) (show i'<c.toNat by omega) hj
   have hin:i'*size+j<((Array.range (c.toNat*size)).map (v.cells[· %v.cells.size]!)).toList.length:=(by simpa using hlt);obtain⟨d1,d2⟩:=uP (i:=i') hj;rw [dP,cs1,←hcells,List.getD_eq_getElem?_getD,List.getElem?_eq_getElem hin];simp [hvl,d2,List.getD_eq_getElem?_getD];rw [Array.getElem?_eq_getElem (show j<v.cells.size by omega)]
   simp [getElem!_pos,show j<v.cells.size by omega]
  have hrow:(List.replicate l.toNat ps).getD i' []=ps:=(by simp [List.getD_eq_getElem?_getD,List.getElem?_replicate,hi']);rw [hget,hrow];exact q2 j (by omega))
 exact⟨_,_,_,S,μ',by simp [cs2], .inl rfl,e1,e2,e3,e4⟩
theorem uM (K:Ctx) {t ty:TypeId} {ats:Array TypeId} {k:Nat} {va:Value} {x:GV} {H':ae} {args:Array Value} (hH:aN w S μ H) (hx:ax w S μ k va x) (ht:ats[0]? =some t) (ha:args[0]? =some va)
  (h:oy K t H x=some H'):
  ∃w',(Builtin.clear_ ats ty args).run K.P w= .ok (.tuple #[]) w'∧aN w' S μ H'∧Ev ℓ w S μ w' S μ∧H'.length=H.length:=by
 unfold oy at h;split at h
 ·rename_i e hu;split at h
  ·rename_i size z nm es top lo len hsz hz;split at h
   ·rename_i zs es' elems vf ro hzc hg;split at h
    ·rename_i ps hp;split at h
     ·rename_i hc;obtain⟨rfl,rfl,hpl,rfl,hvf,rfl,hin,hlen⟩:=hc;simp only [Option.some.injEq]at h;subst h
      cases hx with
      |ay _ _ _ _ _ cap b n ek q1 q2 q3 q4 q5 q6=>
      obtain⟨h0,k1,k2,k3,k4⟩:=hH.fY _ _ hg _ _ q2;obtain⟨v,hv1,rfl⟩:=lG (P:=K.P) w hz;have hcr:=dL (dF (w:=w) (S:=S) (μ:=μ) (ℓ:=H.length-1) v) hzc;have hc':=gh hcr;rw [dG hp]at hc';obtain⟨p1,p2⟩:=bz.mG _ _ hc';have hvl:v.cells.size=es:=(by simp at p1;omega);have hcells:(Builtin.zeroCells v.cells len).toList=(List.replicate len v.cells.toList).flatten:=oK v.cells len;have hR:m6 w S (Builtin.zeroCells v.cells len) (List.replicate len ps) es:=by
       refine⟨by rw [dh,hvl];simp,fun i j hi hj=> ?_⟩;have hi':i<len:=(by simpa using hi);have hlt:=fJ (n:=len) hi' hj;obtain⟨d1,d2⟩:=uP (i:=i) hj;have hget:(Builtin.zeroCells v.cells len).getD (i*es+j) undef=v.cells.toList.getD j undef:=by
        rw [dP,List.getD_eq_getElem?_getD,List.getElem?_eq_getElem (by rw [Array.length_toList,dh,hvl];exact hlt)];simp [Builtin.zeroCells,hvl,d2,List.getD_eq_getElem?_getD];rw [getElem!_pos v.cells j (by omega),Array.getElem?_eq_getElem (by omega)];rfl
       have hrp:(List.replicate len ps).getD i []=ps:=(by simp [List.getD_eq_getElem?_getD,hi']);rw [hget,hrp];exact p2 j (by omega)
      have hsz2:elems.length*es≤n:=Nat.le_trans (Nat.mul_le_mul_right _ q3) q6;obtain⟨w',r1,r3,r4⟩:=rF (ℓ:=ℓ) (P:=K.P) (p:=lo) hH hg hvf (fun r hr=>by rw [(List.mem_replicate.1 hr).2];exact hpl) q2 (by simpa using hin) q5 hsz2 hR;obtain⟨m,rfl⟩: ∃m,len=m+1:=⟨len-1,by omega⟩;refine⟨w', ?_,r3,r4,ae.length_set _ _ _⟩;simp [Builtin.clear_,ht,ha,aC w (cJ hu),hv1,r1]
     ·cases h
    ·cases h
   ·cases h
  ·cases h
 ·cases h
end
end
section
def bQ:PV→Value
 | .int k n=> .int k n
 | .bool b=> .bool b
 | .str l=> .string ⟨l.toArray⟩
 |_=>undef
def LU (P:Program)(t:TypeId)(ks:List SK):Prop:=
 P.eqGuardType P.depth t=false∧ ∀(a b:List PV) (q:Bool),bK ks a b=some q→ ∀w,(Op.equalIn 10000 t (.agg (a.map bQ).toArray) (.agg (b.map bQ).toArray)).run P w= .ok q w∧
  ∀e,(Instr.checkKey e 10000 t (.agg (a.map bQ).toArray)).run P w= .ok () w
def uR (P:Program)(f:FuncId):Prop:=
 ∀(w:World) (a:Option Addr) (cap:Nat),(callFunc f #[.slice a 0 cap]).run P w= .ok (.enter f #[.slice a 0 cap]) w∧
  CallsIn {Fence.wide with round:=none} 0 P f #[.slice a 0 cap] w fun e w'=>(∃a',e= .returned (.slice a' 0 0))∧w'.os=w.os∧w'.tape=w.tape∧w'.output=w.output∧w.heap.size≤w'.heap.size∧
   ∀b,b<w.heap.size→w'.heap[b]? =w.heap[b]?
structure fE (K:Ctx):Prop where
 vw: ∀f,K.vw f=true→uR K.P f
 eqs: ∀t ks,K.eqs t=some ks→LU K.P t ks
 mixed:K.P.follows .mixedOrders=true
section
variable {w:World} {S:Nat→Prop} {μ:Mu} {H:ae} {P:Program} {ℓ:Nat}
theorem ru {v:Value}{p:PV}(h:bI w S v p)(hp:(∃k n,p= .int k n)∨(∃b,p= .bool b)∨ ∃l,p= .str l):v=bQ p:=by
 rcases hp with ⟨k,n,rfl⟩|⟨b,rfl⟩|⟨l,rfl⟩
 ·cases h;rfl
 ·cases h;rfl
 ·cases h;simp [bQ]
theorem ko: ∀(ks:List SK) (a b:List PV) (q:Bool),bK ks a b=some q→(∀p∈a,(∃k n,p= .int k n)∨(∃b,p= .bool b)∨ ∃l,p= .str l)∧(∀p∈b,(∃k n,p= .int k n)∨(∃b,p= .bool b)∨ ∃l,p= .str l)
 | [],a,b,q,h=>by
  cases a<;>cases b<;>simp [bK]at h
  simp
 |s::ks,[],b,q,h=>by cases s<;>cases b<;>simp [bK]at h
 |s::ks,x::a,[],q,h=>by cases s<;>cases x<;>simp [bK]at h
 |s::ks,x::a,y::b,q,h=>by
  have key: ∀q',bK ks a b=some q'→((∃k n,x= .int k n)∨(∃b,x= .bool b)∨ ∃l,x= .str l)→((∃k n,y= .int k n)∨(∃b,y= .bool b)∨ ∃l,y= .str l)→
    (∀p∈x::a,(∃k n,p= .int k n)∨(∃b,p= .bool b)∨ ∃l,p= .str l)∧(∀p∈y::b,(∃k n,p= .int k n)∨(∃b,p= .bool b)∨ ∃l,p= .str l):=by
   intro q' h1 hx hy;obtain⟨i1,i2⟩:=ko ks a b q' h1;exact⟨fun p hp=>by rcases List.mem_cons.1 hp with rfl|hp;exact hx;exact i1 p hp,fun p hp=>by rcases List.mem_cons.1 hp with rfl|hp;exact hy;exact i2 p hp⟩
  cases s with
  |int k=>
   cases x<;>cases y<;>simp [bK]at h
   split at h
   ·rename_i q' hq';exact key q' hq' (.inl ⟨_,_,rfl⟩) (.inl ⟨_,_,rfl⟩)
   ·simp at h
  |bool=>
   cases x<;>cases y<;>simp only [bK]at h
   all_goals first|(cases h;done)|skip
   split at h
   ·rename_i q' hq';exact key q' hq' (.inr (.inl ⟨_,rfl⟩)) (.inr (.inl ⟨_,rfl⟩))
   ·cases h
  |str=>
   cases x<;>cases y<;>simp only [bK]at h
   all_goals first|(cases h;done)|skip
   split at h
   ·rename_i q' hq';exact key q' hq' (.inr (.inr ⟨_,rfl⟩)) (.inr (.inr ⟨_,rfl⟩))
   ·cases h
theorem kn {k:Nat}: ∀{vs:List Value} {a:List PV},bz w S μ k vs (a.map .pure)→(∀p∈a,(∃k n,p= .int k n)∨(∃b,p= .bool b)∨ ∃l,p= .str l)→vs=a.map bQ
 |vs,[],h,_=>by cases h;rfl
 |vs,x::a,h,hp=>by
  cases h with
  |cons h1 h2 h3=>rw [List.map_cons,ru h2.pv (hp x (by simp)),kn h3 (fun p hq=>hp p (by simp [hq]))]
theorem nN (k:IntKind)(n:Int):bI w S (bQ (.int k n)) (.int k n):= .int k n
theorem nO (b:Bool):bI w S (bQ (.bool b)) (.bool b):= .bool b
theorem pE (d:Nat){t e:TypeId}{b:Addr}{len cap:Nat}(hu:P.underlying t=some (.slice e)):(Op.equalIn (d+1) t (.slice (some b) len cap) (.slice none 0 0)).run P w= .ok false w:=by
 simp [Op.equalIn,aC w hu]
theorem Gu {t e:TypeId}{b:Addr}{len cap:Nat}(hu:P.underlying t=some (.slice e)):(binOp .eql t (.slice (some b) len cap) (.slice none 0 0)).run P w= .ok (.bool false) w:=by
 have:=pE (w:=w) 9999 (b:=b) (len:=len) (cap:=cap) hu;simp only [binOp];simp only [Op.equal,Op.maxDepth,Sem.run_bind,this,Result.andThen_ok,Sem.run_pure]
theorem Gv {t e:TypeId}{b:Addr}{len cap:Nat}(hu:P.underlying t=some (.slice e)):(binOp .neq t (.slice (some b) len cap) (.slice none 0 0)).run P w= .ok (.bool true) w:=by
 have:=pE (w:=w) 9999 (b:=b) (len:=len) (cap:=cap) hu;simp only [binOp];simp only [Op.equal,Op.maxDepth,Sem.run_bind,this,Result.andThen_ok,Sem.run_pure,Bool.not_false]
theorem rG {k:Nat}{a:GV}{va:Value}(ha:ax w S μ k va a)(h:rH a=true): ∃b len cap,va= .slice (some b) len cap:=by
 cases ha with
 |ay nm es top lo len cap b n e0 hl hm hc ht hs hn=>exact⟨_,_,_,rfl⟩
 |lits b o cap es l f hS he hes hf h1 hr=>exact⟨_,_,_,rfl⟩
 |pure v q hq=>
  cases hq with
  |slice b o cap es l f hS he hes hf h1 hr hc=>exact⟨_,_,_,rfl⟩
  |_=>simp [rH]at h
 |_=>simp [rH]at h
theorem uL (K:Ctx){k:Nat}{op:BinOp}{t:TypeId}{x y:Operand}{a:GV}{va:Value}{p:PV}(ha:ax w S μ k va a)(h:fC K op t a=some p):
  ∃u,(eqGuard op t x y va (.slice none 0 0)).run K.P w= .ok () w∧(binOp op t va (.slice none 0 0)).run K.P w= .ok u w∧bI w S u p:=by
 unfold fC at h;split at h
 ·rename_i e hu;split at h
  ·rename_i hn;obtain⟨b,len,cap,rfl⟩:=rG ha hn;cases h;exact⟨_,by simp [eqGuard],Gu hu, .bool false⟩
  ·cases h
 ·rename_i e hu;split at h
  ·rename_i hn;obtain⟨b,len,cap,rfl⟩:=rG ha hn;cases h;exact⟨_,by simp [eqGuard],Gv hu, .bool true⟩
  ·cases h
 ·cases h
theorem AH {y:Operand}(h:m7 y=true):y= .const (.slice none 0 0):=by
 unfold m7 at h;split at h
 ·rfl
 ·cases h
theorem yi (K:Ctx)(hK:fE K){k:Nat}{op:BinOp}{t:TypeId}{x y:Operand}{a b:GV}{va vb:Value}{p:PV}(ha:ax w S μ k va a)(hb:ax w S μ k vb b)(h:eA K op t a b=some p):
  ∃u,(eqGuard op t x y va vb).run K.P w= .ok () w∧(binOp op t va vb).run K.P w= .ok u w∧bI w S u p:=by
 unfold eA at h;split at h
 ·
  rename_i k1 n1 k2 n2;obtain rfl:=ha.eO;obtain rfl:=hb.eO;have hg: ∀op,(eqGuard op t x y (.int k1 n1) (.int k2 n2)).run K.P w= .ok () w:=by intro op;cases op<;>rfl
  split at h
  ·unfold uS at h;split at h
   ·cases h
   ·rename_i hn;simp only [Option.some.injEq]at h;subst h;exact⟨_,hg _,by simp [binOp,Op.shift,hn,bQ],nN _ _⟩
  ·unfold uS at h;split at h
   ·cases h
   ·rename_i hn;simp only [Option.some.injEq]at h;subst h;exact⟨_,hg _,by simp [binOp,Op.shift,hn,bQ],nN _ _⟩
  ·rename_i h1 h2;split at h
   ·rename_i hk;subst hk;cases op<;>simp only [mw]at h
    case shl=>exact absurd rfl (h1)
    case shr=>exact absurd rfl (h2)
    case quo=>
     split at h
     ·cases h
     ·rename_i hn;simp only [Option.some.injEq]at h;subst h;exact⟨_,hg _,by simp [binOp,Op.intDiv,hn,bQ],nN _ _⟩
    case rem=>
     split at h
     ·cases h
     ·rename_i hn;simp only [Option.some.injEq]at h;subst h;exact⟨_,hg _,by simp [binOp,Op.intDiv,hn,bQ],nN _ _⟩
    all_goals first|(cases h;done)|skip
    all_goals simp only [Option.some.injEq]at h
    all_goals subst h
    all_goals first
     |(refine⟨_,hg _, ?_,nN _ _⟩;simp [binOp,Op.intArith,Op.intBits,bQ])
     |(refine⟨_,hg _, ?_,nO _⟩;simp [binOp,Op.intCmp,bQ])
   ·cases h
 ·
  rename_i l1 l2;obtain⟨s1,rfl,e1⟩:=ha.kh;obtain⟨s2,rfl,e2⟩:=hb.kh;have hg: ∀op,(eqGuard op t x y (.string s1) (.string s2)).run K.P w= .ok () w:=by intro op;cases op<;>rfl
  have t1:s1.toList=l1:=(by rw [ByteArray.toList_eq,e1]);have t2:s2.toList=l2:=(by rw [ByteArray.toList_eq,e2]);cases op<;>simp only [Rd]at h
  case add=>
   split at h
   ·rename_i hlen;simp only [Option.some.injEq]at h;subst h;have hs:s1.size+s2.size=l1.length+l2.length:=(by subst e1;subst e2;simp);have hno: ¬(((s1.size+s2.size:Nat):Int)>IntKind.i64.max):=by
     rw [hs];simp only [IntKind.max,IntKind.signed,IntKind.bits];simp;omega
    have hr:(binOp .add t (.string s1) (.string s2)).run K.P w= .ok (.string (s1++s2)) w:=by
     simp only [binOp,Op.stringOp];rw [if_neg hno];rfl
    refine⟨_,hg _,hr, ?_⟩;have:=bI.str (w:=w) (S:=S) (s1++s2);have e:(s1++s2).data.toList=l1++l2:=(by subst e1;subst e2;simp);rw [e]at this;exact this
   ·cases h
  all_goals first|(cases h;done)|skip
  all_goals simp only [Option.some.injEq]at h
  all_goals subst h
  all_goals (refine⟨_,hg _, ?_,nO _⟩;simp [binOp,Op.stringOp,t1,t2,bQ])
 ·
  rename_i b1 b2;obtain rfl:=ha.jP;obtain rfl:=hb.jP;have hg: ∀op,(eqGuard op t x y (.bool b1) (.bool b2)).run K.P w= .ok () w:=by intro op;cases op<;>rfl
  split at h
  ·rename_i hu;simp only [Option.some.injEq]at h;subst h;have hq:(Op.equalIn 10000 t (.bool b1) (.bool b2)).run K.P w= .ok (b1==b2) w:=run_equalIn_bool' w 9999 t b1 b2 hu;exact⟨_,hg _,by simp only [binOp,Op.equal,Op.maxDepth,Sem.run_bind,hq,Result.andThen_ok];rfl,nO _⟩
  ·rename_i hu;simp only [Option.some.injEq]at h;subst h;have hq:(Op.equalIn 10000 t (.bool b1) (.bool b2)).run K.P w= .ok (b1==b2) w:=run_equalIn_bool' w 9999 t b1 b2 hu;exact⟨_,hg _,by simp only [binOp,Op.equal,Op.maxDepth,Sem.run_bind,hq,Result.andThen_ok];rfl,nO _⟩
  ·cases h
 ·
  rename_i l1 l2;obtain⟨vs1,rfl,c1⟩:=ha.nG;obtain⟨vs2,rfl,c2⟩:=hb.nG;split at h
  ·rename_i ks hks;obtain⟨g1,g2⟩:=hK.eqs t ks hks;have key: ∀q,bK ks l1 l2=some q→(Op.equalIn 10000 t (.agg vs1) (.agg vs2)).run K.P w= .ok q w:=by
    intro q hq;obtain⟨s1,s2⟩:=ko ks l1 l2 q hq;have r1:=kn c1 s1;have r2:=kn c2 s2;have:=(g2 l1 l2 q hq w).1;rw [←r1,←r2]at this;simpa using this
   split at h
   ·rename_i q hq;simp only [Option.some.injEq]at h;subst h;exact⟨_,run_eqGuard_agg w _ t x y vs1 vs2 g1,by rw [run_eql_struct,key q hq];rfl, .bool _⟩
   ·rename_i q hq;simp only [Option.some.injEq]at h;subst h;exact⟨_,run_eqGuard_agg w _ t x y vs1 vs2 g1,by rw [run_neq_struct,key q hq];rfl, .bool _⟩
   ·cases h
  ·cases h
 ·cases h
end
end
section
section
variable {w:World} {S:Nat→Prop} {μ:Mu} {H:ae} {P:Program} {ℓ:Nat}
theorem AL {b o q:Nat} {cs:List PV} {f:Nat→Value} {k:Nat} (hS:cs≠[]→S b) (hf: ∀j,j<cs.length→w.cell? ⟨b,o+j,none⟩=some (f j)) (h1: ∀j,j<cs.length→(f j).oneCell'=true)
  (hr: ∀j,j<cs.length→bI w S (f j) (cs.getD j .dead)):ax w S μ k (.pointer (some ⟨b,o+q,none⟩)) (.bF (cs.drop q)):=by
 refine .bF b (o+q) (cs.drop q) (fun j=>f (q+j)) (fun h=>hS (by intro e;subst e;simp at h)) (fun j hj=> ?_) (fun j hj=> ?_) (fun j hj=> ?_)
 ·simp at hj;rw [Nat.add_assoc];exact hf (q+j) (by omega)
 ·simp at hj;exact h1 (q+j) (by omega)
 ·simp at hj;have:=hr (q+j) (by omega);simpa [List.getD_eq_getElem?_getD,List.getElem?_drop]using this
theorem AM {b o q:Nat} {cs:List GV} {f:Nat→Value} {k:Nat} (hS:cs≠[]→S b) (hf: ∀j,j<cs.length→w.cell? ⟨b,o+j,none⟩=some (f j)) (h1: ∀j,j<cs.length→(f j).oneCell'=true)
  (hr: ∀j,j<cs.length→ax w S μ k (f j) (cs.getD j aG)):ax w S μ k (.pointer (some ⟨b,o+q,none⟩)) (.fO (cs.drop q)):=by
 refine .fO b (o+q) (cs.drop q) (fun j=>f (q+j)) (fun h=>hS (by intro e;subst e;simp at h)) (fun j hj=> ?_) (fun j hj=> ?_) (fun j hj=> ?_)
 ·simp at hj;rw [Nat.add_assoc];exact hf (q+j) (by omega)
 ·simp at hj;exact h1 (q+j) (by omega)
 ·simp at hj;have:=hr (q+j) (by omega);simpa [List.getD_eq_getElem?_getD,List.getElem?_drop]using this
theorem tB {k q:Nat} {va:Value} {x r:GV} (hx:ax w S μ k va x)
  (h:fb q x=some r): ∃a:Addr,va= .pointer (some a)∧a.spot=none∧ax w S μ k (.pointer (some (a.add q))) r:=by
 cases hx with
 |aA nm off b h1 h2=>
  simp only [fb,Option.some.injEq]at h;subst h;exact⟨_,rfl,rfl,by rw [cS];exact .aA nm _ b h1 h2⟩
 |bZ nm es top i off b h1 h2=>
  simp only [fb,Option.some.injEq]at h;subst h;exact⟨_,rfl,rfl,by rw [cS,Nat.add_assoc];exact .bZ nm es top i _ b h1 h2⟩
 |bF b o cs f hS hf h1 hr=>
  simp only [fb]at h;split at h
  ·simp only [Option.some.injEq]at h;subst h;exact⟨_,rfl,rfl,by rw [cS];exact AL hS hf h1 hr⟩
  ·cases h
 |fO b o cs f hS hf h1 hr=>
  simp only [fb]at h;split at h
  ·simp only [Option.some.injEq]at h;subst h;exact⟨_,rfl,rfl,by rw [cS];exact AM hS hf h1 hr⟩
  ·cases h
 |fZ nm es i j off b h1 h2=>
  simp only [fb,Option.some.injEq]at h;subst h;exact⟨_,rfl,rfl,by rw [cS,Nat.add_assoc];exact .fZ nm es i j _ b h1 h2⟩
 |_=>cases h
theorem ma {t n e:Nat}(h:qe P t=some (n,e)):P.underlying t=some (.array n e):=by
 unfold qe at h;split at h
 ·rename_i n' e' he;simp at h;obtain⟨rfl,rfl⟩:=h;exact he
 ·cases h
theorem pF {t f off ft:Nat}(h:jH P t f=some (off,ft)): ∃fs x,P.underlying t=some (.struct fs)∧fs[f]? =some x∧x.offset=off∧x.type=ft:=by
 unfold jH at h;split at h
 ·rename_i fs hfs;split at h
  ·rename_i x hx;simp at h;exact⟨fs,x,hfs,hx,h.1,h.2⟩
  ·cases h
 ·cases h
theorem qk {k f off ft size:Nat} {st:TypeId} {va:Value} {x r:GV} (hx:ax w S μ k va x) (hf:jH P st f=some (off,ft)) (hs:aZ P ft=some size) (h0:size≠0)
  (h:fb off x=some r): ∃u,(Instr.fieldAt st va f).run P w= .ok u w∧ax w S μ k u r:=by
 obtain⟨fs,y,hu,hy,rfl,rfl⟩:=pF hf;obtain⟨a,rfl,_,hr⟩:=tB hx h;exact⟨_,by simp [Instr.fieldAt,aC w hu,hy,gX,fieldPlace,cM w hs,h0],hr⟩
theorem ql (K:Ctx){k:Nat}{t:TypeId}{va vi:Value}{x i r:GV}(hx:ax w S μ k va x)(hi:ax w S μ k vi i)(h:iZ K t x i=some r):
  ∃u,(Instr.indexAt t va vi).run K.P w= .ok u w∧ax w S μ k u r:=by
 unfold iZ at h;split at h
 ·rename_i kd n;obtain rfl:=hi.eO;split at h
  ·cases h
  ·rename_i hneg;have h0:0≤n:=(by omega);split at h
   ·rename_i len e hta;split at h
    ·rename_i size hs;split at h
     ·cases h
     ·rename_i hlt;have hlt':n<(len:Int):=(by omega);obtain⟨a,rfl,_,hr⟩:=tB hx h;refine⟨_, ?_,hr⟩;simp [Instr.indexAt,asIntOf,aC w (ma hta),gX,h0,hlt',cM w hs]
    ·cases h
   ·split at h
    ·rename_i e he;split at h
     ·rename_i size hs;split at h
      ·
       rename_i nm es top lo len
       cases hx with
       |ay _ _ _ _ _ cap b m ek h1 h2 h3 h4 h5 h6=>
       split at h
       ·rename_i hc;obtain⟨rfl,hlt⟩:=hc;simp only [Option.some.injEq]at h;subst h;refine⟨.pointer (some ⟨b,(lo+n.toNat)*es+0,none⟩), ?_, .bZ nm es top (lo+n.toNat) 0 b h1 h2⟩;have ea:(⟨b,lo*es,none⟩:Addr).add (n.toNat*es)=⟨b,(lo+n.toNat)*es+0,none⟩:=(by rw [cS,Nat.add_mul];simp);simp [Instr.indexAt,asIntOf,aC w (cJ he),h0,hlt,cM w hs,ea]
       ·cases h
      ·
       rename_i l;split at h
       ·rename_i cs hcs;split at h
        ·rename_i hlen;simp only [Option.some.injEq]at h;subst h;have:=hx.pv
         cases this with
         |dJ a cap=>simp at hcs
         |slice b o cap es _ f hS hpos hes hf h1 hr hcp=>
         have hin:n.toNat<l.length:=(by rcases Nat.lt_or_ge n.toNat l.length with h|h;exact h;rw [List.getElem?_eq_none h]at hcs;cases hcs);have hcl:cs.length=es:=hes _ (List.mem_of_getElem? hcs);have hlt:n<(l.length:Int):=(by omega);have hgd:l.getD n.toNat []=cs:=(by simp [List.getD_eq_getElem?_getD,hcs]);have es':es=size:=(by omega);subst es';refine⟨.pointer (some ⟨b,o+n.toNat*es,none⟩), ?_, .bF b (o+n.toNat*es) cs (f n.toNat) (fun _=>hS) (fun j hj=> ?_) (fun j hj=>h1 _ _ hin (by omega)) (fun j hj=> ?_)⟩
         ·simp [Instr.indexAt,asIntOf,aC w (cJ he),h0,hlt,cM w hs,cS]
         ·rw [Nat.add_assoc];exact hf _ _ hin (by omega)
         ·have:=hr n.toNat j hin (by omega);rwa [hgd]at this
        ·cases h
       ·cases h
      ·
       rename_i l;split at h
       ·rename_i cs hcs;split at h
        ·rename_i hlen;simp only [Option.some.injEq]at h;subst h
         cases hx with
         |lits b o cap es _ f hS hpos hes hf h1 hr=>
         have hin:n.toNat<l.length:=(by rcases Nat.lt_or_ge n.toNat l.length with h|h;exact h;rw [List.getElem?_eq_none h]at hcs;cases hcs);have hcl:cs.length=es:=hes _ (List.mem_of_getElem? hcs);have hlt:n<(l.length:Int):=(by omega);have hgd:l.getD n.toNat []=cs:=(by simp [List.getD_eq_getElem?_getD,hcs]);have es':es=size:=(by omega);subst es';refine⟨.pointer (some ⟨b,o+n.toNat*es,none⟩), ?_, .fO b (o+n.toNat*es) cs (f n.toNat) (fun _=>hS) (fun j hj=> ?_) (fun j hj=>h1 _ _ hin (by omega)) (fun j hj=> ?_)⟩
         ·simp [Instr.indexAt,asIntOf,aC w (cJ he),h0,hlt,cM w hs,cS]
         ·rw [Nat.add_assoc];exact hf _ _ hin (by omega)
         ·have:=hr n.toNat j hin (by omega);rwa [hgd]at this
        ·cases h
       ·cases h
      ·
       rename_i nm es q len
       cases hx with
       |eT _ _ _ _ cap b h1 h2 h3=>
       split at h
       ·rename_i hc;obtain⟨rfl,hlt⟩:=hc;simp only [Option.some.injEq]at h;subst h;refine⟨.pointer (some ⟨b,n.toNat*es+0,none⟩), ?_, .fZ nm es q n.toNat 0 b h1 h2⟩;have ea:(⟨b,0,none⟩:Addr).add (n.toNat*es)=⟨b,n.toNat*es+0,none⟩:=(by rw [cS];simp);simp [Instr.indexAt,asIntOf,aC w (cJ he),h0,hlt,cM w hs,ea]
       ·cases h
      ·cases h
     ·cases h
    ·cases h
 ·cases h
theorem rI {k off size:Nat} {ag:Bool} {t:TypeId} {vs:Array Value} {cs:List GV} {r:GV} (hc:bz w S μ k vs.toList cs) (ha:dC P t=some ag) (hs:aZ P t=some size)
  (hle:off+size≤cs.length) (h:(if ag then some (cO ((cs.drop off).take size))else cs[off]?)=some r): ∃u,(part t vs off).run P w= .ok u w∧ax w S μ k u r:=by
 cases ag with
 |true=>
  simp only [if_true,Option.some.injEq]at h;subst h;refine⟨.agg (vs.extract off (off+size)),by simp [part,zu w ha,cM w hs],dK ?_⟩;have e:(vs.extract off (off+size)).toList=(vs.toList.drop off).take size:=(by simp);rw [e];exact(hc.drop off).take size
 |false=>
  simp only [Bool.false_eq_true,if_false]at h;obtain⟨v,v1,v2,v3⟩:=hc.get off r h;have v1':vs[off]? =some v:=(by simpa using v1);exact⟨v,by simp [part,zu w ha,v1'],v3⟩
end
end
section
section
variable {w:World} {S:Nat→Prop} {μ:Mu} {H:ae} {P:Program} {ℓ:Nat}
theorem tC {k off size:Nat} {ag:Bool} {t:TypeId} {vs:Array Value} {cs:List PV} {r:GV} (hc:bz w S μ k vs.toList (cs.map .pure)) (ha:dC P t=some ag) (hs:aZ P t=some size)
  (hle:off+size≤cs.length) (h:(if ag then some (.pure (.agg ((cs.drop off).take size)))else (match cs[off]? with|some p=>some (.pure p)|none=>none))=some r):
  ∃u,(part t vs off).run P w= .ok u w∧ax w S μ k u r:=by
 refine rI hc ha hs (by simpa using hle) ?_
 cases ag with
 |true=>
  simp only [if_true,Option.some.injEq]at h⊢;rw [←h,←List.map_drop,←List.map_take,mg]
 |false=>
  simp only [Bool.false_eq_true,if_false,List.getElem?_map]at h⊢;split at h
  ·rename_i p hp;rw [hp];simpa using h
  ·cases h
theorem wy (K:Ctx){k:Nat}{t:TypeId}{va vi:Value}{x i r:GV}(hx:ax w S μ k va x)(hi:ax w S μ k vi i)(h:ym K x i t=some r):
  ∃u,(Instr.index t va vi).run K.P w= .ok u w∧ax w S μ k u r:=by
 unfold ym at h;split at h
 ·rename_i kd n;obtain rfl:=hi.eO;split at h
  ·cases h
  ·rename_i hneg;have h0:0≤n:=(by omega);split at h
   ·rename_i len e hta;split at h
    ·rename_i ag size ha hs;split at h
     ·cases h
     ·rename_i hlt;have hlt':n<(len:Int):=(by omega);split at h
      ·rename_i cs;obtain⟨vs,rfl,hc⟩:=hx.cells;split at h
       ·rename_i hle;obtain⟨u,u1,u2⟩:=rI (P:=K.P) hc ha hs hle h;exact⟨u,by simp [Instr.index,asIntOf,aC w (ma hta),h0,hlt',cM w hs,u1],u2⟩
       ·cases h
      ·rename_i cs;obtain⟨vs,rfl,hc⟩:=hx.nG;split at h
       ·rename_i hle;obtain⟨u,u1,u2⟩:=tC (P:=K.P) hc ha hs hle h;exact⟨u,by simp [Instr.index,asIntOf,aC w (ma hta),h0,hlt',cM w hs,u1],u2⟩
       ·cases h
      ·cases h
    ·cases h
   ·split at h
    ·rename_i l hu;obtain⟨s,rfl,hs⟩:=hx.kh;split at h
     ·rename_i b hb;simp only [Option.some.injEq]at h;subst h;have hb':s[n.toNat]? =some b:=by
       subst hs;have hin:n.toNat<s.size:=by
        rcases Nat.lt_or_ge n.toNat s.data.toList.length with h|h
        ·simpa using h
        ·rw [List.getElem?_eq_none h]at hb;cases hb
       rw [getElem?_pos s n.toNat hin];have hin2:n.toNat<s.data.toList.length:=(by simpa using hin);rw [List.getElem?_eq_getElem hin2]at hb;have hb2:=Option.some.inj hb;rw [Array.getElem_toList]at hb2;exact congrArg some hb2
      exact⟨.int .u8 b.toNat,by simp [Instr.index,asIntOf,aC w hu,h0,hb'], .pure _ _ (.int _ _)⟩
     ·cases h
    ·cases h
 ·cases h
theorem pA {k f off ft size:Nat} {ag:Bool} {t:TypeId} {v:Value} {x r:GV} (hx:ax w S μ k v x) (hf:jH P t f=some (off,ft)) (ha:dC P ft=some ag) (hs:aZ P ft=some size)
  (h:(match x with
   | .agg cs=>if off+size≤cs.length then (if ag then some (cO ((cs.drop off).take size))else cs[off]?)else none
   | .pure (.agg cs)=>if off+size≤cs.length then (if ag then some (.pure (.agg ((cs.drop off).take size)))else (match cs[off]? with|some p=>some (.pure p)|none=>none))else none
   |_=>none)=some r):
  ∃u,(Instr.field t v f).run P w= .ok u w∧ax w S μ k u r:=by
 obtain⟨fs,y,hu,hy,rfl,rfl⟩:=pF hf;split at h
 ·rename_i cs hx;obtain⟨vs,rfl,hc⟩:=hx.cells;split at h
  ·rename_i hle;obtain⟨u,u1,u2⟩:=rI (P:=P) hc ha hs hle h;exact⟨u,by simp [Instr.field,aC w hu,hy,asAgg,u1],u2⟩
  ·cases h
 ·rename_i cs hx;obtain⟨vs,rfl,hc⟩:=hx.nG;split at h
  ·rename_i hle;obtain⟨u,u1,u2⟩:=tC (P:=P) hc ha hs hle h;exact⟨u,by simp [Instr.field,aC w hu,hy,asAgg,u1],u2⟩
  ·cases h
 ·cases h
end
end
end Go.Gh
