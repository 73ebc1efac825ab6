/- Texts joined: the evaluator over ghost values, its soundness, the walks. Spaces struck and names made short by a program, for the size. -/
import Derived.Test.YthcpepcmnmlmeaaGc3a
import Derived.Laws.StructEq
namespace Go.Gh
set_option linter.unusedVariables false
set_option linter.unusedSimpArgs false
set_option linter.unnecessarySimpa false
set_option maxRecDepth 100000
set_option maxHeartbeats 8000000
section
section
variable {w w' : World} {S S' : Nat → Prop} {μ μ' : Mu} {H H' : Heap} {P : Program}
theorem cells_of_row {b : Nat} {c : Array Value} {e : TypeId} {fr : Nat × Nat} (h : w.heap[b]? = some (.cells c e fr)) (off n : Nat) :
  CellsAt w b off ((c.toList.drop off).take n) := by
 intro j v hv
 have : c.toList[off + j]? = some v := by
  rw [List.getElem?_take] at hv
  split at hv
  ·rw [List.getElem?_drop] at hv; exact hv
  ·cases hv
 simp only [World.cell?, h]
 simpa using this
theorem cellsAt_map {b o : Nat} {f : Nat → Value} {n : Nat} (h : ∀ j, j < n → w.cell? ⟨b, o + j, none⟩ = some (f j)) : CellsAt w b o ((List.range n).map f) := by
 intro j v hv
 rw [List.getElem?_map] at hv
 by_cases hj : j < n
 ·rw [List.getElem?_range hj] at hv; simp at hv; subst hv; exact h j hj
 ·rw [List.getElem?_eq_none (by simp; omega)] at hv; simp at hv
theorem crel_map {ℓ : Nat} {f : Nat → Value} {gs : List GV} (h : ∀ j, j < gs.length → (f j).oneCell' = true ∧ VRel w S μ ℓ (f j) (gs.getD j gdead)) :
  CRel w S μ ℓ ((List.range gs.length).map f) gs :=
 .of_get _ _ (by simp) fun j hj => by
  have e : ((List.range gs.length).map f).getD j undef = f j := by simp [List.getD_eq_getElem?_getD, hj]
  rw [e]; exact h j hj
theorem sure_ptr (a : Addr) : (Instr.sureAddr (.pointer (some a))).run P w = .ok a w := rfl
theorem CRel.up {ℓ ℓ' : Nat} {vs : List Value} {gs : List GV} (h : CRel w S μ ℓ vs gs) (hl : ℓ ≤ ℓ') : CRel w S μ ℓ' vs gs :=
 h.mono (fun _ h => h) (fun _ _ => rfl) (fun _ _ h => h) (fun _ _ _ _ h => h) hl
theorem load_cells {ℓ : Nat} {t : TypeId} {ag : Bool} {size b o : Nat} {vs : List Value} {gs : List GV} {r : GV} (ha : tagg P t = some ag) (hs : tsize P t = some size)
  (hc : CellsAt w b o vs) (hr : CRel w S μ ℓ vs gs)
  (h : (if ag then (if size ≤ gs.length then some (mkAgg (gs.take size)) else none) else gs[0]?) = some r) :
  ∃ u, (Instr.loadAt t (.pointer (some ⟨b, o, none⟩))).run P w = .ok u w ∧ VRel w S μ ℓ u r := by
 cases ag with
 | true =>
  simp only [if_true] at h
  split at h
  ·rename_i hl
   simp only [Option.some.injEq] at h; subst h
   have hlen : (vs.take size).length = size := by rw [List.length_take, hr.length]; omega
   refine ⟨.agg (vs.take size).toArray, ?_, mkAgg_rel (hr.take size)⟩
   have := r_loadVar_agg (P := P) w (vs := vs.take size) ha (by rw [hlen]; exact hs) (b := b) (o := o) (fun j v hv => hc j v (by
    rw [List.getElem?_take] at hv; split at hv; exact hv; cases hv))
   simpa [Instr.loadAt, sure_ptr] using this
  ·cases h
 | false =>
  simp only [Bool.false_eq_true, if_false] at h
  obtain ⟨v, h1, h2, h3⟩ := hr.get 0 r h
  refine ⟨v, ?_, h3⟩
  have := r_loadVar_one (P := P) w (t := t) (b := b) (o := o) (v := v) ha (by simpa using hc 0 v h1)
  simpa [Instr.loadAt, sure_ptr] using this
theorem gload_sound {ℓ : Nat} {t : TypeId} {a r : GV} {v : Value} (hH : HRel w S μ H) (hv : VRel w S μ ℓ v a) (h : gload P t H a = some r) :
  ∃ u, (Instr.loadAt t v).run P w = .ok u w ∧ VRel w S μ ℓ u r := by
 unfold gload at h
 split at h
 ·rename_i ag size ha hs
  split at h
  ·
   rename_i nm off
   cases hv with
   | bptr _ _ b h1 h2 =>
   split at h
   ·rename_i cs hg
    obtain ⟨b', c, e, k1, k2, k3, k4⟩ := hH.blk _ _ hg _ _ h2
    rw [h2] at k1; cases k1
    have k5 := (k4.drop off).up h1
    refine load_cells ha hs (vs := (c.toList.drop off)) (gs := cs.drop off) (fun j v hv => ?_) k5 ?_
    ·have := cells_of_row k3 off (c.toList.length)
     exact this j v (by rw [List.take_of_length_le (by simp)]; exact hv)
    ·cases ag with
     | true =>
      simp only [if_true] at h ⊢
      split at h
      ·rw [if_pos (by simp; omega)]; exact h
      ·cases h
     | false => simpa [List.getElem?_drop] using h
   ·cases h
  ·
   rename_i nm es top i off
   cases hv with
   | eptr _ _ _ _ _ b h1 h2 =>
   split at h
   ·rename_i es' elems vf ro hg
    split at h
    ·rename_i hc
     obtain ⟨rfl, hvf, hi, htop⟩ := hc
     obtain ⟨h0, k1, k2, k3, k4⟩ := hH.blk _ _ hg _ _ h2
     obtain ⟨g1, g2, g3, g4⟩ := k4 top b h2
     obtain ⟨_, g5⟩ := g4 hvf
     split at h
     ·rename_i row hrow
      have hmem : row ∈ elems := List.mem_of_getElem? hrow
      have hrl : row.length = es' := k1 _ hmem
      have hgd : elems.getD i [] = row := by simp [List.getD_eq_getElem?_getD, hrow]
      have hcell : ∀ j, j < es' - off → w.cell? ⟨b, i * es' + off + j, none⟩ = some ((fun j => (w.cell? ⟨b, i * es' + off + j, none⟩).getD undef) j) ∧
        ((w.cell? ⟨b, i * es' + off + j, none⟩).getD undef).oneCell' = true := fun j hj => by
       obtain ⟨u, u1, u2, u3⟩ := g5 i (off + j) hi (by omega)
       show w.cell? ⟨b, i * es' + off + j, none⟩ = some ((w.cell? ⟨b, i * es' + off + j, none⟩).getD undef) ∧ _
       rw [show i * es' + off + j = i * es' + (off + j) by omega, u1]; exact ⟨rfl, u2⟩
      have hrel : CRel w S μ ℓ ((List.range ((row.drop off).map GV.pure).length).map (fun j => (w.cell? ⟨b, i * es' + off + j, none⟩).getD undef)) ((row.drop off).map .pure) := by
       refine crel_map fun j hj => ?_
       have hj' : j < es' - off := by simp at hj; omega
       obtain ⟨u, u1, u2, u3⟩ := g5 i (off + j) hi (by omega)
       rw [show i * es' + off + j = i * es' + (off + j) by omega, u1]
       rw [hgd] at u3
       have e : ((row.drop off).map GV.pure).getD j gdead = .pure (row.getD (off + j) .dead) := by
        have hj2 : off + j < row.length := by omega
        simp [List.getD_eq_getElem?_getD, List.getElem?_drop, hj2]
       rw [e]
       exact ⟨u2, .pure _ _ u3⟩
      refine load_cells ha hs (vs := (List.range ((row.drop off).map GV.pure).length).map (fun j => (w.cell? ⟨b, i * es' + off + j, none⟩).getD undef)) (gs := (row.drop off).map .pure)
       (cellsAt_map fun j hj => ?_) hrel ?_
      ·exact (hcell j (by simp at hj; omega)).1
      ·cases ag with
       | true =>
        simp only [if_true] at h ⊢
        split at h
        ·rw [if_pos (by simp; omega)]
         simp only [Option.some.injEq] at h
         rw [← h, ← List.map_take, mkAgg_map]
        ·cases h
       | false =>
        simp only [Bool.false_eq_true, if_false] at h ⊢
        rw [List.getElem?_map, List.getElem?_drop, Nat.add_zero]
        split at h
        ·rename_i p hp; rw [hp]; simpa using h
        ·cases h
     ·cases h
    ·cases h
   ·
    rename_i es' rows n hg
    split at h
    ·rename_i hc
     obtain ⟨rfl, rfl, rfl, hi, htop⟩ := hc
     have m : MatRel w S μ nm es' rows n := hH.blk _ _ hg _ _ h2
     have hml := m.le
     obtain ⟨g1, g2, g3, g4, g5⟩ := m.top top b (by have := m.lim; omega) h2
     have hlt : i < rows.length := by omega
     rw [List.getElem?_eq_getElem hlt] at h
     simp only [Option.some.injEq] at h; subst h
     obtain ⟨bi, cp, u1, u2, u3⟩ := g5 i hi
     have e : rows.getD i [] = rows[i] := by simp [List.getD_eq_getElem?_getD, hlt]
     rw [e] at u1 u3
     refine ⟨_, ?_, .rhdr nm es' i _ cp bi h1 u2 u3⟩
     have := r_loadVar_one (P := P) w (t := t) (b := b) (o := i * 1 + 0) (v := .slice (some ⟨bi, 0, none⟩) (rows[i]).length cp) ha (by simpa using u1)
     simpa [Instr.loadAt, sure_ptr] using this
    ·cases h
   ·cases h
  ·
   rename_i nm es i j off
   cases hv with
   | rptr _ _ _ _ _ b h1 h2 =>
   split at h
   ·rename_i es' rows n hg
    split at h
    ·rename_i hc
     subst hc
     have m : MatRel w S μ nm es' rows n := hH.blk _ _ hg _ _ h2
     split at h
     ·rename_i r hr
      have hlt : i < rows.length := m.bnd _ _ h2
      have er : rows.getD i [] = r := by simp [List.getD_eq_getElem?_getD, hr]
      obtain ⟨b', q1, ⟨q2, q3, q4⟩⟩ := m.row i hlt
      rw [h2] at q1; cases q1
      rw [er] at q4
      split at h
      ·rename_i row hrow
       have hmem : row ∈ r := List.mem_of_getElem? hrow
       have hrl : row.length = es' := m.wid _ (List.mem_of_getElem? hr) _ hmem
       have hj : j < r.length := (List.getElem?_eq_some_iff.1 hrow).1
       have hgd : r.getD j [] = row := by simp [List.getD_eq_getElem?_getD, hrow]
       have hcell : ∀ q, q < es' - off → w.cell? ⟨b, j * es' + off + q, none⟩ = some ((fun q => (w.cell? ⟨b, j * es' + off + q, none⟩).getD undef) q) ∧
         ((w.cell? ⟨b, j * es' + off + q, none⟩).getD undef).oneCell' = true := fun q hq => by
        obtain ⟨u, u1, u2, u3⟩ := q4 j (off + q) hj (by omega)
        show w.cell? ⟨b, j * es' + off + q, none⟩ = some ((w.cell? ⟨b, j * es' + off + q, none⟩).getD undef) ∧ _
        rw [show j * es' + off + q = j * es' + (off + q) by omega, u1]; exact ⟨rfl, u2⟩
       have hrel : CRel w S μ ℓ ((List.range ((row.drop off).map GV.pure).length).map (fun q => (w.cell? ⟨b, j * es' + off + q, none⟩).getD undef)) ((row.drop off).map .pure) := by
        refine crel_map fun q hq => ?_
        have hq' : q < es' - off := by simp at hq; omega
        obtain ⟨u, u1, u2, u3⟩ := q4 j (off + q) hj (by omega)
        rw [show j * es' + off + q = j * es' + (off + q) by omega, u1]
        rw [hgd] at u3
        have e : ((row.drop off).map GV.pure).getD q gdead = .pure (row.getD (off + q) .dead) := by
         have hq2 : off + q < row.length := by omega
         simp [List.getD_eq_getElem?_getD, List.getElem?_drop, hq2]
        rw [e]
        exact ⟨u2, .pure _ _ u3⟩
       refine load_cells ha hs (vs := (List.range ((row.drop off).map GV.pure).length).map (fun q => (w.cell? ⟨b, j * es' + off + q, none⟩).getD undef)) (gs := (row.drop off).map .pure)
        (cellsAt_map fun q hq => ?_) hrel ?_
       ·exact (hcell q (by simp at hq; omega)).1
       ·cases ag with
        | true =>
         simp only [if_true] at h ⊢
         split at h
         ·rw [if_pos (by simp; omega)]
          simp only [Option.some.injEq] at h
          rw [← h, ← List.map_take, mkAgg_map]
         ·cases h
        | false =>
         simp only [Bool.false_eq_true, if_false] at h ⊢
         rw [List.getElem?_map, List.getElem?_drop, Nat.add_zero]
         split at h
         ·rename_i p hp; rw [hp]; simpa using h
         ·cases h
      ·cases h
     ·cases h
    ·cases h
   ·cases h
  ·
   rename_i cs
   cases hv with
   | pptr b o _ f hS hf h1 hr =>
   refine load_cells ha hs (vs := (List.range (cs.map GV.pure).length).map f) (gs := cs.map .pure) (cellsAt_map fun j hj => hf j (by simpa using hj)) (crel_map fun j hj => ?_) ?_
   ·have hj' : j < cs.length := by simpa using hj
    have e : (cs.map GV.pure).getD j gdead = .pure (cs.getD j .dead) := by simp [List.getD_eq_getElem?_getD, hj']
    rw [e]; exact ⟨h1 j hj', .pure _ _ (hr j hj')⟩
   ·cases ag with
    | true =>
     simp only [if_true] at h ⊢
     split at h
     ·rw [if_pos (by simpa using ‹_›)]
      simp only [Option.some.injEq] at h
      rw [← h, ← List.map_take, mkAgg_map]
     ·cases h
    | false =>
     simp only [Bool.false_eq_true, if_false] at h ⊢
     rw [List.getElem?_map]
     split at h
     ·rename_i p hp; rw [hp]; simpa using h
     ·cases h
  ·
   rename_i cs
   cases hv with
   | lptr b o _ f hS hf h1 hr =>
   exact load_cells ha hs (vs := (List.range cs.length).map f) (gs := cs) (cellsAt_map fun j hj => hf j hj) (crel_map fun j hj => ⟨h1 j hj, hr j hj⟩) h
  ·cases h
 ·cases h
theorem Mu.upd_eq {nm : Nm} {top b : Nat} (h : μ nm top = some b) : μ.upd nm top b = μ := by
 funext n t
 simp only [Mu.upd]
 split
 ·rename_i e; rw [e.1, e.2, h]
 ·rfl
theorem CRel.setRow {ℓ : Nat} {vs : List Value} {gs : List GV} (h : CRel w S μ ℓ vs gs) {b : Nat} (hb : ¬ S b) {c c' : Array Value} {e : TypeId} {fr : Nat × Nat}
  (hg : w.heap[b]? = some (.cells c e fr)) (hs : c'.size = c.size) : CRel (w.setRow b c') S μ ℓ vs gs :=
 h.mono (fun _ h => h) (fun k hk => setRow_other w b k c' fun e => hb (e ▸ hk)) (setRow_shp w b c c' e fr hg hs) (fun _ _ _ _ h => h) (Nat.le_refl _)
theorem PRep.setRow {v : Value} {p : PV} (h : PRep w S v p) {b : Nat} (hb : ¬ S b) (c' : Array Value) : PRep (w.setRow b c') S v p :=
 h.mono (fun _ h => h) (fun k hk => setRow_other w b k c' fun e => hb (e ▸ hk))
theorem splice_length {α : Type} (l xs : List α) (off : Nat) (h : off + xs.length ≤ l.length) : (splice l off xs).length = l.length := by
 simp [splice]; omega
theorem splice_get {α : Type} (l xs : List α) (off j : Nat) (h : off + xs.length ≤ l.length) :
  (splice l off xs)[j]? = if j < off then l[j]? else if j < off + xs.length then xs[j - off]? else l[j]? := by
 unfold splice
 have h1 : (l.take off).length = off := by simp; omega
 split
 ·rename_i hj
  rw [List.append_assoc, List.getElem?_append_left (by omega), List.getElem?_take, if_pos hj]
 ·split
  ·rw [List.append_assoc, List.getElem?_append_right (by omega), h1, List.getElem?_append_left (by omega)]
  ·rw [List.append_assoc, List.getElem?_append_right (by omega), h1, List.getElem?_append_right (by omega), List.getElem?_drop]
   congr 1; omega
theorem gstore_sound (ℓ : Nat) {k : Nat} {t : TypeId} {a x : GV} {va vx : Value} (hH : HRel w S μ H) (ha : VRel w S μ k va a) (hx : VRel w S μ k vx x) (h : gstore P t H a x = some H') :
  ∃ w' S' μ', (Instr.storeAt t va vx).run P w = .ok () w' ∧ HRel w' S' μ' H' ∧ Ev ℓ w S μ w' S' μ' ∧ H'.length = H.length := by
 unfold gstore at h
 split at h
 ·rename_i size hs
  split at h
  ·cases h
  ·rename_i cells hcells
   split at h
   ·cases h
   ·rename_i hlen
    simp only [ne_eq, Decidable.not_not] at hlen
    have hc := cellsO_rel hx hcells
    have hvs : vx.cells.size = size := by have := hc.length; simp at this; omega
    split at h
    ·
     rename_i nm off
     cases ha with
     | bptr _ _ b h1 h2 =>
     obtain ⟨S1, a1, a2, a3, a4⟩ := lowerCells_rel ℓ nm.1 hH hc
     generalize hlow : lowerCells H nm.1 cells = q at h a1 a3 a4
     obtain ⟨cs', H1⟩ := q
     simp only at h a1 a3 a4
     split at h
     ·rename_i cs hg
      split at h
      ·rename_i hle
       simp only [Option.some.injEq] at h; subst h
       obtain ⟨b', c, e, k1, k2, k3, k4⟩ := a1.blk _ _ hg _ _ h2
       rw [h2] at k1; cases k1
       have hcl : c.size = cs.length := by simpa using k4.length
       have hst := r_storeVar (P := P) w (t := t) (v := vx) (o := off) (by rw [hvs]; exact hs) k3 (by omega) a3.one
       have hsz : (splice c.toList off vx.cells.toList).toArray.size = c.size := by
        simp; rw [splice_length]; simp; simp; omega
       have := a1.row ℓ (x := .box (splice cs off cs')) (Heap.get_lt hg) h2 k2 k3 hsz 0 (by
        rw [Mu.upd_eq h2]
        refine ⟨b, (splice c.toList off vx.cells.toList).toArray, e, h2, k2, setRow_heap w b c _ _ _ k3, ?_⟩
        simp only []
        exact (k4.splice a3 off).setRow k2 k3 hsz) (fun b' hb' => by rw [h2] at hb'; cases hb'; rfl)
       rw [Mu.upd_eq h2] at this
       refine ⟨_, S1, μ, ?_, this.1, a2.trans this.2, by rw [Heap.length_set]; exact a4.1⟩
       simpa [Instr.storeAt, sure_ptr] using hst
      ·cases h
     ·cases h
    ·
     rename_i nm es top i off
     cases ha with
     | eptr _ _ _ _ _ b h1 h2 =>
     obtain ⟨S1, a1, a2, a3, a4⟩ := pureCells_rel ℓ hH hc
     generalize hlow : pureCells H cells = q at h a1 a3 a4
     obtain ⟨ps, H1⟩ := q
     simp only at h a1 a3 a4
     split at h
     ·rename_i es' elems vf ro hg
      split at h
      ·rename_i hcond
       obtain ⟨rfl, rfl, rfl, hi⟩ := hcond
       split at h
       ·rename_i row hrow
        split at h
        ·rename_i hle
         simp only [Option.some.injEq] at h; subst h
         obtain ⟨h0, k1, k2, k3, k4⟩ := a1.blk _ _ hg _ _ h2
         obtain ⟨g1, ⟨c, e, g2⟩, g3, g4⟩ := k4 _ b h2
         have hnS := g3 rfl
         obtain ⟨_, g5⟩ := g4 k2
         have hrl : row.length = es' := k1 _ (List.mem_of_getElem? hrow)
         have hpl : ps.length = size := by have := a3.length; simp at this; omega
         have hcsize : (i + 1) * es' ≤ c.size := by
          obtain ⟨u, u1, _⟩ := g5 i (es' - 1) hi (by omega)
          simp only [World.cell?, g2] at u1
          have := (Array.getElem?_eq_some_iff.1 u1).1
          rw [Nat.add_mul]; omega
         have hbnd : i * es' + off + vx.cells.toList.length ≤ c.toList.length := by
          have : (i + 1) * es' = i * es' + es' := by rw [Nat.add_mul]; omega
          simp; omega
         have hst := r_storeVar (P := P) w (t := t) (v := vx) (o := i * es' + off) (by rw [hvs]; exact hs) g2 (by simpa using hbnd) a3.one
         have hsz : (splice c.toList (i * es' + off) vx.cells.toList).toArray.size = c.size := by
          simp only [List.size_toArray]; rw [splice_length _ _ _ hbnd]; simp
         obtain ⟨p1, p2⟩ := CRel.pures _ _ a3
         have := a1.row ℓ (x := .arr es' (elems.set i (splice row off ps)) elems.length false) (Heap.get_lt hg) h2 hnS g2 hsz elems.length (by
          rw [Mu.upd_eq h2]
          refine ⟨h0, fun r hr => ?_, by simp, ⟨b, by simpa using h2⟩, fun t' b' hb' => ?_⟩
          ·rcases List.mem_or_eq_of_mem_set hr with hr | rfl
           ·exact k1 r hr
           ·rw [splice_length _ _ _ (by omega)]; exact hrl
          ·obtain ⟨q1, ⟨c2, e2, q2⟩, q3, q4⟩ := k4 t' b' hb'
           refine ⟨by simpa using q1, ?_, fun _ => q3 rfl, fun hv => ⟨fun hro => (by cases hro), fun i' j hi' hj => ?_⟩⟩
           ·by_cases e' : b' = b
            ·subst e'; exact ⟨_, e, setRow_heap w b' c _ _ _ g2⟩
            ·exact ⟨c2, e2, by rw [setRow_other w b b' _ e']; exact q2⟩
           ·obtain rfl : t' = elems.length := by omega
            rw [h2] at hb'; cases hb'
            have hcell : (w.setRow b (splice c.toList (i * es' + off) vx.cells.toList).toArray).cell? ⟨b, i' * es' + j, none⟩ =
              (splice c.toList (i * es' + off) vx.cells.toList)[i' * es' + j]? := by
             rw [cell_setRow_same w b _ c _ _ (0, 0) g2]; simp
            rw [hcell, splice_get _ _ _ _ hbnd]
            obtain ⟨u, u1, u2, u3⟩ := g5 i' j hi' hj
            have u1' : c.toList[i' * es' + j]? = some u := by simpa [World.cell?, g2] using u1
            by_cases ei : i' = i
            ·subst ei
             have egd : (elems.set i' (splice row off ps)).getD i' [] = splice row off ps := by
              simp [List.getD_eq_getElem?_getD, List.getElem?_set, hi']
             rw [egd, List.getD_eq_getElem?_getD, splice_get _ _ _ _ (by omega)]
             have egd2 : elems.getD i' [] = row := by simp [List.getD_eq_getElem?_getD, hrow]
             rw [egd2, List.getD_eq_getElem?_getD] at u3
             by_cases c1 : j < off
             ·rw [if_pos (by omega), if_pos c1]
              exact ⟨u, u1', u2, u3.setRow hnS _⟩
             ·by_cases c2 : j < off + ps.length
              ·have hlen3 : vx.cells.toList.length = ps.length := p1
               rw [if_neg (by omega), if_pos (by omega), if_neg c1, if_pos c2]
               obtain ⟨z1, z2⟩ := p2 (j - off) (by omega)
               have e5 : i' * es' + j - (i' * es' + off) = j - off := by omega
               rw [e5]
               have hlt : j - off < vx.cells.toList.length := by omega
               rw [List.getD_eq_getElem?_getD, List.getElem?_eq_getElem hlt] at z1 z2
               refine ⟨_, List.getElem?_eq_getElem hlt, z1, ?_⟩
               simp only [Option.getD_some] at z2
               rw [← List.getD_eq_getElem?_getD]
               exact z2.setRow hnS _
              ·have hlen3 : vx.cells.toList.length = ps.length := p1
               rw [if_neg (by omega), if_neg (by omega), if_neg c1, if_neg c2]
               exact ⟨u, u1', u2, u3.setRow hnS _⟩
            ·have egd : (elems.set i (splice row off ps)).getD i' [] = elems.getD i' [] := by
              simp [List.getD_eq_getElem?_getD, List.getElem?_set, Ne.symm ei]
             rw [egd]
             have hout : ¬ (i * es' + off ≤ i' * es' + j ∧ i' * es' + j < i * es' + off + vx.cells.toList.length) := by
              have hlen3 : vx.cells.toList.length = ps.length := p1
              rintro ⟨o1, o2⟩
              rcases Nat.lt_or_gt_of_ne ei with hlt | hgt
              ·have : (i' + 1) * es' ≤ i * es' := Nat.mul_le_mul_right _ hlt
               rw [Nat.add_mul] at this; omega
              ·have : (i + 1) * es' ≤ i' * es' := Nat.mul_le_mul_right _ hgt
               rw [Nat.add_mul] at this; omega
             by_cases c1 : i' * es' + j < i * es' + off
             ·rw [if_pos c1]; exact ⟨u, u1', u2, u3.setRow hnS _⟩
             ·rw [if_neg c1, if_neg (by omega)]; exact ⟨u, u1', u2, u3.setRow hnS _⟩) (fun b' hb' => by rw [h2] at hb'; cases hb'; rfl)
         rw [Mu.upd_eq h2] at this
         refine ⟨_, S1, μ, ?_, this.1, a2.trans this.2, by rw [Heap.length_set]; exact a4.1⟩
         simpa [Instr.storeAt, sure_ptr] using hst
        ·cases h
       ·cases h
      ·cases h
     ·cases h
    ·
     rename_i nm es i j off
     cases ha with
     | rptr _ _ _ _ _ b h1 h2 =>
     obtain ⟨S1, a1, a2, a3, a4⟩ := pureCells_rel ℓ hH hc
     generalize hlow : pureCells H cells = q at h a1 a3 a4
     obtain ⟨ps, H1⟩ := q
     simp only at h a1 a3 a4
     split at h
     ·rename_i es' rows n hg
      split at h
      ·rename_i hcond
       subst hcond
       split at h
       ·rename_i r hr
        split at h
        ·rename_i row hrow
         split at h
         ·rename_i hle
          simp only [Option.some.injEq] at h; subst h
          have m : MatRel w S1 μ nm es' rows n := a1.blk _ _ hg _ _ h2
          have hlt : i < rows.length := m.bnd _ _ h2
          have er : rows.getD i [] = r := by simp [List.getD_eq_getElem?_getD, hr]
          obtain ⟨b', q1, ⟨⟨c, e, q2⟩, q3, q4⟩⟩ := m.row i hlt
          rw [h2] at q1; cases q1
          rw [er] at q4
          have h0 := m.pos
          have hrl : row.length = es' := m.wid _ (List.mem_of_getElem? hr) _ (List.mem_of_getElem? hrow)
          have hj : j < r.length := (List.getElem?_eq_some_iff.1 hrow).1
          have hgd : r.getD j [] = row := by simp [List.getD_eq_getElem?_getD, hrow]
          have hpl : ps.length = size := by have := a3.length; simp at this; omega
          have hcsize : (j + 1) * es' ≤ c.size := by
           obtain ⟨u, u1, _⟩ := q4 j (es' - 1) hj (by omega)
           simp only [World.cell?, q2] at u1
           have := (Array.getElem?_eq_some_iff.1 u1).1
           rw [Nat.add_mul]; omega
          have hbnd : j * es' + off + vx.cells.toList.length ≤ c.toList.length := by
           have : (j + 1) * es' = j * es' + es' := by rw [Nat.add_mul]; omega
           simp; omega
          have hst := r_storeVar (P := P) w (t := t) (v := vx) (o := j * es' + off) (by rw [hvs]; exact hs) q2 (by simpa using hbnd) a3.one
          have hsz : (splice c.toList (j * es' + off) vx.cells.toList).toArray.size = c.size := by
           simp only [List.size_toArray]; rw [splice_length _ _ _ hbnd]; simp
          obtain ⟨p1, p2⟩ := CRel.pures _ _ a3
          have hlen3 : vx.cells.toList.length = ps.length := p1
          have hro : ∀ k, (rows.set i (r.set j (splice row off ps))).getD k [] = if k = i then r.set j (splice row off ps) else rows.getD k [] := fun k => by
           by_cases e : k = i
           ·subst e; simp [List.getD_eq_getElem?_getD, List.getElem?_set, hlt]
           ·simp [List.getD_eq_getElem?_getD, List.getElem?_set, Ne.symm e, e]
          have hle2 : ∀ k, ((rows.set i (r.set j (splice row off ps))).getD k []).length = (rows.getD k []).length := fun k => by
           rw [hro]
           split
           ·rename_i e; subst e; rw [er]; simp
           ·rfl
          have oth : ∀ b', b' ≠ b → (w.setRow b (splice c.toList (j * es' + off) vx.cells.toList).toArray).heap[b']? = w.heap[b']? := fun b' hb' => setRow_other w b b' _ hb'
          have := a1.row ℓ (x := .mat es' (rows.set i (r.set j (splice row off ps))) n) (Heap.get_lt hg) h2 q3 q2 hsz (rix i) (by
           rw [Mu.upd_eq h2]
           refine ⟨m.pos, by simpa using m.le, m.lim, fun x hx y hy => ?_, fun k hk => ?_, m.inj, fun k b' hb' => by simpa using m.bnd k b' hb', fun t' b' ht' hb' => ?_⟩
           ·rcases List.mem_or_eq_of_mem_set hx with hx | rfl
            ·exact m.wid x hx y hy
            ·rcases List.mem_or_eq_of_mem_set hy with hy | rfl
             ·exact m.wid r (List.mem_of_getElem? hr) y hy
             ·rw [splice_length _ _ _ (by omega)]; exact hrl
           ·have hk' : k < rows.length := by simpa using hk
            obtain ⟨bk, z1, z2⟩ := m.row k hk'
            refine ⟨bk, z1, ?_⟩
            by_cases ek : k = i
            ·subst ek
             rw [h2] at z1; cases z1
             refine ⟨⟨_, e, setRow_heap w b c _ _ _ q2⟩, q3, fun i' j' hi' hj' => ?_⟩
             rw [hro, if_pos rfl] at hi' ⊢
             have hi2 : i' < r.length := by simpa using hi'
             have hcell : (w.setRow b (splice c.toList (j * es' + off) vx.cells.toList).toArray).cell? ⟨b, i' * es' + j', none⟩ =
               (splice c.toList (j * es' + off) vx.cells.toList)[i' * es' + j']? := by
              rw [cell_setRow_same w b _ c _ _ (0, 0) q2]; simp
             rw [hcell, splice_get _ _ _ _ hbnd]
             obtain ⟨u, u1, u2, u3⟩ := q4 i' j' hi2 hj'
             have u1' : c.toList[i' * es' + j']? = some u := by simpa [World.cell?, q2] using u1
             by_cases ei : i' = j
             ·subst ei
              have egd : (r.set i' (splice row off ps)).getD i' [] = splice row off ps := by
               simp [List.getD_eq_getElem?_getD, List.getElem?_set, hi2]
              rw [egd, List.getD_eq_getElem?_getD, splice_get _ _ _ _ (by omega)]
              rw [hgd, List.getD_eq_getElem?_getD] at u3
              by_cases c1 : j' < off
              ·rw [if_pos (by omega), if_pos c1]
               exact ⟨u, u1', u2, u3.setRow q3 _⟩
              ·by_cases c2 : j' < off + ps.length
               ·rw [if_neg (by omega), if_pos (by omega), if_neg c1, if_pos c2]
                obtain ⟨y1, y2⟩ := p2 (j' - off) (by omega)
                have e5 : i' * es' + j' - (i' * es' + off) = j' - off := by omega
                rw [e5]
                have hlt2 : j' - off < vx.cells.toList.length := by omega
                rw [List.getD_eq_getElem?_getD, List.getElem?_eq_getElem hlt2] at y1 y2
                refine ⟨_, List.getElem?_eq_getElem hlt2, y1, ?_⟩
                simp only [Option.getD_some] at y2
                rw [← List.getD_eq_getElem?_getD]
                exact y2.setRow q3 _
               ·rw [if_neg (by omega), if_neg (by omega), if_neg c1, if_neg c2]
                exact ⟨u, u1', u2, u3.setRow q3 _⟩
             ·have egd : (r.set j (splice row off ps)).getD i' [] = r.getD i' [] := by
               simp [List.getD_eq_getElem?_getD, List.getElem?_set, Ne.symm ei]
              rw [egd]
              have hout : ¬ (j * es' + off ≤ i' * es' + j' ∧ i' * es' + j' < j * es' + off + vx.cells.toList.length) := by
               rintro ⟨o1, o2⟩
               rcases Nat.lt_or_gt_of_ne ei with hl | hg
               ·have : (i' + 1) * es' ≤ j * es' := Nat.mul_le_mul_right _ hl
                rw [Nat.add_mul] at this; omega
               ·have : (j + 1) * es' ≤ i' * es' := Nat.mul_le_mul_right _ hg
                rw [Nat.add_mul] at this; omega
              by_cases c1 : i' * es' + j' < j * es' + off
              ·rw [if_pos c1]; exact ⟨u, u1', u2, u3.setRow q3 _⟩
              ·rw [if_neg c1, if_neg (by omega)]; exact ⟨u, u1', u2, u3.setRow q3 _⟩
            ·have hne : bk ≠ b := fun e => ek (m.inj _ _ _ (e ▸ z1) h2)
             rw [hro, if_neg ek]
             exact z2.mono (fun _ h => h) (fun k hk => oth k fun e => q3 (e ▸ hk)) (oth _ hne) (fun h => h)
           ·obtain ⟨g1, ⟨c2, e2, g2⟩, g3, g4, g5⟩ := m.top t' b' ht' hb'
            have hne : b' ≠ b := fun e => g4 i (e ▸ h2)
            refine ⟨g1, ⟨c2, e2, by rw [oth _ hne]; exact g2⟩, g3, g4, fun k hk => ?_⟩
            obtain ⟨bi, cp, k1, k2, k3⟩ := g5 k hk
            rw [hle2 k]
            exact ⟨bi, cp, by rw [cell_of_heap (oth _ hne)]; exact k1, k2, k3⟩) (fun b' hb' => by rw [h2] at hb'; cases hb'; rfl)
          rw [Mu.upd_eq h2] at this
          refine ⟨_, S1, μ, ?_, this.1, a2.trans this.2, by rw [Heap.length_set]; exact a4.1⟩
          simpa [Instr.storeAt, sure_ptr] using hst
         ·cases h
        ·cases h
       ·cases h
      ·cases h
     ·cases h
    ·cases h
 ·cases h
end
end
section
def OpOk (ℓ : Nat) (w : World) (S : Nat → Prop) (μ : Mu) (H : Heap) (r : Result Next) (v : GV) (H' : Heap) : Prop :=
 ∃ nx u w' S' μ', r = .ok nx w' ∧ (nx = .value u ∨ (nx = .skip ∧ u = undef)) ∧ VRel w' S' μ' (H'.length - 1) u v ∧ HRel w' S' μ' H' ∧ Ev ℓ w S μ w' S' μ' ∧ H'.length = H.length
section
variable {w : World} {S : Nat → Prop} {μ : Mu} {H : Heap} {P : Program} {ℓ : Nat}
theorem OpOk.same {u : Value} {v : GV} (hH : HRel w S μ H) (hv : VRel w S μ (H.length - 1) u v) : OpOk ℓ w S μ H (.ok (.value u) w) v H :=
 ⟨_, u, w, S, μ, rfl, .inl rfl, hv, hH, .refl _ _ _ _, rfl⟩
theorem OpOk.of {u : Value} {v : GV} {r : Result Next} (hH : HRel w S μ H) (hv : VRel w S μ (H.length - 1) u v) (hr : r = .ok (.value u) w) : OpOk ℓ w S μ H r v H := by
 subst hr; exact .same hH hv
theorem VRel.bool_inv {k : Nat} {v : Value} {b : Bool} (h : VRel w S μ k v (.pure (.bool b))) : v = .bool b := by
 have := h.pv; cases this; rfl
theorem VRel.int_inv {k : Nat} {v : Value} {q : IntKind} {n : Int} (h : VRel w S μ k v (.pure (.int q n))) : v = .int q n := by
 have := h.pv; cases this; rfl
theorem VRel.str_inv {k : Nat} {v : Value} {l : List UInt8} (h : VRel w S μ k v (.pure (.str l))) : ∃ s : ByteArray, v = .string s ∧ s.data.toList = l := by
 have := h.pv; cases this; exact ⟨_, rfl, rfl⟩
theorem VRel.agg_inv {k : Nat} {v : Value} {l : List PV} (h : VRel w S μ k v (.pure (.agg l))) : ∃ vs : Array Value, v = .agg vs ∧ CRel w S μ k vs.toList (l.map .pure) := by
 have := h.pv
 cases this with
 | agg vs _ h1 h2 h3 =>
  exact ⟨vs, rfl, .of_pures _ _ (by simpa using h1) fun j hj => by
   have a := h2 j hj; have b := h3 j hj
   rw [agetD] at a b; exact ⟨a, b⟩⟩
theorem noNew {nm : Nm} (hH : HRel w S μ H) (hg : H.get nm = none) (top b : Nat) : ∀ n t b', μ n t = some b' → μ.upd nm top b n t = some b' := by
 intro n t b' h
 by_cases e : n = nm
 ·subst e; obtain ⟨y, hy⟩ := hH.bnd _ _ _ h; rw [hg] at hy; cases hy
 ·rw [Mu.upd_other μ _ _ _ e]; exact h
theorem CRel.newN {k : Nat} {vs : List Value} {gs : List GV} {nm : Nm} (h : CRel w S μ k vs gs) (hH : HRel w S μ H) (hg : H.get nm = none) (o : Obj) (top : Nat) :
  CRel (w.alloc o) S (μ.upd nm top w.heap.size) k vs gs :=
 h.mono (fun _ h => h) (fun b hb => alloc_heap w o b (hH.slt b hb)) (alloc_shp w o) (fun n t b _ h => noNew hH hg _ _ n t b h) (Nat.le_refl _)
theorem gnewAt_some {l key : Nat} {b : Blk} {nm : Nm} {H' : Heap} (h : gnewAt H l key b = some (nm, H')) : nm = (l, key) ∧ l < H.length ∧ H.get nm = none ∧ H' = H.set nm b := by
 unfold gnewAt at h
 split at h
 ·cases h
 ·split at h
  ·cases h
  ·rename_i h1 _ h2
   split at h
   ·simp only [Option.some.injEq, Prod.mk.injEq] at h
    obtain ⟨rfl, rfl⟩ := h
    exact ⟨rfl, by omega, h2, rfl⟩
   ·cases h
theorem gnewAt_ty {l key : Nat} {b : Blk} {nm : Nm} {H' : Heap} (h : gnewAt H l key b = some (nm, H')) : tyOk key b = true := by
 unfold gnewAt at h
 split at h
 ·cases h
 ·split at h
  ·cases h
  ·split at h
   ·assumption
   ·cases h
theorem tyE_low {nm : Nm} {e : TypeId} (h : nm.2 < tyBase) : tyE nm e = e := by unfold tyE tyName; rw [if_pos h]
theorem gnewT_some {l t d : Nat} {b : Blk} {nm : Nm} {H' : Heap} (h : gnewT H l t d b = some (nm, H')) :
  nm = (l, tyKey t d) ∧ l < H.length ∧ H.get nm = none ∧ H' = H.set nm b ∧ ∀ e, tyE nm e = t := by
 unfold gnewT at h
 split at h
 ·cases h
 ·split at h
  ·cases h
  ·rename_i h1 _ h2
   split at h
   ·rename_i h3
    simp only [Option.some.injEq, Prod.mk.injEq] at h
    obtain ⟨rfl, rfl⟩ := h
    exact ⟨rfl, by omega, h2, rfl, fun e => by unfold tyE; rw [h3]⟩
   ·cases h
theorem new_boxE {k : Nat} {vs : Array Value} {cs : List GV} {t : TypeId} {nm : Nm} (hH : HRel w S μ H) (hc : CRel w S μ k vs.toList cs) (hk : k ≤ H.length - 1)
  (hn : nm.1 = H.length - 1) (hl : nm.1 < H.length) (hg : H.get nm = none) (ht : tyE nm t = t) :
  OpOk ℓ w S μ H (.ok (.value (.pointer (some ⟨w.heap.size, 0, none⟩))) (w.alloc (.cells vs t))) (.bptr nm 0) (H.set nm (.box cs)) := by
 obtain ⟨h1, h2⟩ := hH.new ℓ hg hl (.cells vs t) 0 (.box cs) (by
  refine ⟨w.heap.size, vs, t, Mu.upd_self _ _ _ _, fun h => ?_, by rw [ht]; exact alloc_new w _, ?_⟩
  ·have := hH.slt _ h; omega
  ·exact (hc.newN hH hg _ 0).up (by omega))
 exact ⟨_, _, _, S, _, rfl, .inl rfl, .bptr _ _ _ (by simp [Heap.length_set]; omega) (Mu.upd_self _ _ _ _), h1, h2, Heap.length_set _ _ _⟩
theorem new_box {k d : Nat} {vs : Array Value} {cs : List GV} {t : TypeId} {nm : Nm} {H' : Heap} (hH : HRel w S μ H) (hc : CRel w S μ k vs.toList cs) (hk : k ≤ H.length - 1)
  (h : gnew H d (.box cs) = some (nm, H')) :
  OpOk ℓ w S μ H (.ok (.value (.pointer (some ⟨w.heap.size, 0, none⟩))) (w.alloc (.cells vs t))) (.bptr nm 0) H' := by
 have ht := gnewAt_ty h
 obtain ⟨rfl, hl, hg, rfl⟩ := gnewAt_some h
 exact new_boxE hH hc hk rfl hl hg (tyE_low (by simpa [tyOk] using ht))
theorem alloc_sound {d : Nat} {t : TypeId} {z : GV} {cs : List GV} {nm : Nm} {H' : Heap} (hH : HRel w S μ H) (hz : tzero P t = some z) (hc : cellsO z = some cs)
  (h : gnew H d (.box cs) = some (nm, H')) :
  OpOk ℓ w S μ H ((do pure (Next.value (← Instr.alloc t true (.tuple #[]))) : Sem Next).run P w) (.bptr nm 0) H' := by
 obtain ⟨v, h1, rfl⟩ := r_zero (P := P) w hz
 have hc' := cellsO_rel (ofConst_rel (w := w) (S := S) (μ := μ) (ℓ := H.length - 1) v) hc
 have := new_box (ℓ := ℓ) (t := t) hH hc' (Nat.le_refl _) h
 simpa [Instr.alloc, h1, newVar, newRow] using this
theorem box_sound {d : Nat} {t : TypeId} {v : Value} {x : GV} {cs : List GV} {nm : Nm} {H' : Heap} (hH : HRel w S μ H) (hx : VRel w S μ (H.length - 1) v x) (hc : cellsO x = some cs)
  (h : gnew H d (.box cs) = some (nm, H')) :
  OpOk ℓ w S μ H ((do pure (Next.value (← Instr.box t v)) : Sem Next).run P w) (.bptr nm 0) H' := by
 have := new_box (ℓ := ℓ) (t := t) hH (cellsO_rel hx hc) (Nat.le_refl _) h
 simpa [Instr.box, newVar, newRow] using this
theorem fold_splice (off : Nat) : ∀ (vs : List Value) (k : Nat) (cells : Array Value), off + k + vs.length ≤ cells.size →
  ((vs.zipIdx k).foldl (fun (cs : Array Value) x => cs.setIfInBounds (off + x.2) x.1) cells).toList = splice cells.toList (off + k) vs
 | [], k, cells, _ => by simp [splice]
 | v :: r, k, cells, h => by
  simp only [List.length_cons] at h
  rw [List.zipIdx_cons, List.foldl_cons, fold_splice off r (k + 1) _ (by simp; omega)]
  apply List.ext_getElem?
  intro j
  have hl : (cells.setIfInBounds (off + k) v).toList = cells.toList.set (off + k) v := by simp
  rw [hl, splice_get _ _ _ _ (by simp; omega), splice_get _ _ _ _ (by simp; omega)]
  simp only [List.length_cons]
  by_cases c1 : j < off + k
  ·rw [if_pos (by omega), if_pos c1, List.getElem?_set, if_neg (by omega)]
  ·by_cases c2 : j = off + k
   ·subst c2
    rw [if_pos (by omega), if_neg (by omega), if_pos (by omega), List.getElem?_set, if_pos rfl]
    simp; omega
   ·by_cases c3 : j < off + k + (r.length + 1)
    ·rw [if_neg (by omega), if_pos (by omega), if_neg c1, if_pos c3]
     obtain ⟨q, hq⟩ : ∃ q, j - (off + k) = q + 1 := ⟨j - (off + k) - 1, by omega⟩
     rw [hq, List.getElem?_cons_succ]; congr 1; omega
    ·rw [if_neg (by omega), if_neg (by omega), if_neg c1, if_neg c3, List.getElem?_set, if_neg (by omega)]
theorem fill_sound {k : Nat} {place place' : Nat → Option (Nat × Nat)} (hp : ∀ i x, place' i = some x → place i = some x) :
    ∀ (ps : List (Nat × GV)) (vs : List (Nat × Value)) (cells : Array Value) (cs cs' : List GV), vs.length = ps.length →
      (∀ j, (h : j < ps.length) → ∃ v, vs[j]? = some (ps[j].1, v) ∧ VRel w S μ k v ps[j].2) → CRel w S μ k cells.toList cs → gfill place' cs ps = some cs' →
      ∃ c, Instr.fill place cells vs = some c ∧ CRel w S μ k c.toList cs'
  | [], vs, cells, cs, cs', hl, _, hc, hf => by
    have : vs = [] := List.eq_nil_of_length_eq_zero (by simpa using hl)
    subst this
    simp only [gfill, Option.some.injEq] at hf; subst hf
    exact ⟨cells, rfl, hc⟩
  | (i, g) :: ps, vs, cells, cs, cs', hl, hr, hc, hf => by
    cases vs with
    | nil => simp at hl
    | cons x vs =>
    obtain ⟨v, hv, hrel⟩ := hr 0 (by simp)
    simp at hv; subst hv
    simp only [gfill] at hf
    split at hf
    · cases hf
    · rename_i off size hpl
      split at hf
      · cases hf
      · rename_i us hus
        split at hf
        · cases hf
        · rename_i hcond
          have hk := cellsO_rel hrel hus
          have hlen := hk.length
          simp only [Array.length_toList] at hlen
          have hcl := hc.length
          simp only [Array.length_toList] at hcl
          have hsz : off + v.cells.size ≤ cells.size := by omega
          have hfold : ((v.cells.zipIdx.foldl (fun cs (c, j) => cs.setIfInBounds (off + j) c) cells)).toList = splice cells.toList off v.cells.toList := by
            have := fold_splice off v.cells.toList 0 cells (by simpa using hsz)
            rw [← Array.foldl_toList]
            simpa using this
          obtain ⟨c, h1, h2⟩ := fill_sound hp ps vs (v.cells.zipIdx.foldl (fun cs (c, j) => cs.setIfInBounds (off + j) c) cells) (splice cs off us) cs' (by simpa using hl)
            (fun j hj => hr (j + 1) (by simpa using hj)) (by rw [hfold]; exact hc.splice hk off) hf
          refine ⟨c, ?_, h2⟩
          simp only [Instr.fill, hp _ _ hpl]
          rw [if_neg (by simp; omega)]
          exact h1
theorem parts_rel (hG : GlbRel w S) {a : Act} {s : Slots} (hs : ∀ t, VRel w S μ ℓ (a.tmps.getD t undef) (look s t)) (parts : Array (Nat × Operand)) :
  (parts.map fun x => (x.1, a.eval x.2)).toList.length = (parts.toList.map (evp s)).length ∧
  ∀ j, (h : j < (parts.toList.map (evp s)).length) → ∃ v, (parts.map fun x => (x.1, a.eval x.2)).toList[j]? = some ((parts.toList.map (evp s))[j].1, v) ∧
   VRel w S μ ℓ v (parts.toList.map (evp s))[j].2 := by
 refine ⟨by simp, fun j h => ?_⟩
 have h' : j < parts.size := by simpa using h
 refine ⟨a.eval parts[j].2, ?_, ?_⟩
 ·simp [h', evp]
 ·simp only [List.getElem_map, Array.getElem_toList, evp]; exact ev_rel hG hs _
theorem places_run (w : World) : ∀ (fs : List Field) (l : List (Nat × Nat)), placesOf P fs = some l → (fs.mapM fun f => do pure (f.offset, ← sizeOf f.type) : Sem (List (Nat × Nat))).run P w = .ok l w
 | [], l, h => by simp [placesOf] at h; subst h; simp
 | f :: r, l, h => by
  simp only [placesOf] at h
  split at h
  ·rename_i n l' h1 h2
   simp only [Option.some.injEq] at h; subst h
   have ih := places_run w r l' h2
   simp only [bind_pure_comp] at ih ⊢
   rw [List.mapM_cons]
   simp [r_size w h1, ih]
  ·cases h
theorem build_sound {t : TypeId} {parts : Array (Nat × Operand)} {a : Act} {s : Slots} {z : GV} {zs cs : List GV} (hH : HRel w S μ H)
    (hs : ∀ t, VRel w S μ (H.length - 1) (a.tmps.getD t undef) (look s t)) (hz : tzero P t = some z) (hzc : cellsO z = some zs)
    (h : (match tarr P t with
          | some (_, e) => (match tsize P e with | some size => gfill (fun i => some (i * size, size)) zs (parts.toList.map (evp s)) | none => none)
          | none => (match tplaces P t with | some l => gfill (fun i => l[i]?) zs (parts.toList.map (evp s)) | none => none)) = some cs) :
    OpOk ℓ w S μ H ((do pure (Next.value (← Instr.build t (parts.map fun x => (x.1, a.eval x.2)))) : Sem Next).run P w) (mkAgg cs) H := by
  obtain ⟨v, h1, rfl⟩ := r_zero (P := P) w hz
  have hc := cellsO_rel (ofConst_rel (w := w) (S := S) (μ := μ) (ℓ := H.length - 1) v) hzc
  obtain ⟨p1, p2⟩ := parts_rel hH.glb hs parts
  unfold tarr tplaces at h
  cases hu : P.underlying t with
  | none => simp [hu] at h
  | some d =>
    cases d with
    | array n e =>
      simp only [hu] at h
      split at h
      · rename_i size hsz
        obtain ⟨c, c1, c2⟩ := fill_sound (place := fun i => some (i * size, size)) (fun i x hx => hx) _ _ v.cells zs cs p1 p2 hc h
        refine .of hH (mkAgg_rel' c2) ?_
        rw [Array.toList_map] at c1
        simp [Instr.build, h1, r_underlying w hu, r_size w hsz, c1]
      · cases h
    | struct fs =>
      simp only [hu] at h
      split at h
      · rename_i l hl
        have hpl := places_run w fs.toList l hl
        obtain ⟨c, c1, c2⟩ := fill_sound (place := fun i => l[i]?) (fun i x hx => hx) _ _ v.cells zs cs p1 p2 hc h
        refine .of hH (mkAgg_rel' c2) ?_
        rw [Array.toList_map] at c1
        simp only [bind_pure_comp] at hpl
        simp [Instr.build, h1, r_underlying w hu, Array.mapM_eq_mapM_toList, hpl, c1]
      · cases h
    | _ => simp [hu] at h
end
end
section
section
variable {w : World} {S : Nat → Prop} {μ : Mu} {H : Heap} {P : Program} {ℓ : Nat}
theorem chunks_length {α : Type} (es : Nat) : ∀ (n : Nat) (l : List α), (chunks es n l).length = n
 | 0, _ => rfl
 | n + 1, l => by simp [chunks, chunks_length es n]
theorem chunks_get {α : Type} (es : Nat) : ∀ (n : Nat) (l : List α) (i : Nat), i < n → (chunks es n l)[i]? = some ((l.drop (i * es)).take es)
 | 0, _, i, h => by omega
 | n + 1, l, i, h => by
  cases i with
  | zero => simp [chunks]
  | succ i =>
   simp only [chunks, List.getElem?_cons_succ]
   rw [chunks_get es n _ i (by omega), List.drop_drop]
   congr 3; rw [Nat.add_mul]; omega
theorem chunks_mem {α : Type} {es n : Nat} {l : List α} (h : l.length = n * es) : ∀ r ∈ chunks es n l, r.length = es := by
 intro r hr
 obtain ⟨i, hi, rfl⟩ := List.getElem_of_mem hr
 have hi' : i < n := by simpa [chunks_length] using hi
 have := chunks_get es n l i hi'
 rw [List.getElem?_eq_getElem hi] at this
 simp only [Option.some.injEq] at this
 rw [this]
 have : (i + 1) * es ≤ n * es := Nat.mul_le_mul_right _ hi'
 rw [Nat.add_mul] at this
 simp; omega
theorem chunks_cell {α : Type} {es n : Nat} {l : List α} (d : α) (i j : Nat) (hi : i < n) (hj : j < es) :
  ((chunks es n l).getD i []).getD j d = l.getD (i * es + j) d := by
 have e : (chunks es n l).getD i [] = (l.drop (i * es)).take es := by rw [List.getD_eq_getElem?_getD, chunks_get es n l i hi]; rfl
 rw [e, List.getD_eq_getElem?_getD, List.getElem?_take, if_pos hj, List.getElem?_drop, List.getD_eq_getElem?_getD]
theorem canon1_rel {k : Nat} {v : Value} {g : GV} (h : VRel w S μ k v g) : VRel w S μ k v (canon1 g) := by
 cases g with
 | nils => cases h with | nils a => exact .pure _ _ (.slice0 a 0)
 | _ => exact h
theorem canon1_cells {k : Nat} {vs : List Value} {gs : List GV} (h : CRel w S μ k vs gs) : CRel w S μ k vs (gs.map canon1) := by
 induction h with
 | nil => exact .nil
 | cons h1 h2 _ ih => exact .cons h1 (canon1_rel h2) ih
theorem canon_rel {k : Nat} {v : Value} {g : GV} (h : VRel w S μ k v g) : VRel w S μ k v (canon g) := by
 have hagg : ∀ {v : Value} {l : List GV}, VRel w S μ k v (.agg l) → VRel w S μ k v (mkAgg (l.map canon1)) := by
  intro v l h
  obtain ⟨vs, rfl, hc⟩ := h.cells
  exact mkAgg_rel' (canon1_cells hc)
 cases g with
 | nils => exact canon1_rel h
 | agg l => exact hagg h
 | tuple l =>
  cases h with
  | tuple vs _ h1 h2 =>
   refine mkTuple_rel (by simpa using h1) fun j hj => ?_
   have hj' : j < l.length := by simpa using hj
   have h3 := h2 j hj'
   simp only [List.getD_eq_getElem?_getD, List.getElem?_map, List.getElem?_eq_getElem hj', Option.map_some, Option.getD_some] at h3 ⊢
   split
   ·rename_i l' e; rw [e] at h3; exact hagg h3
   ·exact canon1_rel h3
 | _ => exact h
theorem chunkCell {es n : Nat} {cs : List GV} (i j : Nat) (hi : i < n) (hj : j < es) : ((chunks es n cs).getD i []).getD j gdead = cs.getD (i * es + j) gdead := chunks_cell gdead i j hi hj
theorem mod_range {α : Type} (z : Array α) [Inhabited α] (len : Nat) : ((Array.range (len * z.size)).map (z[· % z.size]!)).toList = (List.replicate len z.toList).flatten := by
 by_cases hz : z.size = 0
 ·simp [hz, Array.eq_empty_of_size_eq_zero hz]
 induction len with
 | zero => simp
 | succ n ih =>
  rw [List.replicate_succ', List.flatten_append, ← ih, Nat.add_mul, Nat.one_mul]
  simp only [Array.toList_map, Array.toList_range, List.flatten_cons, List.flatten_nil, List.append_nil]
  rw [List.range_add, List.map_append, List.map_map]
  congr 1
  apply List.ext_getElem
  ·simp
  ·intro i h1 h2
   have h2' : i < z.size := by simpa using h2
   simp only [List.getElem_map, List.getElem_range, Function.comp]
   rw [Nat.mul_comm n, Nat.mul_add_mod, Nat.mod_eq_of_lt h2']
   simp [h2']
theorem gfill_length {place : Nat → Option (Nat × Nat)} : ∀ (ps : List (Nat × GV)) (q cs : List GV), gfill place q ps = some cs → cs.length = q.length
  | [], q, cs, hf => by simp [gfill] at hf; subst hf; rfl
  | (i, g) :: ps, q, cs, hf => by
    simp only [gfill] at hf
    cases hp : place i with
    | none => rw [hp] at hf; cases hf
    | some x =>
      obtain ⟨off, size⟩ := x
      rw [hp] at hf
      simp only at hf
      cases hc : cellsO g with
      | none => rw [hc] at hf; cases hf
      | some us =>
        rw [hc] at hf
        simp only at hf
        by_cases hcond : us.length ≠ size ∨ off + us.length > q.length
        · rw [if_pos hcond] at hf; cases hf
        · rw [if_neg hcond] at hf
          rw [gfill_length ps _ _ hf, splice_length _ _ _ (by omega)]
theorem buildSlice_run {t e : TypeId} {len size : Nat} {parts : Array (Nat × Operand)} {a : Act} {s : Slots} {z : GV} {zs cs : List GV} (hH : HRel w S μ H)
  (hs : ∀ t, VRel w S μ (H.length - 1) (a.tmps.getD t undef) (look s t)) (hu : telem P t = some e) (hsz : tsize P e = some size) (hz : tzero P e = some z) (hzc : cellsO z = some zs)
  (hzl : zs.length = size) (hpos : 0 < size) (hmax : len * size ≤ 16777216)
  (h : gfill (fun i => some (i * size, size)) (List.replicate len zs).flatten (parts.toList.map (evp s)) = some cs) :
  ∃ c : Array Value, CRel w S μ (H.length - 1) c.toList cs ∧ cs.length = len * size ∧
   (Instr.buildSlice t len (parts.map fun x => (x.1, a.eval x.2))).run P w = .ok (.slice (some ⟨w.heap.size, 0, none⟩) len len) (w.alloc (.cells c e)) := by
 obtain ⟨v, h1, rfl⟩ := r_zero (P := P) w hz
 have hc := cellsO_rel (ofConst_rel (w := w) (S := S) (μ := μ) (ℓ := H.length - 1) v) hzc
 have hvl : v.cells.size = size := by have := hc.length; simp at this; omega
 obtain ⟨p1, p2⟩ := parts_rel hH.glb hs parts
 have hu' : P.underlying t = some (.slice e) := by
  unfold telem at hu
  split at hu
  ·rename_i e' he; simp at hu; subst hu; exact he
  ·cases hu
 by_cases h0 : len * size = 0
 ·have hl0 : len = 0 := by rcases Nat.mul_eq_zero.1 h0 with h | h <;> omega
  subst hl0
  obtain ⟨c, c1, c2⟩ := fill_sound (w := w) (S := S) (μ := μ) (k := H.length - 1) (place := fun i => some (i * size, size)) (fun i x hx => hx) _ _ #[] _ cs p1 p2 (by simp; exact .nil) h
  rw [Array.toList_map] at c1
  have hcs : cs.length = 0 := by rw [gfill_length _ _ _ h]; simp
  have e0 : ∀ f : Nat → Value, Array.map f (Array.range 0) = #[] := fun f => Array.eq_empty_of_size_eq_zero (by simp)
  refine ⟨c, c2, by omega, ?_⟩
  simp [Instr.buildSlice, r_underlying w hu', r_size w hsz, newRow, e0, c1]
 ·have hcells : CRel w S μ (H.length - 1) (((Array.range (len * size)).map (v.cells[· % v.cells.size]!))).toList (List.replicate len zs).flatten := by
   have := mod_range v.cells len
   rw [hvl] at this ⊢
   rw [this]
   exact hc.replicate len
  obtain ⟨c, c1, c2⟩ := fill_sound (place := fun i => some (i * size, size)) (fun i x hx => hx) _ _ _ _ cs p1 p2 hcells h
  rw [Array.toList_map] at c1
  have hcs : cs.length = len * size := by rw [gfill_length _ _ _ h]; simp [List.length_flatten, hzl]
  refine ⟨c, c2, hcs, ?_⟩
  have hng : ¬ len * size > 2 ^ 24 := by omega
  simp only [Nat.mul_eq_zero] at h0
  simp [Instr.buildSlice, r_underlying w hu', r_size w hsz, newRow, hng, h0, h1, c1]
  intro hh; exact absurd (Nat.mul_eq_zero.1 hh) h0
theorem telem_some {t e : TypeId} (hu : telem P t = some e) : P.underlying t = some (.slice e) := by
 unfold telem at hu
 split at hu
 ·rename_i e' he; simp at hu; subst hu; exact he
 ·cases hu
theorem lits_sound {t e : TypeId} {len size : Nat} {parts : Array (Nat × Operand)} {a : Act} {s : Slots} {z : GV} {zs cs : List GV} (hH : HRel w S μ H)
  (hs : ∀ t, VRel w S μ (H.length - 1) (a.tmps.getD t undef) (look s t)) (hu : telem P t = some e) (hsz : tsize P e = some size) (hz : tzero P e = some z) (hzc : cellsO z = some zs)
  (hzl : zs.length = size) (hpos : 0 < size) (hmax : len * size ≤ 16777216)
  (h : gfill (fun i => some (i * size, size)) (List.replicate len zs).flatten (parts.toList.map (evp s)) = some cs) :
  OpOk ℓ w S μ H ((do pure (Next.value (← Instr.buildSlice t len (parts.map fun x => (x.1, a.eval x.2)))) : Sem Next).run P w) (if len = 0 then .nils else .lits (chunks size len cs)) H := by
 obtain ⟨c, h1, h2, h3⟩ := buildSlice_run hH hs hu hsz hz hzc hzl hpos hmax h
 obtain ⟨a1, a2⟩ := hH.lit ℓ (.cells c e)
 refine ⟨_, _, _, _, μ, by simp [h3]; rfl, .inl rfl, ?_, a1, a2, rfl⟩
 split
 ·rename_i h0; subst h0; exact .nils _
 ·have hck : c.size = len * size := by have := h1.length; simp at this; omega
  have := VRel.lits (w := w.alloc (.cells c e)) (S := fun b => S b ∨ b = w.heap.size) (μ := μ) (ℓ := H.length - 1) w.heap.size 0 len size (chunks size len cs) (fun i j => c.getD (i * size + j) undef)
   (.inr rfl) hpos (chunks_mem h2) (fun i j hi hj => by
    rw [chunks_length] at hi
    have hlt : i * size + j < c.size := by
     have : (i + 1) * size ≤ len * size := Nat.mul_le_mul_right _ hi
     rw [Nat.add_mul] at this; omega
    simp only [World.cell?, alloc_new, Nat.zero_add]
    simp [Array.getD_eq_getD_getElem?, hlt])
   (fun i j hi hj => by
    rw [chunks_length] at hi
    have hlt : i * size + j < cs.length := by
     have : (i + 1) * size ≤ len * size := Nat.mul_le_mul_right _ hi
     rw [Nat.add_mul] at this; omega
    rw [agetD]; exact (h1.getD _ hlt).1)
   (fun i j hi hj => by
    rw [chunks_length] at hi
    have hlt : i * size + j < cs.length := by
     have : (i + 1) * size ≤ len * size := Nat.mul_le_mul_right _ hi
     rw [Nat.add_mul] at this; omega
    rw [agetD, chunkCell i j hi hj]
    exact (h1.getD _ hlt).2.mono (fun b h => .inl h) (fun b hb => alloc_heap w _ b (hH.slt b hb)) (alloc_shp w _) (fun _ _ _ _ h => h) (Nat.le_refl _)) (by rw [chunks_length])
  rw [chunks_length] at this
  exact this
theorem lit_sound {t e : TypeId} {len size : Nat} {parts : Array (Nat × Operand)} {a : Act} {s : Slots} {z : GV} {zs cs : List GV} {ps : List PV} (hH : HRel w S μ H)
  (hs : ∀ t, VRel w S μ (H.length - 1) (a.tmps.getD t undef) (look s t)) (hu : telem P t = some e) (hsz : tsize P e = some size) (hz : tzero P e = some z) (hzc : cellsO z = some zs)
  (hzl : zs.length = size) (hpos : 0 < size) (hmax : len * size ≤ 16777216)
  (h : gfill (fun i => some (i * size, size)) (List.replicate len zs).flatten (parts.toList.map (evp s)) = some cs) (hp : allPure (cs.map canon1) = some ps) (h0 : len ≠ 0) :
  OpOk ℓ w S μ H ((do pure (Next.value (← Instr.buildSlice t len (parts.map fun x => (x.1, a.eval x.2)))) : Sem Next).run P w) (.pure (.slice (chunks size len ps))) H := by
 obtain ⟨c, h1, h2, h3⟩ := buildSlice_run hH hs hu hsz hz hzc hzl hpos hmax h
 obtain ⟨a1, a2⟩ := hH.lit ℓ (.cells c e)
 refine ⟨_, _, _, _, μ, by simp [h3]; rfl, .inl rfl, ?_, a1, a2, rfl⟩
 have h1' := canon1_cells h1
 rw [allPure_some hp] at h1'
 obtain ⟨q1, q2⟩ := CRel.pures _ _ h1'
 have hpl : ps.length = len * size := by have := h1.length; simp at q1 this; omega
 have hck : c.size = len * size := by simp at q1; omega
 have := PRep.slice (w := w.alloc (.cells c e)) (S := fun b => S b ∨ b = w.heap.size) w.heap.size 0 len size (chunks size len ps) (fun i j => c.getD (i * size + j) undef)
  (.inr rfl) hpos (chunks_mem hpl) (fun i j hi hj => by
   rw [chunks_length] at hi
   have hlt : i * size + j < c.size := by
    have : (i + 1) * size ≤ len * size := Nat.mul_le_mul_right _ hi
    rw [Nat.add_mul] at this; omega
   simp only [World.cell?, alloc_new, Nat.zero_add]
   simp [Array.getD_eq_getD_getElem?, hlt])
  (fun i j hi hj => by
   rw [chunks_length] at hi
   have hlt : i * size + j < ps.length := by
    have : (i + 1) * size ≤ len * size := Nat.mul_le_mul_right _ hi
    rw [Nat.add_mul] at this; omega
   rw [agetD]; exact (q2 _ hlt).1)
  (fun i j hi hj => by
   rw [chunks_length] at hi
   have hlt : i * size + j < ps.length := by
    have : (i + 1) * size ≤ len * size := Nat.mul_le_mul_right _ hi
    rw [Nat.add_mul] at this; omega
   rw [agetD, chunks_cell PV.dead i j hi hj]
   exact (q2 _ hlt).2.mono (fun b h => .inl h) (fun b hb => alloc_heap w _ b (hH.slt b hb)))
  (by rw [chunks_length]; omega)
 rw [chunks_length] at this
 exact .pure _ _ this
theorem new_rowE {nm : Nm} {size n cap : Nat} {rows : List (List PV)} {c : Array Value} {e : TypeId} (hH : HRel w S μ H)
  (hl : nm.1 < H.length) (hg : H.get nm = none) (ht : tyE nm e = e) (hpos : 0 < size) (hrows : ∀ r ∈ rows, r.length = size) (hn : rows.length = n) (hcap : n ≤ cap) (hsz : cap * size ≤ c.size)
  (hc : ∀ i j, i < n → j < size → (c.getD (i * size + j) undef).oneCell' = true ∧ PRep w S (c.getD (i * size + j) undef) ((rows.getD i []).getD j .dead)) :
  ∃ μ', VRel (w.alloc (.cells c e)) S μ' (H.length - 1) (.slice (some ⟨w.heap.size, 0, none⟩) n cap) (.hdr nm size n 0 n) ∧ HRel (w.alloc (.cells c e)) S μ' (H.set nm (.arr size rows 0 false)) ∧
   Ev ℓ w S μ (w.alloc (.cells c e)) S μ' ∧ μ' nm n = some w.heap.size := by
 have hno : ∀ t b, μ nm t ≠ some b := fun t b h => by obtain ⟨y, hy⟩ := hH.bnd _ _ _ h; rw [hg] at hy; cases hy
 obtain ⟨h1, h2⟩ := hH.new ℓ hg hl (.cells c e) n (.arr size rows 0 false) (by
  refine ⟨hpos, hrows, Nat.zero_le _, ⟨w.heap.size, by rw [hn]; exact Mu.upd_self _ _ _ _⟩, fun top b hb => ?_⟩
  by_cases et : top = n
  ·subst et
   rw [Mu.upd_self] at hb; cases hb
   refine ⟨by omega, ⟨c, e, by rw [ht]; exact alloc_new w _⟩, fun _ hS => ?_, fun _ => ⟨fun h => (by cases h), fun i j hi hj => ?_⟩⟩
   ·have := hH.slt _ hS; omega
   ·obtain ⟨z1, z2⟩ := hc i j hi hj
    have hlt : i * size + j < c.size := by
     have : (i + 1) * size ≤ cap * size := Nat.mul_le_mul_right _ (by omega)
     rw [Nat.add_mul] at this; omega
    refine ⟨c.getD (i * size + j) undef, ?_, z1, z2.mono (fun _ h => h) (fun b hb => alloc_heap w _ b (hH.slt b hb))⟩
    simp only [World.cell?, alloc_new]
    simp [Array.getD_eq_getD_getElem?, hlt]
  ·rw [Mu.upd_top μ _ _ et] at hb; exact absurd hb (hno _ _))
 refine ⟨_, ?_, h1, h2, Mu.upd_self _ _ _ _⟩
 have := VRel.hdr (w := w.alloc (.cells c e)) (S := S) (μ := μ.upd nm n w.heap.size) (ℓ := H.length - 1) nm size n 0 n cap w.heap.size c.size e
  (by omega) (Mu.upd_self _ _ _ _) (by omega) (by omega) (by unfold World.shape?; rw [alloc_new]) (by rw [Nat.zero_add]; exact hsz)
 rw [Nat.zero_mul] at this
 exact this
theorem new_row {l key : Nat} {nm : Nm} {H' : Heap} {size n cap : Nat} {rows : List (List PV)} {c : Array Value} {e : TypeId} (hH : HRel w S μ H)
  (h : gnewAt H l key (.arr size rows 0 false) = some (nm, H')) (hpos : 0 < size) (hrows : ∀ r ∈ rows, r.length = size) (hn : rows.length = n) (hcap : n ≤ cap) (hsz : cap * size ≤ c.size)
  (hc : ∀ i j, i < n → j < size → (c.getD (i * size + j) undef).oneCell' = true ∧ PRep w S (c.getD (i * size + j) undef) ((rows.getD i []).getD j .dead)) :
  ∃ μ', VRel (w.alloc (.cells c e)) S μ' (H'.length - 1) (.slice (some ⟨w.heap.size, 0, none⟩) n cap) (.hdr nm size n 0 n) ∧ HRel (w.alloc (.cells c e)) S μ' H' ∧
   Ev ℓ w S μ (w.alloc (.cells c e)) S μ' ∧ H'.length = H.length := by
 have ht := gnewAt_ty h
 obtain ⟨rfl, hl, hg, rfl⟩ := gnewAt_some h
 obtain ⟨μ', a1, a2, a3, _⟩ := new_rowE (ℓ := ℓ) hH (nm := (l, key)) hl hg (tyE_low (by simpa [tyOk] using ht)) hpos hrows hn hcap hsz hc
 exact ⟨μ', by rw [Heap.length_set]; exact a1, a2, a3, Heap.length_set _ _ _⟩
theorem new_rowT {l t d : Nat} {nm : Nm} {H' : Heap} {size n cap : Nat} {rows : List (List PV)} {c : Array Value} (hH : HRel w S μ H)
  (h : gnewT H l t d (.arr size rows 0 false) = some (nm, H')) (hpos : 0 < size) (hrows : ∀ r ∈ rows, r.length = size) (hn : rows.length = n) (hcap : n ≤ cap) (hsz : cap * size ≤ c.size)
  (hc : ∀ i j, i < n → j < size → (c.getD (i * size + j) undef).oneCell' = true ∧ PRep w S (c.getD (i * size + j) undef) ((rows.getD i []).getD j .dead)) :
  ∃ μ', VRel (w.alloc (.cells c t)) S μ' (H'.length - 1) (.slice (some ⟨w.heap.size, 0, none⟩) n cap) (.hdr nm size n 0 n) ∧ HRel (w.alloc (.cells c t)) S μ' H' ∧
   Ev ℓ w S μ (w.alloc (.cells c t)) S μ' ∧ H'.length = H.length := by
 obtain ⟨rfl, hl, hg, rfl, ht⟩ := gnewT_some h
 obtain ⟨μ', a1, a2, a3, _⟩ := new_rowE (ℓ := ℓ) hH hl hg (ht t) hpos hrows hn hcap hsz hc
 exact ⟨μ', by rw [Heap.length_set]; exact a1, a2, a3, Heap.length_set _ _ _⟩
theorem new_rowK (K : Ctx) {l key : Nat} {nm : Nm} {H' : Heap} {size n cap : Nat} {rows : List (List PV)} {c : Array Value} {e : TypeId} (hH : HRel w S μ H)
  (h : gnewE K H l e key (.arr size rows 0 false) = some (nm, H')) (hpos : 0 < size) (hrows : ∀ r ∈ rows, r.length = size) (hn : rows.length = n) (hcap : n ≤ cap) (hsz : cap * size ≤ c.size)
  (hc : ∀ i j, i < n → j < size → (c.getD (i * size + j) undef).oneCell' = true ∧ PRep w S (c.getD (i * size + j) undef) ((rows.getD i []).getD j .dead)) :
  ∃ μ', VRel (w.alloc (.cells c e)) S μ' (H'.length - 1) (.slice (some ⟨w.heap.size, 0, none⟩) n cap) (.hdr nm size n 0 n) ∧ HRel (w.alloc (.cells c e)) S μ' H' ∧
   Ev ℓ w S μ (w.alloc (.cells c e)) S μ' ∧ H'.length = H.length := by
 unfold gnewE at h
 split at h
 ·exact new_rowT hH h hpos hrows hn hcap hsz hc
 ·exact new_row hH h hpos hrows hn hcap hsz hc
end
end
section
section
variable {w : World} {S : Nat → Prop} {μ : Mu} {H : Heap} {P : Program} {ℓ : Nat}
def RowsAt (w : World) (S : Nat → Prop) (cells : Array Value) (xs : List (List PV)) (size : Nat) : Prop :=
 cells.size = xs.length * size ∧ ∀ i j, i < xs.length → j < size → (cells.getD (i * size + j) undef).oneCell' = true ∧ PRep w S (cells.getD (i * size + j) undef) ((xs.getD i []).getD j .dead)
theorem rows_lt {n size i j : Nat} (hi : i < n) (hj : j < size) : i * size + j < n * size := by
 have : (i + 1) * size ≤ n * size := Nat.mul_le_mul_right _ hi
 rw [Nat.add_mul] at this; omega
theorem div_row {size i j : Nat} (hj : j < size) : (i * size + j) / size = i ∧ (i * size + j) % size = j := by
 constructor
 ·rw [Nat.mul_comm, Nat.mul_add_div (by omega), Nat.div_eq_of_lt hj]; omega
 ·rw [Nat.mul_comm, Nat.mul_add_mod, Nat.mod_eq_of_lt hj]
theorem load_rows {w2 : World} (hw : w2.heap = w.heap) {b o n size : Nat} (hpos : 0 < size) (f : Nat → Nat → Value) (hf : ∀ i j, i < n → j < size → w.cell? ⟨b, o + (i * size + j), none⟩ = some (f i j)) :
  ∃ cells : Array Value, (loadCells ⟨b, o, none⟩ (n * size)).run P w2 = .ok cells w2 ∧ cells.size = n * size ∧ ∀ i j, i < n → j < size → cells.getD (i * size + j) undef = f i j := by
 have hlen : ((List.range (n * size)).map fun q => f (q / size) (q % size)).length = n * size := by simp
 have hc : CellsAt w2 b o ((List.range (n * size)).map fun q => f (q / size) (q % size)) := by
  have : CellsAt w b o ((List.range (n * size)).map fun q => f (q / size) (q % size)) := cellsAt_map fun q hq => by
   have h1 : q / size < n := by rw [Nat.div_lt_iff_lt_mul hpos]; exact hq
   have h2 : q % size < size := Nat.mod_lt _ hpos
   have := hf _ _ h1 h2
   rwa [Nat.div_add_mod' q size] at this
  intro j v hv
  have := this j v hv
  unfold World.cell? at this ⊢; rw [hw]; exact this
 have := r_loadCells (P := P) w2 hc
 rw [hlen] at this
 refine ⟨_, this, by simp, fun i j hi hj => ?_⟩
 obtain ⟨d1, d2⟩ := div_row (i := i) hj
 rw [agetD]
 simp [List.getD_eq_getElem?_getD, rows_lt hi hj, d1, d2]
theorem pureRows_rel (ℓ : Nat) {size : Nat} : ∀ (l : List (List GV)) (f : Nat → Nat → Value) (S : Nat → Prop) (H : Heap) (k : Nat), HRel w S μ H → (∀ r ∈ l, r.length = size) →
  (∀ i j, i < l.length → j < size → (f i j).oneCell' = true ∧ VRel w S μ k (f i j) ((l.getD i []).getD j gdead)) →
  ∃ S', HRel w S' μ (pureRows H l).2 ∧ Ev ℓ w S μ w S' μ ∧ SameBox H (pureRows H l).2 ∧ (pureRows H l).1.length = l.length ∧ (∀ r ∈ (pureRows H l).1, r.length = size) ∧
   ∀ i j, i < l.length → j < size → PRep w S' (f i j) (((pureRows H l).1.getD i []).getD j .dead)
 | [], f, S, H, k, hH, _, _ => ⟨S, hH, .refl _ _ _ _, .refl H, rfl, by simp [pureRows], by simp⟩
 | r :: l, f, S, H, k, hH, hl, hr => by
  have hrl : r.length = size := hl r (by simp)
  have hc : CRel w S μ k ((List.range r.length).map (f 0)) r := crel_map fun j hj => by simpa using hr 0 j (by simp) (by omega)
  obtain ⟨S1, a1, a2, a3, a4⟩ := pureCells_rel ℓ hH hc
  obtain ⟨S2, b1, b2, b3, b4, b6, b5⟩ := pureRows_rel ℓ l (fun i => f (i + 1)) S1 _ k a1 (fun x hx => hl x (by simp [hx])) (fun i j hi hj => by
   have := hr (i + 1) j (by simpa using hi) hj
   exact ⟨this.1, by simpa using this.2.mono a2.sub (fun _ _ => rfl) (fun _ _ h => h) (fun _ _ _ _ h => h) (Nat.le_refl _)⟩)
  have hpl : (pureCells H r).1.length = size := by have := a3.length; simp at this; omega
  refine ⟨S2, b1, a2.trans b2, a4.trans b3, by simp [pureRows, b4], fun x hx => ?_, fun i j hi hj => ?_⟩
  ·simp only [pureRows, List.mem_cons] at hx
   rcases hx with rfl | hx
   ·exact hpl
   ·exact b6 x hx
  ·cases i with
   | zero =>
    obtain ⟨q1, q2⟩ := CRel.pures _ _ a3
    have := (q2 j (by omega)).2
    simp only [pureRows, List.getD_cons_zero]
    have e : ((List.range r.length).map (f 0)).getD j undef = f 0 j := by simp [List.getD_eq_getElem?_getD, hrl, hj]
    rw [e] at this
    exact this.mono b2.sub (fun _ _ => rfl)
   | succ i => simp only [pureRows, List.getD_cons_succ]; exact b5 i j (by simpa using hi) hj
theorem gelems_sound (ℓ : Nat) {k : Nat} {v : Value} {x : GV} {xs : List (List PV)} {H1 : Heap} {size : Nat} (hH : HRel w S μ H) (hv : VRel w S μ k v x) (h : gelems H x = some (xs, H1))
  (hpos : 0 < size) (hsz : ∀ r ∈ xs, r.length = size) :
  ∃ S1, HRel w S1 μ H1 ∧ Ev ℓ w S μ w S1 μ ∧ SameBox H H1 ∧ (∀ w2 : World, (Builtin.lenOf v).run P w2 = .ok xs.length w2) ∧
   ∀ w2 : World, w2.heap = w.heap → ∃ cells, (Builtin.firstCells size xs.length v).run P w2 = .ok cells w2 ∧ RowsAt w S1 cells xs size := by
 have rowlen : ∀ (l : List (List PV)) (es : Nat), l ≠ [] → (∀ r ∈ l, r.length = es) → (∀ r ∈ l, r.length = size) → es = size := by
  intro l es hne h1 h2
  cases l with
  | nil => exact absurd rfl hne
  | cons r l => have a := h1 r (by simp); have b := h2 r (by simp); omega
 cases x with
 | nils =>
  simp only [gelems, Option.some.injEq, Prod.mk.injEq] at h
  obtain ⟨rfl, rfl⟩ := h
  cases hv with | nils a =>
  refine ⟨S, hH, .refl _ _ _ _, .refl H, fun w2 => rfl, fun w2 _ => ⟨#[], ?_, by simp, by simp⟩⟩
  cases a <;> simp [Builtin.firstCells, loadCells, loadCellsFrom]
 | pure p =>
  cases p with
  | slice l =>
   simp only [gelems, Option.some.injEq, Prod.mk.injEq] at h
   obtain ⟨rfl, rfl⟩ := h
   refine ⟨S, hH, .refl _ _ _ _, .refl H, ?_⟩
   have := hv.pv
   cases this with
   | slice0 a cap =>
    refine ⟨fun w2 => rfl, fun w2 _ => ⟨#[], ?_, by simp, by simp⟩⟩
    cases a <;> simp [Builtin.firstCells, loadCells, loadCellsFrom]
   | slice b o cap es _ f hS he hes hf h1 hr hcp =>
    refine ⟨fun w2 => rfl, fun w2 hw => ?_⟩
    by_cases hne : l = []
    ·subst hne
     exact ⟨#[], by simp [Builtin.firstCells, loadCells, loadCellsFrom], by simp, by simp⟩
    ·obtain rfl : es = size := rowlen l es hne hes hsz
     obtain ⟨cells, c1, c2, c3⟩ := load_rows (P := P) hw he f hf
     exact ⟨cells, by simpa [Builtin.firstCells] using c1, c2, fun i j hi hj => by rw [c3 i j hi hj]; exact ⟨h1 i j hi hj, hr i j hi hj⟩⟩
  | str l =>
   simp only [gelems, Option.some.injEq, Prod.mk.injEq] at h
   obtain ⟨rfl, rfl⟩ := h
   obtain ⟨s, rfl, hs⟩ := hv.str_inv
   refine ⟨S, hH, .refl _ _ _ _, .refl H, fun w2 => ?_, fun w2 _ => ?_⟩
   ·subst hs; simp [Builtin.lenOf]
   ·by_cases hne : l = []
    ·subst hne
     refine ⟨#[], ?_, by simp, by simp⟩
     have : s.extract 0 0 = ByteArray.empty := by ext1; simp
     simp [Builtin.firstCells, this]
    ·have hs1 : size = 1 := by
      cases l with
      | nil => exact absurd rfl hne
      | cons b r => have := hsz [.int .u8 b.toNat] (by simp); simpa using this.symm
     subst hs1
     have hex : s.extract 0 l.length = s := by
      have : l.length = s.size := by subst hs; simp
      rw [this]; ext1; simp
     refine ⟨s.data.map fun b => .int .u8 b.toNat, ?_, ?_, fun i j hi hj => ?_⟩
     ·simp only [List.length_map]
      simp [Builtin.firstCells, hex]
     ·subst hs; simp
     ·obtain rfl : j = 0 := by omega
      have hi' : i < l.length := by simpa using hi
      have hi2 : i < s.data.size := by subst hs; simpa using hi'
      rw [agetD]
      have e : (s.data.map fun b => Value.int .u8 b.toNat).toList.getD (i * 1 + 0) undef = .int .u8 (l[i]).toNat := by
       subst hs; simp [List.getD_eq_getElem?_getD, Array.getElem?_eq_getElem hi2]
      have e2 : ((l.map fun b => [PV.int .u8 b.toNat]).getD i []).getD 0 .dead = .int .u8 (l[i]).toNat := by
       simp [List.getD_eq_getElem?_getD, hi']
      rw [e, e2]; exact ⟨rfl, .int _ _⟩
  | _ => simp [gelems] at h
 | lits l =>
  simp only [gelems, Option.some.injEq] at h
  cases hv with
  | lits b o cap es _ f hS he hes hf h1 hr =>
  by_cases hne : l = []
  ·subst hne
   simp only [pureRows, Prod.mk.injEq] at h
   obtain ⟨rfl, rfl⟩ := h
   exact ⟨S, hH, .refl _ _ _ _, .refl H, fun w2 => rfl, fun w2 _ => ⟨#[], by simp [Builtin.firstCells, loadCells, loadCellsFrom], by simp, by simp⟩⟩
  ·obtain ⟨S1, b1, b2, b3, b4, b6, b5⟩ := pureRows_rel ℓ l f S H k hH hes (fun i j hi hj => ⟨h1 i j hi hj, hr i j hi hj⟩)
   rw [h] at b1 b3 b4 b5 b6
   simp only at b1 b3 b4 b5 b6
   have hxne : xs ≠ [] := by intro e; subst e; exact hne (List.eq_nil_of_length_eq_zero (by simpa using b4.symm))
   obtain rfl : es = size := rowlen xs es hxne b6 hsz
   refine ⟨S1, b1, b2, b3, fun w2 => by simp [Builtin.lenOf, b4], fun w2 hw => ?_⟩
   obtain ⟨cells, c1, c2, c3⟩ := load_rows (P := P) hw he f hf
   refine ⟨cells, by rw [b4]; simpa [Builtin.firstCells] using c1, by rw [b4]; exact c2, fun i j hi hj => ?_⟩
   rw [b4] at hi
   rw [c3 i j hi hj]; exact ⟨h1 i j hi hj, b5 i j hi hj⟩
 | hdr nm es top lo len =>
  simp only [gelems, sliceOf] at h
  split at h
  ·rename_i l hl
   simp only [Option.some.injEq, Prod.mk.injEq] at h
   obtain ⟨rfl, rfl⟩ := h
   split at hl
   ·rename_i es' elems vf ro hg
    split at hl
    ·rename_i hc
     obtain ⟨rfl, hvf, hlen, htop⟩ := hc
     simp only [PV.slice.injEq] at hl; subst hl
     cases hv with
     | hdr _ _ _ _ _ cap b n e h1 h2 h3 h4 h5 h6 =>
     obtain ⟨h0, k1, k2, k3, k4⟩ := hH.blk _ _ hg _ _ h2
     obtain ⟨g1, g2, g3, g4⟩ := k4 top b h2
     obtain ⟨_, g5⟩ := g4 hvf
     have hlen2 : ((elems.drop lo).take len).length = len := by simp; omega
     refine ⟨S, hH, .refl _ _ _ _, .refl H, fun w2 => by rw [hlen2]; rfl, fun w2 hw => ?_⟩
     rw [hlen2]
     by_cases hz : len = 0
     ·subst hz
      exact ⟨#[], by simp [Builtin.firstCells, loadCells, loadCellsFrom], by simp, by simp⟩
     ·have hne : (elems.drop lo).take len ≠ [] := by intro e; rw [e] at hlen2; simp at hlen2; omega
      obtain rfl : es' = size := rowlen _ es' hne (fun r hr => k1 r (List.mem_of_mem_drop (List.mem_of_mem_take hr))) hsz
      obtain ⟨cells, c1, c2, c3⟩ := load_rows (P := P) (b := b) (o := lo * es') (n := len) hw h0 (fun i j => (w.cell? ⟨b, (lo + i) * es' + j, none⟩).getD undef) (fun i j hi hj => by
       obtain ⟨u, u1, u2, u3⟩ := g5 (lo + i) j (by omega) hj
       have e : lo * es' + (i * es' + j) = (lo + i) * es' + j := by rw [Nat.add_mul]; omega
       rw [e, u1]; rfl)
      refine ⟨cells, by simpa [Builtin.firstCells] using c1, by rw [hlen2]; exact c2, fun i j hi hj => ?_⟩
      rw [hlen2] at hi
      obtain ⟨u, u1, u2, u3⟩ := g5 (lo + i) j (by omega) hj
      have hget : (((elems.drop lo).take len).getD i []) = elems.getD (lo + i) [] := by
       simp [List.getD_eq_getElem?_getD, List.getElem?_take, hi, List.getElem?_drop]
      rw [c3 i j hi hj, u1, hget]
      exact ⟨u2, u3⟩
    ·cases hl
   ·cases hl
  ·cases h
 | _ => simp [gelems] at h
theorem growBy_le (n : Nat) : ∀ (r c : Nat), Builtin.growBy n r c ≤ (c + 768) * 2 ^ r
 | 0, c => by simp [Builtin.growBy]
 | r + 1, c => by
  unfold Builtin.growBy
  split
  ·have : 1 ≤ 2 ^ (r + 1) := Nat.one_le_two_pow
   calc c ≤ (c + 768) * 1 := by omega
    _ ≤ _ := Nat.mul_le_mul_left _ this
  ·have h1 := growBy_le n r (c + (c + 768) / 4)
   have h2 : c + (c + 768) / 4 + 768 ≤ (c + 768) * 2 := by omega
   calc _ ≤ (c + (c + 768) / 4 + 768) * 2 ^ r := h1
    _ ≤ (c + 768) * 2 * 2 ^ r := Nat.mul_le_mul_right _ h2
    _ = (c + 768) * 2 ^ (r + 1) := by rw [Nat.pow_succ]; rw [Nat.mul_assoc, Nat.mul_comm 2]
theorem slicecap_le (need cap : Nat) (h : cap < need) : Builtin.nextslicecap need cap ≤ 16 * (need + 768) := by
 unfold Builtin.nextslicecap
 split
 ·omega
 ·split
  ·omega
  ·refine Nat.le_trans (growBy_le need 4 cap) ?_
   have e : (2 : Nat) ^ 4 = 16 := by decide
   rw [e]; omega
theorem cap_ok {need cap bytes : Nat} (h : cap < need) (hb : bytes ≤ 1048576) (hn : need * bytes ≤ 1099511627776) : ¬ Builtin.nextslicecap need cap * bytes > 2 ^ 48 := by
 have h1 := Nat.mul_le_mul_right bytes (slicecap_le need cap h)
 have h2 : 16 * (need + 768) * bytes = 16 * (need * bytes) + 16 * 768 * bytes := by rw [Nat.mul_assoc, Nat.add_mul]; omega
 omega
theorem zsize_run {e : TypeId} {size : Nat} (h : zsize P e = some size) (w : World) : ∃ v, (zeroValue e).run P w = .ok v w ∧ v.cells.size = size := by
 unfold zsize at h
 split at h
 ·rename_i z hz
  split at h
  ·rename_i zs hzs
   simp only [Option.some.injEq] at h
   obtain ⟨v, h1, rfl⟩ := r_zero (P := P) w hz
   have := (cellsO_rel (ofConst_rel (w := w) (S := fun _ => False) (μ := fun _ _ => none) (ℓ := 0) v) hzs).length
   simp at this
   exact ⟨v, h1, by omega⟩
  ·cases h
 ·cases h
theorem spreads_some {t : Option TypeId} (h : spreads P t = true) : ∃ t', t = some t' ∧ ((∃ e, P.underlying t' = some (.slice e)) ∨ P.underlying t' = some .string) := by
 unfold spreads at h
 split at h
 ·rename_i t'
  split at h
  ·exact ⟨t', rfl, .inl ⟨_, ‹_›⟩⟩
  ·exact ⟨t', rfl, .inr ‹_›⟩
  ·cases h
 ·cases h
end
end
section
section
variable {w : World} {S : Nat → Prop} {μ : Mu} {H : Heap} {P : Program} {ℓ : Nat}
theorem append_fits_run {ats : Array TypeId} {ty t e : TypeId} {base : Option Addr} {len cap size : Nat} {vx : Value} {n : Nat} {cells : Array Value} {r : Result Unit}
  (h0 : ats[0]? = some t) (h1 : spreads P ats[1]? = true) (hu : P.underlying t = some (.slice e)) (hs : tsize P e = some size) (hn : (Builtin.lenOf vx).run P w = .ok n w)
  (hc : (Builtin.firstCells size n vx).run P w = .ok cells w) (hfit : len + n ≤ cap) {w' : World}
  (hst : (match base with | some a => storeCells (a.add (len * size)) cells.toList | none => pure ()).run P w = .ok () w') :
  (Builtin.append_ ats ty #[.slice base len cap, vx]).run P w = .ok (.slice base (len + n) cap) w' := by
 obtain ⟨t', h1', h1''⟩ := spreads_some h1
 rcases h1'' with ⟨e', he⟩ | he
 all_goals
  cases base with
  | none =>
   simp at hst; subst hst
   simp [Builtin.append_, h0, h1', r_underlying w hu, r_underlying w he, r_size w hs, hn, hfit, hc]
  | some a =>
   simp only at hst
   simp [Builtin.append_, h0, h1', r_underlying w hu, r_underlying w he, r_size w hs, hn, hfit, hc, hst]
theorem append_grows_run {ats : Array TypeId} {ty t e : TypeId} {base : Option Addr} {len cap size bytes : Nat} {vx : Value} {n : Nat} {old cells : Array Value} {z : Value}
  (h0 : ats[0]? = some t) (h1 : spreads P ats[1]? = true) (hu : P.underlying t = some (.slice e)) (hs : tsize P e = some size) (hb : tbytes P e = some bytes) (hb0 : 0 < bytes) (hb1 : bytes ≤ 1048576)
  (hmax : (len + n) * bytes ≤ 1099511627776) (hn : (Builtin.lenOf vx).run P w = .ok n w)
  (ho : (Builtin.firstCells size len (.slice base len cap)).run P w.drew = .ok old w.drew) (hc : (Builtin.firstCells size n vx).run P w.drew = .ok cells w.drew)
  (hz : (zeroValue e).run P w.drew = .ok z w.drew) (hfit : ¬ len + n ≤ cap) :
  ∃ newCap, len + n ≤ newCap ∧ (Builtin.append_ ats ty #[.slice base len cap, vx]).run P w =
   .ok (.slice (some ⟨w.heap.size, 0, none⟩) (len + n) newCap) (w.drew.alloc (.cells (old ++ cells ++ Builtin.zeroCells z.cells (newCap - (len + n))) e)) := by
 obtain ⟨t', h1', h1''⟩ := spreads_some h1
 obtain ⟨i, hi, rfl⟩ := r_bytes (P := P) w hb
 obtain ⟨i2, hi2, hi2'⟩ := r_bytes (P := P) w.drew hb
 refine ⟨(Question.appendCap (len + n) cap e).cut (w.tape w.drawn (.appendCap (len + n) cap e)), ?_, ?_⟩
 ·simp [Question.cut]
 ·have hbz : i.bytes ≠ 0 := by omega
  have hcap : ¬ Builtin.nextslicecap (len + n) cap * i.bytes > 2 ^ 48 := cap_ok (by omega) hb1 hmax
  have hlim : ¬ ((((len + n : Nat) : Int) > IntKind.i64.max) ∧ (False ∨ i.bytes = 0)) := fun h => by rcases h.2 with h | h; exact h; exact hbz h
  have hdr : ({ w with drawn := w.drawn + 1 } : World) = w.drew := rfl
  rcases h1'' with ⟨e', he⟩ | he
  all_goals
   simp only [Builtin.append_]
   simp [h0, h1', r_underlying w hu, r_underlying w he, r_size w hs, hn, hfit, hi, hbz, hcap, Question.forced, hdr, hi2, ho, hc, hz, newRow]
theorem zeroCells_size (z : Array Value) (n : Nat) : (Builtin.zeroCells z n).size = n * z.size := by simp [Builtin.zeroCells]
theorem HRel.drew (hH : HRel w S μ H) : HRel w.drew S μ H ∧ Ev ℓ w S μ w.drew S μ := by
 have hw : ∀ b : Nat, w.drew.heap[b]? = w.heap[b]? := fun _ => rfl
 refine ⟨⟨fun n b hb t0 b0 hb0 => (hH.blk n b hb t0 b0 hb0).mono (fun _ h => h) (fun b _ => hw b) (fun _ _ h => h) (fun _ _ _ _ h => h) (fun _ => rfl) (fun _ b _ => hw b) (fun _ _ _ h => h), hH.bnd, hH.disj, hH.lt, hH.slt, hH.glb.mono (fun _ h => h) (fun b _ => hw b)⟩, ?_⟩
 exact ⟨rfl, rfl, rfl, Nat.le_refl _, fun _ h => h, fun b _ _ => hw b, fun _ _ h => h, fun b r h => ⟨r, h⟩, fun _ _ _ _ h => h, fun n t b h _ => ⟨n, t, h⟩, fun _ h _ => .inl h⟩
theorem getD_append_left {α : Type} (a b : Array α) (i : Nat) (d : α) (h : i < a.size) : (a ++ b).getD i d = a.getD i d := by
 simp [Array.getD_eq_getD_getElem?, Array.getElem?_append, h]
theorem getD_append_right {α : Type} (a b : Array α) (i : Nat) (d : α) (h : a.size ≤ i) : (a ++ b).getD i d = b.getD (i - a.size) d := by
 simp [Array.getD_eq_getD_getElem?, Array.getElem?_append, Nat.not_lt.2 h]
theorem append_new {nm : Nm} {es vf n cap : Nat} {elems xs : List (List PV)} {c : Array Value} {e : TypeId} (hH : HRel w S μ H) (ht : tyE nm e = e) (hg : H.get nm = some (.arr es elems vf false)) {t0 b0 : Nat} (hb0 : μ nm t0 = some b0) (hvf : vf ≤ elems.length)
  (hrows : ∀ r ∈ xs, r.length = es) (hn : elems.length + xs.length = n) (hx : 0 < xs.length) (hcap : n ≤ cap) (hsz : cap * es ≤ c.size)
  (hc : ∀ i j, i < n → j < es → (c.getD (i * es + j) undef).oneCell' = true ∧ PRep w S (c.getD (i * es + j) undef) (((elems ++ xs).getD i []).getD j .dead)) :
  ∃ μ', VRel (w.alloc (.cells c e)) S μ' nm.1 (.slice (some ⟨w.heap.size, 0, none⟩) n cap) (.hdr nm es n 0 n) ∧ HRel (w.alloc (.cells c e)) S μ' (H.set nm (.arr es (elems ++ xs) vf false)) ∧
   Ev ℓ w S μ (w.alloc (.cells c e)) S μ' := by
 obtain ⟨h0, k1, k2, k3, k4⟩ := hH.blk _ _ hg _ _ hb0
 have hno : ∀ b, μ nm n ≠ some b := fun b hb => by have := (k4 n b hb).1; omega
 obtain ⟨h1, h2⟩ := hH.turn ℓ (Heap.get_lt hg) (w' := w.alloc (.cells c e)) (S' := S) (μ' := μ.upd nm n w.heap.size) (x := .arr es (elems ++ xs) vf false) rfl rfl rfl (by rw [alloc_size]; omega)
  (fun _ h => h) (fun b h => .inl h) (fun b h => by have := hH.slt b h; rw [alloc_size]; omega) (fun k hk _ => alloc_heap w _ k hk) (alloc_shp w _) (alloc_lp w _) (fun q t h => Mu.upd_other μ _ _ _ h)
  (fun t b h => by
   by_cases et : t = n
   ·subst et; exact absurd h (hno b)
   ·rw [Mu.upd_top μ _ _ et]; exact h)
  (fun t b h => by
   by_cases et : t = n
   ·subst et; rw [Mu.upd_self] at h; cases h; exact .inr (Nat.le_refl _)
   ·rw [Mu.upd_top μ _ _ et] at h; exact .inl ⟨t, h⟩)
  (fun t b h => by
   by_cases et : t = n
   ·subst et; rw [Mu.upd_self] at h; cases h; rw [alloc_size]; omega
   ·rw [Mu.upd_top μ _ _ et] at h; have := hH.lt _ _ _ h; rw [alloc_size]; omega)
  (by
   refine ⟨h0, fun r hr => ?_, by simp; omega, ⟨w.heap.size, by rw [List.length_append, hn]; exact Mu.upd_self _ _ _ _⟩, fun top b hb => ?_⟩
   ·rcases List.mem_append.1 hr with hr | hr
    ·exact k1 r hr
    ·exact hrows r hr
   ·by_cases et : top = n
    ·subst et
     rw [Mu.upd_self] at hb; cases hb
     refine ⟨by rw [List.length_append]; omega, ⟨c, e, by rw [ht]; exact alloc_new w _⟩, fun _ hS => ?_, fun _ => ⟨fun h => (by cases h), fun i j hi hj => ?_⟩⟩
     ·have := hH.slt _ hS; omega
     ·obtain ⟨z1, z2⟩ := hc i j hi hj
      have hlt : i * es + j < c.size := by have := rows_lt (n := cap) (show i < cap by omega) hj; omega
      refine ⟨c.getD (i * es + j) undef, ?_, z1, z2.mono (fun _ h => h) (fun b hb => alloc_heap w _ b (hH.slt b hb))⟩
      simp only [World.cell?, alloc_new]
      simp [Array.getD_eq_getD_getElem?, hlt]
    ·rw [Mu.upd_top μ _ _ et] at hb
     obtain ⟨g1, ⟨c2, e2, g2⟩, g3, g4⟩ := k4 top b hb
     refine ⟨by rw [List.length_append]; omega, ⟨c2, e2, by rw [alloc_heap w _ b (hH.lt _ _ _ hb)]; exact g2⟩, g3, fun hv => ⟨fun h => (by cases h), fun i j hi hj => ?_⟩⟩
     obtain ⟨u, u1, u2, u3⟩ := (g4 hv).2 i j hi hj
     have e3 : (elems ++ xs).getD i [] = elems.getD i [] := by
      simp [List.getD_eq_getElem?_getD, List.getElem?_append_left (show i < elems.length by omega)]
     exact ⟨u, by rw [cell_of_heap (alloc_heap w _ b (hH.lt _ _ _ hb))]; exact u1, u2, by rw [e3]; exact u3.mono (fun _ h => h) (fun b hb => alloc_heap w _ b (hH.slt b hb))⟩)
 refine ⟨_, ?_, h1, h2⟩
 have := VRel.hdr (w := w.alloc (.cells c e)) (S := S) (μ := μ.upd nm n w.heap.size) (ℓ := nm.1) nm es n 0 n cap w.heap.size c.size e
  (Nat.le_refl _) (Mu.upd_self _ _ _ _) (by omega) (by omega) (by unfold World.shape?; rw [alloc_new]) (by rw [Nat.zero_add]; exact hsz)
 rw [Nat.zero_mul] at this
 exact this
theorem append_room {nm : Nm} {es vf cap b sz : Nat} {ek : TypeId} {elems xs : List (List PV)} {cells : Array Value} (hH : HRel w S μ H) (hg : H.get nm = some (.arr es elems vf false)) (hvf : vf ≤ elems.length)
  (hrows : ∀ r ∈ xs, r.length = es) (hx : 0 < xs.length) (hm : μ nm elems.length = some b) (hcap : elems.length + xs.length ≤ cap) (hsh : w.shape? b = some (ek, sz)) (hsz : cap * es ≤ sz)
  (hc : RowsAt w S cells xs es) :
  ∃ w' μ', (storeCells (⟨b, elems.length * es, none⟩ : Addr) cells.toList).run P w = .ok () w' ∧
   VRel w' S μ' nm.1 (.slice (some ⟨b, 0, none⟩) (elems.length + xs.length) cap) (.hdr nm es (elems.length + xs.length) 0 (elems.length + xs.length)) ∧
   HRel w' S μ' (H.set nm (.arr es (elems ++ xs) vf false)) ∧ Ev ℓ w S μ w' S μ' := by
 obtain ⟨h0, k1, k2, k3, k4⟩ := hH.blk _ _ hg _ _ hm
 obtain ⟨g1, ⟨c, e, g2⟩, g3, g4⟩ := k4 _ b hm
 have hnS := g3 rfl
 have hcs : c.size = sz := by unfold World.shape? at hsh; rw [g2] at hsh; simp at hsh; exact hsh.2
 have hbnd : elems.length * es + cells.toList.length ≤ c.toList.length := by
  have h1 := hc.1
  have h2 : (elems.length + xs.length) * es ≤ cap * es := Nat.mul_le_mul_right _ hcap
  rw [Nat.add_mul] at h2
  simp; omega
 have hone : ∀ v ∈ cells.toList, v.oneCell' = true := by
  intro v hv
  obtain ⟨q, hq, rfl⟩ := List.getElem_of_mem hv
  have hq' : q < xs.length * es := by have := hc.1; simp at hq; omega
  have h1 : q / es < xs.length := by rw [Nat.div_lt_iff_lt_mul h0]; exact hq'
  have := (hc.2 _ _ h1 (Nat.mod_lt q h0)).1
  rw [Nat.div_add_mod' q es, agetD, List.getD_eq_getElem?_getD, List.getElem?_eq_getElem hq] at this
  exact this
 have hst := run_storeCells_at (P := P) b (elems.length * es) _ cells.toList 0 c w g2 (by simpa using hbnd) hone
 simp only [Nat.add_zero] at hst
 have hsize : (splice c.toList (elems.length * es) cells.toList).toArray.size = c.size := by
  simp only [List.size_toArray]; rw [splice_length _ _ _ hbnd]; simp
 have hno : ∀ b', μ nm (elems.length + xs.length) = some b' → b' = b := fun b' hb => by have := (k4 _ b' hb).1; omega
 have := hH.row ℓ (x := .arr es (elems ++ xs) vf false) (Heap.get_lt hg) hm hnS g2 hsize (elems.length + xs.length) (by
  have cellc : ∀ o, (w.setRow b (splice c.toList (elems.length * es) cells.toList).toArray).cell? ⟨b, o, none⟩ = (splice c.toList (elems.length * es) cells.toList)[o]? := fun o => by
   rw [cell_setRow_same w b _ c _ _ (0, 0) g2]; simp
  have old : ∀ top b', μ nm top = some b' → vf ≤ top → ∀ i j, i < top → j < es → ∃ u, (w.setRow b (splice c.toList (elems.length * es) cells.toList).toArray).cell? ⟨b', i * es + j, none⟩ = some u ∧ u.oneCell' = true ∧
    PRep (w.setRow b (splice c.toList (elems.length * es) cells.toList).toArray) S u (((elems ++ xs).getD i []).getD j .dead) := by
   intro top b' hb' hv i j hi hj
   obtain ⟨q1, q2, q3, q4⟩ := k4 top b' hb'
   obtain ⟨u, u1, u2, u3⟩ := (q4 hv).2 i j hi hj
   have e3 : (elems ++ xs).getD i [] = elems.getD i [] := by
    simp [List.getD_eq_getElem?_getD, List.getElem?_append_left (show i < elems.length by omega)]
   rw [e3]
   refine ⟨u, ?_, u2, u3.setRow hnS _⟩
   by_cases eb : b' = b
   ·subst eb
    have hlt : i * es + j < elems.length * es := rows_lt (by omega) hj
    rw [cellc, splice_get _ _ _ _ hbnd, if_pos hlt]
    simpa [World.cell?, g2] using u1
   ·rw [cell_setRow_other w b _ _ (by exact eb)]; exact u1
  refine ⟨h0, fun r hr => ?_, by simp; omega, ⟨b, by rw [List.length_append]; exact Mu.upd_self _ _ _ _⟩, fun top b' hb' => ?_⟩
  ·rcases List.mem_append.1 hr with hr | hr
   ·exact k1 r hr
   ·exact hrows r hr
  ·by_cases et : top = elems.length + xs.length
   ·subst et
    rw [Mu.upd_self] at hb'; cases hb'
    refine ⟨by rw [List.length_append]; exact Nat.le_refl _, ⟨_, e, setRow_heap w b c _ _ _ g2⟩, fun _ => hnS, fun _ => ⟨fun h => (by cases h), fun i j hi hj => ?_⟩⟩
    by_cases hio : i < elems.length
    ·exact old _ b hm hvf i j hio hj
    ·have hix : i - elems.length < xs.length := by omega
     obtain ⟨z1, z2⟩ := hc.2 (i - elems.length) j hix hj
     have e3 : (elems ++ xs).getD i [] = xs.getD (i - elems.length) [] := by
      simp [List.getD_eq_getElem?_getD, List.getElem?_append_right (show elems.length ≤ i by omega)]
     have hidx : i * es + j = elems.length * es + ((i - elems.length) * es + j) := by
      have : i = elems.length + (i - elems.length) := by omega
      rw [this, Nat.add_mul]
      simp; omega
     have hlt := rows_lt (n := xs.length) hix hj
     have hq : (i - elems.length) * es + j < cells.toList.length := by have := hc.1; simp; omega
     rw [e3, cellc, splice_get _ _ _ _ hbnd, if_neg (by omega), if_pos (by omega)]
     have e4 : i * es + j - elems.length * es = (i - elems.length) * es + j := by omega
     rw [e4]
     rw [agetD, List.getD_eq_getElem?_getD, List.getElem?_eq_getElem hq] at z1 z2
     exact ⟨_, List.getElem?_eq_getElem hq, z1, z2.setRow hnS _⟩
   ·rw [Mu.upd_top μ _ _ et] at hb'
    obtain ⟨q1, ⟨c2, e2, q2⟩, q3, q4⟩ := k4 top b' hb'
    refine ⟨by rw [List.length_append]; omega, ?_, q3, fun hv => ⟨fun h => (by cases h), old top b' hb' hv⟩⟩
    by_cases eb : b' = b
    ·subst eb; exact ⟨_, e, setRow_heap w b' c _ _ _ g2⟩
    ·exact ⟨c2, e2, by rw [setRow_other w b b' _ eb]; exact q2⟩) hno
 refine ⟨_, _, by simpa [splice] using hst, ?_, this.1, this.2⟩
 have hv := VRel.hdr (w := w.setRow b (splice c.toList (elems.length * es) cells.toList).toArray) (S := S) (μ := μ.upd nm (elems.length + xs.length) b) (ℓ := nm.1) nm es (elems.length + xs.length) 0 (elems.length + xs.length) cap b sz ek
  (Nat.le_refl _) (Mu.upd_self _ _ _ _) (by omega) (by omega) (setRow_shp w b c _ _ (0, 0) g2 hsize b _ hsh) (by rw [Nat.zero_add]; exact hsz)
 rw [Nat.zero_mul] at hv
 simpa [splice] using hv
theorem write_room {nm : Nm} {es vf b sz p : Nat} {ek : TypeId} {elems xs : List (List PV)} {cells : Array Value} (hH : HRel w S μ H) (hg : H.get nm = some (.arr es elems vf false)) (hvf : vf ≤ elems.length)
  (hrows : ∀ r ∈ xs, r.length = es) (hm : μ nm elems.length = some b) (hp : p + xs.length ≤ elems.length) (hsh : w.shape? b = some (ek, sz)) (hsz : elems.length * es ≤ sz)
  (hc : RowsAt w S cells xs es) :
  ∃ w', (storeCells (⟨b, p * es, none⟩ : Addr) cells.toList).run P w = .ok () w' ∧ HRel w' S μ (H.set nm (.arr es (splice elems p xs) elems.length false)) ∧ Ev ℓ w S μ w' S μ := by
 obtain ⟨h0, k1, k2, k3, k4⟩ := hH.blk _ _ hg _ _ hm
 obtain ⟨g1, ⟨c, e, g2⟩, g3, g4⟩ := k4 _ b hm
 obtain ⟨_, g5⟩ := g4 hvf
 have hnS := g3 rfl
 have hcs : c.size = sz := by unfold World.shape? at hsh; rw [g2] at hsh; simp at hsh; exact hsh.2
 have hbnd : p * es + cells.toList.length ≤ c.toList.length := by
  have h1 := hc.1
  have h2 : (p + xs.length) * es ≤ elems.length * es := Nat.mul_le_mul_right _ hp
  rw [Nat.add_mul] at h2
  simp; omega
 have hone : ∀ v ∈ cells.toList, v.oneCell' = true := by
  intro v hv
  obtain ⟨q, hq, rfl⟩ := List.getElem_of_mem hv
  have hq' : q < xs.length * es := by have := hc.1; simp at hq; omega
  have h1 : q / es < xs.length := by rw [Nat.div_lt_iff_lt_mul h0]; exact hq'
  have := (hc.2 _ _ h1 (Nat.mod_lt q h0)).1
  rw [Nat.div_add_mod' q es, agetD, List.getD_eq_getElem?_getD, List.getElem?_eq_getElem hq] at this
  exact this
 have hst := run_storeCells_at (P := P) b (p * es) _ cells.toList 0 c w g2 (by simpa using hbnd) hone
 simp only [Nat.add_zero] at hst
 have hsize : (splice c.toList (p * es) cells.toList).toArray.size = c.size := by
  simp only [List.size_toArray]; rw [splice_length _ _ _ hbnd]; simp
 have hsl : (splice elems p xs).length = elems.length := splice_length _ _ _ hp
 have hcl : cells.toList.length = xs.length * es := by have := hc.1; simpa using this
 have := hH.row ℓ (x := .arr es (splice elems p xs) elems.length false) (Heap.get_lt hg) hm hnS g2 hsize elems.length (by
  rw [Mu.upd_eq hm]
  refine ⟨h0, fun r hr => ?_, by omega, ⟨b, by rw [hsl]; exact hm⟩, fun top b' hb' => ?_⟩
  ·unfold splice at hr
   rcases List.mem_append.1 hr with hr | hr
   ·rcases List.mem_append.1 hr with hr | hr
    ·exact k1 r (List.mem_of_mem_take hr)
    ·exact hrows r hr
   ·exact k1 r (List.mem_of_mem_drop hr)
  ·obtain ⟨q1, ⟨c2, e2, q2⟩, q3, q4⟩ := k4 top b' hb'
   refine ⟨by omega, ?_, fun _ => q3 rfl, fun hv => ⟨fun hro => (by cases hro), fun i j hi hj => ?_⟩⟩
   ·by_cases e' : b' = b
    ·subst e'; exact ⟨_, e, setRow_heap w b' c _ _ _ g2⟩
    ·exact ⟨c2, e2, by rw [setRow_other w b b' _ e']; exact q2⟩
   ·obtain rfl : top = elems.length := by omega
    rw [hm] at hb'; cases hb'
    have hcell : (w.setRow b (splice c.toList (p * es) cells.toList).toArray).cell? ⟨b, i * es + j, none⟩ = (splice c.toList (p * es) cells.toList)[i * es + j]? := by
     rw [cell_setRow_same w b _ c _ _ (0, 0) g2]; simp
    rw [hcell, splice_get _ _ _ _ hbnd]
    obtain ⟨u, u1, u2, u3⟩ := g5 i j hi hj
    have u1' : c.toList[i * es + j]? = some u := by simpa [World.cell?, g2] using u1
    have egd : (splice elems p xs).getD i [] = if i < p then elems.getD i [] else if i < p + xs.length then xs.getD (i - p) [] else elems.getD i [] := by
     simp only [List.getD_eq_getElem?_getD]
     rw [splice_get _ _ _ _ hp]
     split
     ·rfl
     ·split <;> rfl
    rw [egd]
    by_cases c1 : i < p
    ·have : (i + 1) * es ≤ p * es := Nat.mul_le_mul_right _ c1
     rw [Nat.add_mul] at this
     rw [if_pos (by omega), if_pos c1]
     exact ⟨u, u1', u2, u3.setRow hnS _⟩
    ·have a1 : p * es ≤ i * es := Nat.mul_le_mul_right _ (by omega)
     by_cases c2 : i < p + xs.length
     ·have hix : i - p < xs.length := by omega
      obtain ⟨z1, z2⟩ := hc.2 (i - p) j hix hj
      have hidx : i * es + j = p * es + ((i - p) * es + j) := by
       have : i = p + (i - p) := by omega
       rw [this, Nat.add_mul]
       simp; omega
      have hlt := rows_lt (n := xs.length) hix hj
      have hq : (i - p) * es + j < cells.toList.length := by omega
      rw [if_neg (by omega), if_pos (by omega), if_neg c1, if_pos c2]
      have e4 : i * es + j - p * es = (i - p) * es + j := by omega
      rw [e4]
      rw [agetD, List.getD_eq_getElem?_getD, List.getElem?_eq_getElem hq] at z1 z2
      exact ⟨_, List.getElem?_eq_getElem hq, z1, z2.setRow hnS _⟩
     ·have a2 : (p + xs.length) * es ≤ i * es := Nat.mul_le_mul_right _ (by omega)
      rw [Nat.add_mul] at a2
      rw [if_neg (by omega), if_neg (by omega), if_neg c1, if_neg c2]
      exact ⟨u, u1', u2, u3.setRow hnS _⟩) (fun b' hb' => by rw [hm] at hb'; cases hb'; rfl)
 rw [Mu.upd_eq hm] at this
 exact ⟨_, by simpa [splice] using hst, this.1, this.2⟩
end
end
section
section
variable {w : World} {S : Nat → Prop} {μ : Mu} {H : Heap} {P : Program} {ℓ : Nat}
theorem rows_three {old cells z : Array Value} {xs ys : List (List PV)} {size : Nat} (ho : RowsAt w S old xs size) (hc : RowsAt w S cells ys size) :
  ∀ i j, i < xs.length + ys.length → j < size → ((old ++ cells ++ z).getD (i * size + j) undef).oneCell' = true ∧ PRep w S ((old ++ cells ++ z).getD (i * size + j) undef) (((xs ++ ys).getD i []).getD j .dead) := by
 intro i j hi hj
 have h1 := ho.1
 have h2 := hc.1
 by_cases c1 : i < xs.length
 ·have hlt := rows_lt (n := xs.length) c1 hj
  rw [getD_append_left _ _ _ _ (by simp; omega), getD_append_left _ _ _ _ (by omega)]
  have e3 : (xs ++ ys).getD i [] = xs.getD i [] := by simp [List.getD_eq_getElem?_getD, List.getElem?_append_left c1]
  rw [e3]; exact ho.2 i j c1 hj
 ·have hix : i - xs.length < ys.length := by omega
  have hlt := rows_lt (n := ys.length) hix hj
  have hidx : i * size + j = xs.length * size + ((i - xs.length) * size + j) := by
   have : i = xs.length + (i - xs.length) := by omega
   rw [this, Nat.add_mul]
   simp; omega
  rw [getD_append_left _ _ _ _ (by simp; omega), getD_append_right _ _ _ _ (by omega)]
  have e3 : (xs ++ ys).getD i [] = ys.getD (i - xs.length) [] := by simp [List.getD_eq_getElem?_getD, List.getElem?_append_right (show xs.length ≤ i by omega)]
  have e4 : i * size + j - old.size = (i - xs.length) * size + j := by omega
  rw [e3, e4]; exact hc.2 _ j hix hj
theorem nmOk_ty {K : Ctx} {e : TypeId} {nm : Nm} (h : nmOk K e nm = true) : tyE nm e = e := by
 unfold nmOk at h
 split at h
 ·have h' := of_decide_eq_true h
  unfold tyE; rw [h']
 ·exact tyE_low (of_decide_eq_true h)
theorem pureRowsO_some : ∀ {l : List (List GV)} {ps : List (List PV)}, pureRowsO l = some ps → l = ps.map fun r => r.map .pure
 | [], ps, h => by simp [pureRowsO] at h; subst h; rfl
 | r :: rs, ps, h => by
  simp only [pureRowsO] at h
  split at h
  ·rename_i p qs h1 h2
   simp only [Option.some.injEq] at h
   subst h
   rw [List.map_cons, ← allPure_some h1, ← pureRowsO_some h2]
  ·cases h
theorem getD_mem {α : Type} {l : List (List α)} {i : Nat} (h : i < l.length) : l.getD i [] ∈ l := by
 rw [List.getD_eq_getElem?_getD, List.getElem?_eq_getElem h]
 exact List.getElem_mem h
theorem pureRows_getD {ps : List (List PV)} {i j : Nat} (hi : i < ps.length) (hj : j < (ps.getD i []).length) : ((ps.map fun r => r.map GV.pure).getD i []).getD j gdead = .pure ((ps.getD i []).getD j .dead) := by
 rw [List.getD_eq_getElem?_getD, List.getElem?_eq_getElem hi] at hj
 simp only [Option.getD_some] at hj
 simp [List.getD_eq_getElem?_getD, hi, hj]
theorem gappend_sound (K : Ctx) {k l key : Nat} {t : TypeId} {s x : GV} {vs vx : Value} {v : GV} {H' : Heap} {ats : Array TypeId} {ty : TypeId} (hH : HRel w S μ H) (hs : VRel w S μ k vs s) (hx : VRel w S μ k vx x)
    (hk : k = H.length - 1) (h0 : ats[0]? = some t) (h1 : spreads K.P ats[1]? = true) (h : gappend K H l key t s x = some (v, H')) :
    OpOk ℓ w S μ H ((do pure (Next.value (← Builtin.append_ ats ty #[vs, vx])) : Sem Next).run K.P w) v H' := by
  unfold gappend at h
  split at h
  · rename_i e hu0
    have hu := telem_some hu0
    split at h
    · rename_i size bytes xs H1 hsz hby hge
      split at h
      · rename_i hcond
        simp only [Bool.and_eq_true, decide_eq_true_eq, List.all_eq_true, beq_iff_eq] at hcond
        obtain ⟨⟨⟨⟨hzs, hrows⟩, hpos⟩, hb0⟩, hb1⟩ := hcond
        obtain ⟨S1, a1, a2, a3, a4, a5⟩ := gelems_sound ℓ (P := K.P) hH hx hge hpos hrows
        have hlen1 : H1.length = H.length := a3.1
        obtain ⟨cells, c1, c2⟩ := a5 w rfl
        split at h
        ·
          cases hs with | nils a =>
          split at h
          · rename_i hmax
            split at h
            · rename_i hemp
              simp only [Option.some.injEq, Prod.mk.injEq] at h
              obtain ⟨rfl, rfl⟩ := h
              obtain rfl : xs = [] := by simpa using hemp
              have hcz : cells = #[] := Array.eq_empty_of_size_eq_zero (by simpa using c2.1)
              subst hcz
              have hst : (match a with | some a => storeCells (a.add (0 * size)) (#[] : Array Value).toList | none => pure ()).run K.P w = .ok () w := by
                cases a <;> simp [storeCells]
              have := append_fits_run (ty := ty) h0 h1 hu hsz (a4 w) c1 (Nat.le_refl 0) hst (r := .ok () w)
              simp only [List.length_nil, Nat.add_zero] at this
              exact ⟨_, _, w, S1, μ, by simp [this], .inl rfl, .nils a, a1, a2, hlen1⟩
            · rename_i hemp
              have hx0 : 0 < xs.length := by cases xs; simp at hemp; simp
              split at h
              · rename_i nm H2 hnew
                simp only [Option.some.injEq, Prod.mk.injEq] at h
                obtain ⟨rfl, rfl⟩ := h
                obtain ⟨z, z1, z2⟩ := zsize_run hzs w.drew
                obtain ⟨cells2, d1, d2⟩ := a5 w.drew rfl
                have hold : (Builtin.firstCells size 0 (.slice a 0 0)).run K.P w.drew = .ok #[] w.drew := by cases a <;> simp [Builtin.firstCells, loadCells, loadCellsFrom]
                obtain ⟨newCap, n1, n2⟩ := append_grows_run (ty := ty) (cap := 0) (len := 0) h0 h1 hu hsz hby hb0 hb1 (by simpa using hmax) (a4 w) hold d1 z1 (by omega)
                obtain ⟨b1, b2⟩ := a1.drew (ℓ := ℓ)
                have hthree := rows_three (w := w) (S := S1) (old := #[]) (z := Builtin.zeroCells z.cells (newCap - (0 + xs.length))) (xs := []) ⟨by simp, by simp⟩ d2
                obtain ⟨μ', e1, e2, e3, e4⟩ := new_rowK K (ℓ := ℓ) (c := #[] ++ cells2 ++ Builtin.zeroCells z.cells (newCap - (0 + xs.length))) (e := e) (n := xs.length) (cap := newCap) b1 hnew hpos hrows rfl (by omega)
                  (by simp only [Array.size_append, zeroCells_size, z2, d2.1, Array.size_empty]
                      have : newCap = xs.length + (newCap - (0 + xs.length)) := by omega
                      rw [this, Nat.add_mul]; simp) (fun i j hi hj => by
                        have := hthree i j (by simpa using hi) hj
                        simp only [List.nil_append] at this
                        have h9 : ∀ {u p}, PRep w S1 u p → PRep w.drew S1 u p := fun h => PRep.mono (w := w) (w' := w.drew) (fun _ h => h) (fun _ _ => rfl) h
                        exact ⟨this.1, h9 this.2⟩)
                simp only [Nat.zero_add] at n2 e1 e2 e3
                exact ⟨_, _, _, S1, μ', by simp [n2], .inl rfl, e1, e2, (a2.trans b2).trans e3, by omega⟩
              · cases h
          · cases h
        ·
          rename_i lold
          cases hs with
          | lits b o cap es _ f hS he hes hf hone hr hcap =>
          split at h
          · rename_i ps hps
            split at h
            · rename_i hcond2
              obtain ⟨hp0, hx0', hpr, hmax⟩ := hcond2
              have hlp := pureRowsO_some hps
              subst hlp
              have hx0 : 0 < xs.length := by cases xs; simp at hx0'; simp
              have hpl : 0 < ps.length := by cases ps; simp at hp0; simp
              simp only [List.length_map] at hf hone hr hcap
              simp only [List.all_eq_true, beq_iff_eq] at hpr
              have hes2 : es = size := by
                obtain ⟨r0, hr0⟩ : ∃ r0, r0 ∈ ps := by cases ps with | nil => simp at hpl | cons r _ => exact ⟨r, List.mem_cons_self ..⟩
                have q1 := hes (r0.map .pure) (List.mem_map_of_mem hr0)
                have q2 := hpr r0 hr0
                simp at q1
                omega
              subst hes2
              split at h
              · rename_i nm H2 hnew
                simp only [Option.some.injEq, Prod.mk.injEq] at h
                obtain ⟨rfl, rfl⟩ := h
                obtain ⟨z, z1, z2⟩ := zsize_run hzs w.drew
                obtain ⟨cells2, d1, d2⟩ := a5 w.drew rfl
                obtain ⟨old, o1, o2, o3⟩ := load_rows (w := w) (w2 := w.drew) (P := K.P) (b := b) (o := o) (n := ps.length) rfl hpos f (fun i j hi hj => hf i j hi hj)
                have hor : RowsAt w S1 old ps es := ⟨o2, fun i j hi hj => by
                  rw [o3 i j hi hj]
                  have q := hr i j hi hj
                  have q3 : ((ps.map fun r => r.map GV.pure).getD i []).getD j gdead = .pure ((ps.getD i []).getD j .dead) := pureRows_getD hi (by have := hpr (ps.getD i []) (getD_mem hi); omega)
                  rw [q3] at q
                  exact ⟨hone i j hi hj, PRep.mono (w := w) (w' := w) a2.sub (fun _ _ => rfl) q.pv⟩⟩
                obtain ⟨newCap, n1, n2⟩ := append_grows_run (ty := ty) (base := some ⟨b, o, none⟩) (cap := cap) (len := ps.length) h0 h1 hu hsz hby hb0 hb1 hmax (a4 w) (by simpa [Builtin.firstCells] using o1) d1 z1 (by omega)
                obtain ⟨b1, b2⟩ := a1.drew (ℓ := ℓ)
                have hthree := rows_three (z := Builtin.zeroCells z.cells (newCap - (ps.length + xs.length))) hor d2
                obtain ⟨μ', e1, e2, e3, e4⟩ := new_rowK K (ℓ := ℓ) (c := old ++ cells2 ++ Builtin.zeroCells z.cells (newCap - (ps.length + xs.length))) (e := e) (n := ps.length + xs.length) (cap := newCap) b1 hnew hpos (fun r hr => by rcases List.mem_append.1 hr with hr | hr; exact hpr r hr; exact hrows r hr) (by simp) (by omega)
                  (by simp only [Array.size_append, zeroCells_size, z2, d2.1, o2]
                      have : newCap = ps.length + xs.length + (newCap - (ps.length + xs.length)) := by omega
                      rw [this, Nat.add_mul, Nat.add_mul]; simp) (fun i j hi hj => by
                        have := hthree i j (by simpa using hi) hj
                        exact ⟨this.1, PRep.mono (w := w) (w' := w.drew) (fun _ h => h) (fun _ _ => rfl) this.2⟩)
                exact ⟨_, _, _, S1, μ', by simp only [List.length_map, Sem.run_bind, n2, Result.andThen_ok]; rfl, .inl rfl, e1, e2, (a2.trans b2).trans e3, by omega⟩
              · cases h
            · cases h
          · cases h
        ·
          rename_i nm es top lo len
          cases hs with
          | hdr _ _ _ _ _ cap b n ek q1 q2 q3 q4 q5 q6 =>
          split at h
          · rename_i es' elems vf ro hg
            split at h
            · rename_i hcond2
              obtain ⟨rfl, rfl, rfl, rfl, rfl, hvf, rfl, hmax, hty⟩ := hcond2
              obtain ⟨h00, k1, k2, k3, k4⟩ := a1.blk _ _ hg _ _ q2
              obtain ⟨g1, ⟨c0, e0, g2⟩, g3, g4⟩ := k4 _ b q2
              split at h
              · rename_i hemp
                simp only [Option.some.injEq, Prod.mk.injEq] at h
                obtain ⟨rfl, rfl⟩ := h
                obtain rfl : xs = [] := by simpa using hemp
                have hcz : cells = #[] := Array.eq_empty_of_size_eq_zero (by simpa using c2.1)
                subst hcz
                have := append_fits_run (ty := ty) (base := some ⟨b, 0 * es, none⟩) (cap := cap) h0 h1 hu hsz (a4 w) c1 (by simpa using q3) (by simp [storeCells]; rfl) (r := .ok () w)
                simp only [List.length_nil, Nat.add_zero] at this
                refine ⟨_, _, w, S1, μ, by simp only [Sem.run_bind, this, Result.andThen_ok]; rfl, .inl rfl, ?_, a1, a2, hlen1⟩
                have hv := VRel.hdr (w := w) (S := S1) (μ := μ) (ℓ := H1.length - 1) nm es elems.length 0 elems.length cap b n ek (by omega) q2 q3 q4 q5 q6
                exact hv
              · rename_i hemp
                have hx0 : 0 < xs.length := by cases xs; simp at hemp; simp
                simp only [Option.some.injEq, Prod.mk.injEq] at h
                obtain ⟨rfl, rfl⟩ := h
                by_cases hfit : elems.length + xs.length ≤ cap
                · obtain ⟨w', μ', r1, r2, r3, r4⟩ := append_room (ℓ := ℓ) (P := K.P) a1 hg hvf hrows hx0 q2 hfit q5 (by simpa using q6) c2
                  have := append_fits_run (ty := ty) (base := some ⟨b, 0 * es, none⟩) (len := elems.length) (cap := cap) h0 h1 hu hsz (a4 w) c1 hfit (w' := w')
                    (by simp only [Nat.zero_mul]; rw [add_none, Nat.zero_add]; exact r1) (r := .ok () w)
                  refine ⟨_, _, w', S1, μ', by simp only [Sem.run_bind, this, Result.andThen_ok]; rfl, .inl rfl, ?_, r3, a2.trans r4, by rw [Heap.length_set]; exact hlen1⟩
                  rw [Nat.zero_mul]
                  exact r2.up (by rw [Heap.length_set]; have := Heap.get_lt hg; omega)
                · obtain ⟨z, z1, z2⟩ := zsize_run hzs w.drew
                  obtain ⟨cells2, d1, d2⟩ := a5 w.drew rfl
                  obtain ⟨_, g5⟩ := g4 hvf
                  obtain ⟨old, o1, o2, o3⟩ := load_rows (w := w) (w2 := w.drew) (P := K.P) (b := b) (o := 0 * es) (n := elems.length) rfl hpos (fun i j => (w.cell? ⟨b, i * es + j, none⟩).getD undef) (fun i j hi hj => by
                    obtain ⟨u, u1, u2, u3⟩ := g5 i j hi hj
                    rw [Nat.zero_mul, Nat.zero_add, u1]; rfl)
                  have hor : RowsAt w S1 old elems es := ⟨o2, fun i j hi hj => by
                    obtain ⟨u, u1, u2, u3⟩ := g5 i j hi hj
                    rw [o3 i j hi hj, u1]; exact ⟨u2, u3⟩⟩
                  obtain ⟨newCap, n1, n2⟩ := append_grows_run (ty := ty) (base := some ⟨b, 0 * es, none⟩) (cap := cap) (len := elems.length) h0 h1 hu hsz hby hb0 hb1 hmax (a4 w) (by simpa [Builtin.firstCells] using o1) d1 z1 hfit
                  obtain ⟨b1, b2⟩ := a1.drew (ℓ := ℓ)
                  have hthree := rows_three (z := Builtin.zeroCells z.cells (newCap - (elems.length + xs.length))) hor d2
                  obtain ⟨μ', e1, e2, e3⟩ := append_new (ℓ := ℓ) (c := old ++ cells2 ++ Builtin.zeroCells z.cells (newCap - (elems.length + xs.length))) (e := e) (n := elems.length + xs.length) (cap := newCap) b1 (nmOk_ty hty) hg q2 hvf hrows rfl hx0 n1
                    (by simp only [Array.size_append, zeroCells_size, z2, d2.1, o2]
                        have : newCap = elems.length + xs.length + (newCap - (elems.length + xs.length)) := by omega
                        rw [this, Nat.add_mul, Nat.add_mul]; simp) (fun i j hi hj => by
                          have := hthree i j hi hj
                          exact ⟨this.1, PRep.mono (w := w) (w' := w.drew) (fun _ h => h) (fun _ _ => rfl) this.2⟩)
                  refine ⟨_, _, _, S1, μ', by simp only [Sem.run_bind, n2, Result.andThen_ok]; rfl, .inl rfl, ?_, e2, (a2.trans b2).trans e3, by rw [Heap.length_set]; exact hlen1⟩
                  exact e1.up (by rw [Heap.length_set]; have := Heap.get_lt hg; omega)
            · split at h
              ·
                rename_i hcond2
                obtain ⟨rfl, rfl, rfl, hvf, rfl, hin⟩ := hcond2
                obtain ⟨h00, k1, k2, k3, k4⟩ := a1.blk _ _ hg _ _ q2
                split at h
                · rename_i hemp
                  simp only [Option.some.injEq, Prod.mk.injEq] at h
                  obtain ⟨rfl, rfl⟩ := h
                  obtain rfl : xs = [] := by simpa using hemp
                  have hcz : cells = #[] := Array.eq_empty_of_size_eq_zero (by simpa using c2.1)
                  subst hcz
                  have := append_fits_run (ty := ty) (base := some ⟨b, lo * es, none⟩) (len := len) (cap := cap) h0 h1 hu hsz (a4 w) c1 (by simp; omega) (by simp [storeCells]; rfl) (r := .ok () w)
                  simp only [List.length_nil, Nat.add_zero] at this
                  refine ⟨_, _, w, S1, μ, by simp only [Sem.run_bind, this, Result.andThen_ok]; rfl, .inl rfl, ?_, a1, a2, hlen1⟩
                  exact VRel.hdr (w := w) (S := S1) (μ := μ) (ℓ := H1.length - 1) nm es elems.length lo len cap b n ek (by omega) q2 q3 q4 q5 q6
                · rename_i hemp
                  simp only [Option.some.injEq, Prod.mk.injEq] at h
                  obtain ⟨rfl, rfl⟩ := h
                  have hsz2 : elems.length * es ≤ n := Nat.le_trans (Nat.mul_le_mul_right _ q3) q6
                  obtain ⟨w', r1, r3, r4⟩ := write_room (ℓ := ℓ) (P := K.P) (p := lo + len) a1 hg hvf hrows q2 hin q5 hsz2 c2
                  have hfit : len + xs.length ≤ cap := by omega
                  have := append_fits_run (ty := ty) (base := some ⟨b, lo * es, none⟩) (len := len) (cap := cap) h0 h1 hu hsz (a4 w) c1 hfit (w' := w')
                    (by simp only; rw [add_none, ← Nat.add_mul]; exact r1) (r := .ok () w)
                  refine ⟨_, _, w', S1, μ, by simp only [Sem.run_bind, this, Result.andThen_ok]; rfl, .inl rfl, ?_, r3, a2.trans r4, by rw [Heap.length_set]; exact hlen1⟩
                  exact VRel.hdr (w := w') (S := S1) (μ := μ) nm es elems.length lo (len + xs.length) cap b n ek (by rw [Heap.length_set]; omega) q2 q3 (by omega) (r4.shp _ _ q5) q6
              · cases h
          · cases h
        · cases h
      · cases h
    · cases h
  · cases h
theorem ownLit_sound {t e : TypeId} {len size d : Nat} {parts : Array (Nat × Operand)} {a : Act} {s : Slots} {z : GV} {zs cs : List GV} {ps : List PV} {nm : Nm} {H' : Heap} (hH : HRel w S μ H)
  (hs : ∀ t, VRel w S μ (H.length - 1) (a.tmps.getD t undef) (look s t)) (hu : telem P t = some e) (hsz : tsize P e = some size) (hz : tzero P e = some z) (hzc : cellsO z = some zs)
  (hzl : zs.length = size) (hpos : 0 < size) (hmax : len * size ≤ 16777216)
  (h : gfill (fun i => some (i * size, size)) (List.replicate len zs).flatten (parts.toList.map (evp s)) = some cs) (hp : allPure (cs.map canon1) = some ps)
  (hnew : gnew H d (.arr size (chunks size len ps) 0 false) = some (nm, H')) :
  OpOk ℓ w S μ H ((do pure (Next.value (← Instr.buildSlice t len (parts.map fun x => (x.1, a.eval x.2)))) : Sem Next).run P w) (.hdr nm size len 0 len) H' := by
 obtain ⟨c, h1, h2, h3⟩ := buildSlice_run hH hs hu hsz hz hzc hzl hpos hmax h
 have h1' := canon1_cells h1
 rw [allPure_some hp] at h1'
 obtain ⟨q1, q2⟩ := CRel.pures _ _ h1'
 have hpl : ps.length = len * size := by have := h1.length; simp at q1 this; omega
 have hck : c.size = len * size := by simp at q1; omega
 obtain ⟨μ', e1, e2, e3, e4⟩ := new_row (ℓ := ℓ) (c := c) (e := e) (n := len) (cap := len) hH hnew hpos (chunks_mem hpl) (chunks_length _ _ _) (Nat.le_refl _) (by omega) (fun i j hi hj => by
  have hlt := rows_lt hi hj
  rw [agetD, chunks_cell PV.dead i j hi hj]
  exact q2 _ (by omega))
 exact ⟨_, _, _, S, μ', by simp [h3], .inl rfl, e1, e2, e3, e4⟩
theorem ownLits_sound {t e : TypeId} {len size d : Nat} {parts : Array (Nat × Operand)} {a : Act} {s : Slots} {z : GV} {zs cs : List GV} {nm : Nm} {H' : Heap} (hH : HRel w S μ H)
  (hs : ∀ t, VRel w S μ (H.length - 1) (a.tmps.getD t undef) (look s t)) (hu : telem P t = some e) (hsz : tsize P e = some size) (hz : tzero P e = some z) (hzc : cellsO z = some zs)
  (hzl : zs.length = size) (hpos : 0 < size) (hmax : len * size ≤ 16777216)
  (h : gfill (fun i => some (i * size, size)) (List.replicate len zs).flatten (parts.toList.map (evp s)) = some cs)
  (hnew : gnew (pureCells H cs).2 d (.arr size (chunks size len (pureCells H cs).1) 0 false) = some (nm, H')) :
  OpOk ℓ w S μ H ((do pure (Next.value (← Instr.buildSlice t len (parts.map fun x => (x.1, a.eval x.2)))) : Sem Next).run P w) (.hdr nm size len 0 len) H' := by
 obtain ⟨c, h1, h2, h3⟩ := buildSlice_run hH hs hu hsz hz hzc hzl hpos hmax h
 obtain ⟨S1, a1, a2, a3, a4⟩ := pureCells_rel ℓ hH h1
 generalize hps : (pureCells H cs).1 = ps at a3 hnew
 obtain ⟨q1, q2⟩ := CRel.pures _ _ a3
 have hcl := h1.length
 have hpl : ps.length = len * size := by simp at q1 hcl; omega
 have hck : c.size = len * size := by simp at q1; omega
 obtain ⟨μ', e1, e2, e3, e4⟩ := new_row (ℓ := ℓ) (c := c) (e := e) (n := len) (cap := len) a1 hnew hpos (chunks_mem hpl) (chunks_length _ _ _) (Nat.le_refl _) (by omega) (fun i j hi hj => by
  have hlt := rows_lt hi hj
  rw [agetD, chunks_cell PV.dead i j hi hj]
  exact q2 _ (by omega))
 exact ⟨_, _, _, S1, μ', by simp [h3], .inl rfl, e1, e2, a2.trans e3, e4.trans a4.1⟩
theorem wrap_small {n : Int} (h0 : 0 ≤ n) (h1 : n ≤ 1099511627776) : IntKind.i64.wrap n = n := by
 simp only [IntKind.wrap, IntKind.signed, IntKind.bits]
 simp
 omega
theorem makeSlice_sound {t e : TypeId} {size bytes d : Nat} {z : GV} {zs : List GV} {ps : List PV} {l c : Int} {kl kc : IntKind} {nm : Nm} {H' : Heap} (hH : HRel w S μ H)
  (hu : telem P t = some e) (hsz : tsize P e = some size) (hby : tbytes P e = some bytes) (hz : tzero P e = some z) (hzc : cellsO z = some zs) (hp : allPure (zs.map canon1) = some ps)
  (hpl : ps.length = size) (hpos : 0 < size) (hb0 : 0 < bytes) (hl0 : 0 ≤ l) (hlc : l ≤ c) (hcb : c * bytes ≤ 1099511627776)
  (hnew : gnew H d (.arr size (List.replicate l.toNat ps) 0 false) = some (nm, H')) :
  OpOk ℓ w S μ H ((do pure (Next.value (← Instr.makeSlice t (.int kl l) (.int kc c))) : Sem Next).run P w) (.hdr nm size l.toNat 0 l.toNat) H' := by
 obtain ⟨v, hv1, rfl⟩ := r_zero (P := P) w hz
 have hc := cellsO_rel (ofConst_rel (w := w) (S := S) (μ := μ) (ℓ := H.length - 1) v) hzc
 have hc' := canon1_cells hc
 rw [allPure_some hp] at hc'
 obtain ⟨q1, q2⟩ := CRel.pures _ _ hc'
 have hvl : v.cells.size = size := by simp at q1; omega
 obtain ⟨i, hi, rfl⟩ := r_bytes (P := P) w hby
 have hcmax : c ≤ 1099511627776 := by
  have : c * 1 ≤ c * (i.bytes : Int) := Int.mul_le_mul_of_nonneg_left (by omega) (by omega)
  omega
 have hw1 : IntKind.i64.wrap l = l := wrap_small hl0 (by omega)
 have hw2 : IntKind.i64.wrap c = c := wrap_small (by omega) hcmax
 have htl : ¬ ((281474976710656 : Int) < (i.bytes : Int) * c) := by rw [Int.mul_comm]; omega
 have hcells : ((Array.range (c.toNat * size)).map (v.cells[· % v.cells.size]!)).toList = (List.replicate c.toNat v.cells.toList).flatten := by rw [← hvl]; exact mod_range v.cells c.toNat
 have hrun : ∃ cs : Array Value, cs.toList = (List.replicate c.toNat v.cells.toList).flatten ∧
   (Instr.makeSlice t (.int kl l) (.int kc c)).run P w = .ok (.slice (some ⟨w.heap.size, 0, none⟩) l.toNat c.toNat) (w.alloc (.cells cs e)) := by
  by_cases h0 : c.toNat * size = 0
  ·have hc0 : c.toNat = 0 := by rcases Nat.mul_eq_zero.1 h0 with h | h <;> omega
   have e0 : ∀ f : Nat → Value, Array.map f (Array.range 0) = #[] := fun f => Array.eq_empty_of_size_eq_zero (by simp)
   have hci : c = 0 := by omega
   have hli : l = 0 := by omega
   subst hci; subst hli
   refine ⟨#[], by simp, ?_⟩
   have hwz : IntKind.i64.wrap 0 = 0 := hw1
   simp [Instr.makeSlice, r_underlying w (telem_some hu), asInt, asIntOf, hi, hwz, r_size w hsz, newRow, e0]
  ·refine ⟨_, hcells, ?_⟩
   have hlt : ¬ l < 0 := by omega
   have hlc' : ¬ l > c := by omega
   have hcn : ¬ c < 0 := by omega
   simp only [Nat.mul_eq_zero] at h0
   simp [Instr.makeSlice, r_underlying w (telem_some hu), asInt, asIntOf, hi, hw1, hw2, hlt, hlc', hcn, htl, r_size w hsz, hv1, newRow, h0]
   intro hh; exact absurd (Nat.mul_eq_zero.1 hh) h0
 obtain ⟨cs, cs1, cs2⟩ := hrun
 have hcsz : cs.size = c.toNat * size := by have := congrArg List.length cs1; simp [List.length_flatten, hvl] at this; exact this
 obtain ⟨μ', e1, e2, e3, e4⟩ := new_row (ℓ := ℓ) (c := cs) (e := e) (n := l.toNat) (cap := c.toNat) hH hnew hpos (fun r hr => by rw [(List.mem_replicate.1 hr).2]; exact hpl) (by simp) (by omega) (by omega) (fun i' j hi' hj => by
  have hget : cs.getD (i' * size + j) undef = v.cells.toList.getD j undef := by
   have hlt := rows_lt (n := c.toNat) (show i' < c.toNat by omega) hj
   have hin : i' * size + j < ((Array.range (c.toNat * size)).map (v.cells[· % v.cells.size]!)).toList.length := by simpa using hlt
   obtain ⟨d1, d2⟩ := div_row (i := i') hj
   rw [agetD, cs1, ← hcells, List.getD_eq_getElem?_getD, List.getElem?_eq_getElem hin]
   simp [hvl, d2, List.getD_eq_getElem?_getD]
   rw [Array.getElem?_eq_getElem (show j < v.cells.size by omega)]
   simp [getElem!_pos, show j < v.cells.size by omega]
  have hrow : (List.replicate l.toNat ps).getD i' [] = ps := by simp [List.getD_eq_getElem?_getD, List.getElem?_replicate, hi']
  rw [hget, hrow]
  exact q2 j (by omega))
 exact ⟨_, _, _, S, μ', by simp [cs2], .inl rfl, e1, e2, e3, e4⟩
theorem gclear_sound (K : Ctx) {t ty : TypeId} {ats : Array TypeId} {k : Nat} {va : Value} {x : GV} {H' : Heap} {args : Array Value} (hH : HRel w S μ H) (hx : VRel w S μ k va x) (ht : ats[0]? = some t) (ha : args[0]? = some va)
  (h : gclear K t H x = some H') :
  ∃ w', (Builtin.clear_ ats ty args).run K.P w = .ok (.tuple #[]) w' ∧ HRel w' S μ H' ∧ Ev ℓ w S μ w' S μ ∧ H'.length = H.length := by
 unfold gclear at h
 split at h
 ·rename_i e hu
  split at h
  ·rename_i size z nm es top lo len hsz hz
   split at h
   ·rename_i zs es' elems vf ro hzc hg
    split at h
    ·rename_i ps hp
     split at h
     ·rename_i hc
      obtain ⟨rfl, rfl, hpl, rfl, hvf, rfl, hin, hlen⟩ := hc
      simp only [Option.some.injEq] at h; subst h
      cases hx with
      | hdr _ _ _ _ _ cap b n ek q1 q2 q3 q4 q5 q6 =>
      obtain ⟨h0, k1, k2, k3, k4⟩ := hH.blk _ _ hg _ _ q2
      obtain ⟨v, hv1, rfl⟩ := r_zero (P := K.P) w hz
      have hcr := cellsO_rel (ofConst_rel (w := w) (S := S) (μ := μ) (ℓ := H.length - 1) v) hzc
      have hc' := canon1_cells hcr
      rw [allPure_some hp] at hc'
      obtain ⟨p1, p2⟩ := CRel.pures _ _ hc'
      have hvl : v.cells.size = es := by simp at p1; omega
      have hcells : (Builtin.zeroCells v.cells len).toList = (List.replicate len v.cells.toList).flatten := mod_range v.cells len
      have hR : RowsAt w S (Builtin.zeroCells v.cells len) (List.replicate len ps) es := by
       refine ⟨by rw [zeroCells_size, hvl]; simp, fun i j hi hj => ?_⟩
       have hi' : i < len := by simpa using hi
       have hlt := rows_lt (n := len) hi' hj
       obtain ⟨d1, d2⟩ := div_row (i := i) hj
       have hget : (Builtin.zeroCells v.cells len).getD (i * es + j) undef = v.cells.toList.getD j undef := by
        rw [agetD, List.getD_eq_getElem?_getD, List.getElem?_eq_getElem (by rw [Array.length_toList, zeroCells_size, hvl]; exact hlt)]
        simp [Builtin.zeroCells, hvl, d2, List.getD_eq_getElem?_getD]
        rw [getElem!_pos v.cells j (by omega), Array.getElem?_eq_getElem (by omega)]
        rfl
       have hrp : (List.replicate len ps).getD i [] = ps := by simp [List.getD_eq_getElem?_getD, hi']
       rw [hget, hrp]
       exact p2 j (by omega)
      have hsz2 : elems.length * es ≤ n := Nat.le_trans (Nat.mul_le_mul_right _ q3) q6
      obtain ⟨w', r1, r3, r4⟩ := write_room (ℓ := ℓ) (P := K.P) (p := lo) hH hg hvf (fun r hr => by rw [(List.mem_replicate.1 hr).2]; exact hpl) q2 (by simpa using hin) q5 hsz2 hR
      obtain ⟨m, rfl⟩ : ∃ m, len = m + 1 := ⟨len - 1, by omega⟩
      refine ⟨w', ?_, r3, r4, Heap.length_set _ _ _⟩
      simp [Builtin.clear_, ht, ha, r_underlying w (telem_some hu), hv1, r1]
     ·cases h
    ·cases h
   ·cases h
  ·cases h
 ·cases h
end
end
section
def scalV : PV → Value
 | .int k n => .int k n
 | .bool b => .bool b
 | .str l => .string ⟨l.toArray⟩
 | _ => undef
def EqOk (P : Program) (t : TypeId) (ks : List SK) : Prop :=
 P.eqGuardType P.depth t = false ∧ ∀ (a b : List PV) (q : Bool), eqRow ks a b = some q → ∀ w, (Op.equalIn 10000 t (.agg (a.map scalV).toArray) (.agg (b.map scalV).toArray)).run P w = .ok q w ∧
  ∀ e, (Instr.checkKey e 10000 t (.agg (a.map scalV).toArray)).run P w = .ok () w
def CloneOk (P : Program) (f : FuncId) : Prop :=
 ∀ (w : World) (a : Option Addr) (cap : Nat), GlbRel w (fun b => b < w.heap.size) → (callFunc f #[.slice a 0 cap]).run P w = .ok (.enter f #[.slice a 0 cap]) w ∧
  CallsIn { Fence.wide with round := none } 0 P f #[.slice a 0 cap] w fun e w' => (∃ a', e = .returned (.slice a' 0 0)) ∧ w'.os = w.os ∧ w'.tape = w.tape ∧ w'.output = w.output ∧ w.heap.size ≤ w'.heap.size ∧
   ∀ b, b < w.heap.size → w'.heap[b]? = w.heap[b]?
structure CtxOk (K : Ctx) : Prop where
 cln : ∀ f, K.cln f = true → K.ext f = none → CloneOk K.P f
 eqs : ∀ t ks, K.eqs t = some ks → EqOk K.P t ks
 mixed : K.P.follows .mixedOrders = true
 ext : ∀ f e, K.cln f = true → K.ext f = some e → ExtOk K.P f e
 tab : ∀ f, K.tab f = true → K.cln f = true ∧ K.ext f = some (extTab f)
section
variable {w : World} {S : Nat → Prop} {μ : Mu} {H : Heap} {P : Program} {ℓ : Nat}
theorem scalV_of {v : Value} {p : PV} (h : PRep w S v p) (hp : (∃ k n, p = .int k n) ∨ (∃ b, p = .bool b) ∨ ∃ l, p = .str l) : v = scalV p := by
 rcases hp with ⟨k, n, rfl⟩ | ⟨b, rfl⟩ | ⟨l, rfl⟩
 ·cases h; rfl
 ·cases h; rfl
 ·cases h; simp [scalV]
theorem eqRow_scal : ∀ (ks : List SK) (a b : List PV) (q : Bool), eqRow ks a b = some q → (∀ p ∈ a, (∃ k n, p = .int k n) ∨ (∃ b, p = .bool b) ∨ ∃ l, p = .str l) ∧ (∀ p ∈ b, (∃ k n, p = .int k n) ∨ (∃ b, p = .bool b) ∨ ∃ l, p = .str l)
 | [], a, b, q, h => by
  cases a <;> cases b <;> simp [eqRow] at h
  simp
 | s :: ks, [], b, q, h => by cases s <;> cases b <;> simp [eqRow] at h
 | s :: ks, x :: a, [], q, h => by cases s <;> cases x <;> simp [eqRow] at h
 | s :: ks, x :: a, y :: b, q, h => by
  have key : ∀ q', eqRow ks a b = some q' → ((∃ k n, x = .int k n) ∨ (∃ b, x = .bool b) ∨ ∃ l, x = .str l) → ((∃ k n, y = .int k n) ∨ (∃ b, y = .bool b) ∨ ∃ l, y = .str l) →
    (∀ p ∈ x :: a, (∃ k n, p = .int k n) ∨ (∃ b, p = .bool b) ∨ ∃ l, p = .str l) ∧ (∀ p ∈ y :: b, (∃ k n, p = .int k n) ∨ (∃ b, p = .bool b) ∨ ∃ l, p = .str l) := by
   intro q' h1 hx hy
   obtain ⟨i1, i2⟩ := eqRow_scal ks a b q' h1
   exact ⟨fun p hp => by rcases List.mem_cons.1 hp with rfl | hp; exact hx; exact i1 p hp, fun p hp => by rcases List.mem_cons.1 hp with rfl | hp; exact hy; exact i2 p hp⟩
  cases s with
  | int k =>
   cases x <;> cases y <;> simp [eqRow] at h
   split at h
   ·rename_i q' hq'; exact key q' hq' (.inl ⟨_, _, rfl⟩) (.inl ⟨_, _, rfl⟩)
   ·simp at h
  | bool =>
   cases x <;> cases y <;> simp only [eqRow] at h
   all_goals first | (cases h; done) | skip
   split at h
   ·rename_i q' hq'; exact key q' hq' (.inr (.inl ⟨_, rfl⟩)) (.inr (.inl ⟨_, rfl⟩))
   ·cases h
  | str =>
   cases x <;> cases y <;> simp only [eqRow] at h
   all_goals first | (cases h; done) | skip
   split at h
   ·rename_i q' hq'; exact key q' hq' (.inr (.inr ⟨_, rfl⟩)) (.inr (.inr ⟨_, rfl⟩))
   ·cases h
theorem scal_cells {k : Nat} : ∀ {vs : List Value} {a : List PV}, CRel w S μ k vs (a.map .pure) → (∀ p ∈ a, (∃ k n, p = .int k n) ∨ (∃ b, p = .bool b) ∨ ∃ l, p = .str l) → vs = a.map scalV
 | vs, [], h, _ => by cases h; rfl
 | vs, x :: a, h, hp => by
  cases h with
  | cons h1 h2 h3 => rw [List.map_cons, scalV_of h2.pv (hp x (by simp)), scal_cells h3 (fun p hq => hp p (by simp [hq]))]
theorem rep_int (k : IntKind) (n : Int) : PRep w S (scalV (.int k n)) (.int k n) := .int k n
theorem rep_bool (b : Bool) : PRep w S (scalV (.bool b)) (.bool b) := .bool b
theorem equalIn_nil (d : Nat) {t e : TypeId} {b : Addr} {len cap : Nat} (hu : P.underlying t = some (.slice e)) : (Op.equalIn (d + 1) t (.slice (some b) len cap) (.slice none 0 0)).run P w = .ok false w := by
 simp [Op.equalIn, r_underlying w hu]
theorem eql_nil {t e : TypeId} {b : Addr} {len cap : Nat} (hu : P.underlying t = some (.slice e)) : (binOp .eql t (.slice (some b) len cap) (.slice none 0 0)).run P w = .ok (.bool false) w := by
 have := equalIn_nil (w := w) 9999 (b := b) (len := len) (cap := cap) hu
 simp only [binOp]
 simp only [Op.equal, Op.maxDepth, Sem.run_bind, this, Result.andThen_ok, Sem.run_pure]
theorem neq_nil {t e : TypeId} {b : Addr} {len cap : Nat} (hu : P.underlying t = some (.slice e)) : (binOp .neq t (.slice (some b) len cap) (.slice none 0 0)).run P w = .ok (.bool true) w := by
 have := equalIn_nil (w := w) 9999 (b := b) (len := len) (cap := cap) hu
 simp only [binOp]
 simp only [Op.equal, Op.maxDepth, Sem.run_bind, this, Result.andThen_ok, Sem.run_pure, Bool.not_false]
theorem nonNil_inv {k : Nat} {a : GV} {va : Value} (ha : VRel w S μ k va a) (h : nonNil a = true) : ∃ b len cap, va = .slice (some b) len cap := by
 cases ha with
 | hdr nm es top lo len cap b n e0 hl hm hc ht hs hn => exact ⟨_, _, _, rfl⟩
 | lits b o cap es l f hS he hes hf h1 hr hcap => exact ⟨_, _, _, rfl⟩
 | pure v q hq =>
  cases hq with
  | slice b o cap es l f hS he hes hf h1 hr hc => exact ⟨_, _, _, rfl⟩
  | _ => simp [nonNil] at h
 | _ => simp [nonNil] at h
theorem gnilEq_sound (K : Ctx) {k : Nat} {op : BinOp} {t : TypeId} {x y : Operand} {a : GV} {va : Value} {p : PV} (ha : VRel w S μ k va a) (h : gnilEq K op t a = some p) :
  ∃ u, (eqGuard op t x y va (.slice none 0 0)).run K.P w = .ok () w ∧ (binOp op t va (.slice none 0 0)).run K.P w = .ok u w ∧ PRep w S u p := by
 unfold gnilEq at h
 split at h
 ·rename_i e hu
  split at h
  ·rename_i hn
   obtain ⟨b, len, cap, rfl⟩ := nonNil_inv ha hn
   cases h
   exact ⟨_, by simp [eqGuard], eql_nil hu, .bool false⟩
  ·cases h
 ·rename_i e hu
  split at h
  ·rename_i hn
   obtain ⟨b, len, cap, rfl⟩ := nonNil_inv ha hn
   cases h
   exact ⟨_, by simp [eqGuard], neq_nil hu, .bool true⟩
  ·cases h
 ·cases h
theorem isNilC_eq {y : Operand} (h : isNilC y = true) : y = .const (.slice none 0 0) := by
 unfold isNilC at h
 split at h
 ·rfl
 ·cases h
theorem isNilI_eq {y : Operand} (h : isNilI y = true) : y = .const .nilIface := by
 unfold isNilI at h
 split at h
 ·rfl
 ·cases h
theorem gnilI_sound (K : Ctx) {k : Nat} {op : BinOp} {t : TypeId} {x y : Operand} {a : GV} {va : Value} {p : PV} (hy : isNilI y = true) (ha : VRel w S μ k va a) (h : gnilI K op t a = some p) :
  ∃ u, (eqGuard op t x y va .nilIface).run K.P w = .ok () w ∧ (binOp op t va .nilIface).run K.P w = .ok u w ∧ PRep w S u p := by
 obtain rfl := isNilI_eq hy
 have e1 : ∀ ms, K.P.underlying t = some (.interface ms) → (Op.equalIn 10000 t .nilIface .nilIface).run K.P w = .ok true w := fun ms hu => by
  show (Op.equalIn (9999 + 1) t .nilIface .nilIface).run K.P w = _
  unfold Op.equalIn
  simp [r_underlying w hu]
 have e2 : ∀ ms t' v', K.P.underlying t = some (.interface ms) → (Op.equalIn 10000 t (.iface t' v') .nilIface).run K.P w = .ok false w := fun ms t' v' hu => by
  show (Op.equalIn (9999 + 1) t (.iface t' v') .nilIface).run K.P w = _
  unfold Op.equalIn
  simp [r_underlying w hu]
 unfold gnilI at h
 split at h
 ·rename_i ms hu
  cases h
  have hp := ha.pv
  cases hp
  refine ⟨_, by simp [eqGuard], ?_, .bool true⟩
  simp only [binOp, Op.equal, Op.maxDepth, Sem.run_bind, e1 _ hu, Result.andThen_ok, Sem.run_pure]
 ·rename_i ms hu
  cases h
  have hp := ha.pv
  cases hp
  refine ⟨_, by simp [eqGuard], ?_, .bool false⟩
  simp only [binOp, Op.equal, Op.maxDepth, Sem.run_bind, e1 _ hu, Result.andThen_ok, Sem.run_pure, Bool.not_true]
 ·rename_i ms t' v' hu
  cases h
  have hp := ha.pv
  cases hp
  refine ⟨_, by simp [eqGuard], ?_, .bool false⟩
  simp only [binOp, Op.equal, Op.maxDepth, Sem.run_bind, e2 _ _ _ hu, Result.andThen_ok, Sem.run_pure]
 ·rename_i ms t' v' hu
  cases h
  have hp := ha.pv
  cases hp
  refine ⟨_, by simp [eqGuard], ?_, .bool true⟩
  simp only [binOp, Op.equal, Op.maxDepth, Sem.run_bind, e2 _ _ _ hu, Result.andThen_ok, Sem.run_pure, Bool.not_false]
 ·cases h
theorem run_eq_nil1 {P : Program} (w : World) (n : Nat) {t e : TypeId} (hu : P.underlying t = some (.pointer e)) (b : Option Addr) : (Op.equalIn (n + 1) t (.pointer none) (.pointer b)).run P w = .ok b.isNone w := by
 unfold Op.equalIn
 simp [run_underlying hu]
theorem run_eq_nil2 {P : Program} (w : World) (n : Nat) {t e : TypeId} (hu : P.underlying t = some (.pointer e)) (a : Addr) : (Op.equalIn (n + 1) t (.pointer (some a)) (.pointer none)).run P w = .ok false w := by
 unfold Op.equalIn
 simp [run_underlying hu]
theorem run_eq_self {P : Program} (w : World) (n : Nat) {t e : TypeId} {k : Nat} (hu : P.underlying t = some (.pointer e)) (hz : tsize P e = some k) (a : Addr) : (Op.equalIn (n + 1) t (.pointer (some a)) (.pointer (some a))).run P w = .ok true w := by
 have hs := r_size (w := w) hz
 unfold Op.equalIn
 by_cases hk : k = 0
 ·subst hk
  simp [run_underlying hu, hs]
 ·simp [run_underlying hu, hs, hk, sameAddr]
theorem gbin_sound (K : Ctx) (hK : CtxOk K) {k : Nat} {op : BinOp} {t : TypeId} {x y : Operand} {a b : GV} {va vb : Value} {p : PV} (ha : VRel w S μ k va a) (hb : VRel w S μ k vb b) (h : gbin K op t a b = some p) :
  ∃ u, (eqGuard op t x y va vb).run K.P w = .ok () w ∧ (binOp op t va vb).run K.P w = .ok u w ∧ PRep w S u p := by
 unfold gbin at h
 split at h
 ·
  rename_i k1 n1 k2 n2
  obtain rfl := ha.int_inv
  obtain rfl := hb.int_inv
  have hg : ∀ op, (eqGuard op t x y (.int k1 n1) (.int k2 n2)).run K.P w = .ok () w := by intro op; cases op <;> rfl
  split at h
  ·unfold gshift at h
   split at h
   ·cases h
   ·rename_i hn
    simp only [Option.some.injEq] at h; subst h
    exact ⟨_, hg _, by simp [binOp, Op.shift, hn, scalV], rep_int _ _⟩
  ·unfold gshift at h
   split at h
   ·cases h
   ·rename_i hn
    simp only [Option.some.injEq] at h; subst h
    exact ⟨_, hg _, by simp [binOp, Op.shift, hn, scalV], rep_int _ _⟩
  ·rename_i h1 h2
   split at h
   ·rename_i hk; subst hk
    cases op <;> simp only [gint] at h
    case shl => exact absurd rfl (h1)
    case shr => exact absurd rfl (h2)
    case quo =>
     split at h
     ·cases h
     ·rename_i hn; simp only [Option.some.injEq] at h; subst h
      exact ⟨_, hg _, by simp [binOp, Op.intDiv, hn, scalV], rep_int _ _⟩
    case rem =>
     split at h
     ·cases h
     ·rename_i hn; simp only [Option.some.injEq] at h; subst h
      exact ⟨_, hg _, by simp [binOp, Op.intDiv, hn, scalV], rep_int _ _⟩
    all_goals first | (cases h; done) | skip
    all_goals simp only [Option.some.injEq] at h
    all_goals subst h
    all_goals first
     | (refine ⟨_, hg _, ?_, rep_int _ _⟩; simp [binOp, Op.intArith, Op.intBits, scalV])
     | (refine ⟨_, hg _, ?_, rep_bool _⟩; simp [binOp, Op.intCmp, scalV])
   ·cases h
 ·
  rename_i l1 l2
  obtain ⟨s1, rfl, e1⟩ := ha.str_inv
  obtain ⟨s2, rfl, e2⟩ := hb.str_inv
  have hg : ∀ op, (eqGuard op t x y (.string s1) (.string s2)).run K.P w = .ok () w := by intro op; cases op <;> rfl
  have t1 : s1.toList = l1 := by rw [ByteArray.toList_eq, e1]
  have t2 : s2.toList = l2 := by rw [ByteArray.toList_eq, e2]
  cases op <;> simp only [gstr] at h
  case add =>
   split at h
   ·rename_i hlen
    simp only [Option.some.injEq] at h; subst h
    have hs : s1.size + s2.size = l1.length + l2.length := by subst e1; subst e2; simp
    have hno : ¬ (((s1.size + s2.size : Nat) : Int) > IntKind.i64.max) := by
     rw [hs]; simp only [IntKind.max, IntKind.signed, IntKind.bits]; simp; omega
    have hr : (binOp .add t (.string s1) (.string s2)).run K.P w = .ok (.string (s1 ++ s2)) w := by
     simp only [binOp, Op.stringOp]; rw [if_neg hno]; rfl
    refine ⟨_, hg _, hr, ?_⟩
    have := PRep.str (w := w) (S := S) (s1 ++ s2)
    have e : (s1 ++ s2).data.toList = l1 ++ l2 := by subst e1; subst e2; simp
    rw [e] at this; exact this
   ·cases h
  all_goals first | (cases h; done) | skip
  all_goals simp only [Option.some.injEq] at h
  all_goals subst h
  all_goals (refine ⟨_, hg _, ?_, rep_bool _⟩; simp [binOp, Op.stringOp, t1, t2, scalV])
 ·
  rename_i b1 b2
  obtain rfl := ha.bool_inv
  obtain rfl := hb.bool_inv
  have hg : ∀ op, (eqGuard op t x y (.bool b1) (.bool b2)).run K.P w = .ok () w := by intro op; cases op <;> rfl
  split at h
  ·rename_i hu
   simp only [Option.some.injEq] at h; subst h
   have hq : (Op.equalIn 10000 t (.bool b1) (.bool b2)).run K.P w = .ok (b1 == b2) w := run_equalIn_bool' w 9999 t b1 b2 hu
   exact ⟨_, hg _, by simp only [binOp, Op.equal, Op.maxDepth, Sem.run_bind, hq, Result.andThen_ok]; rfl, rep_bool _⟩
  ·rename_i hu
   simp only [Option.some.injEq] at h; subst h
   have hq : (Op.equalIn 10000 t (.bool b1) (.bool b2)).run K.P w = .ok (b1 == b2) w := run_equalIn_bool' w 9999 t b1 b2 hu
   exact ⟨_, hg _, by simp only [binOp, Op.equal, Op.maxDepth, Sem.run_bind, hq, Result.andThen_ok]; rfl, rep_bool _⟩
  ·cases h
 ·
  rename_i l1 l2
  obtain ⟨vs1, rfl, c1⟩ := ha.agg_inv
  obtain ⟨vs2, rfl, c2⟩ := hb.agg_inv
  split at h
  ·rename_i ks hks
   obtain ⟨g1, g2⟩ := hK.eqs t ks hks
   have key : ∀ q, eqRow ks l1 l2 = some q → (Op.equalIn 10000 t (.agg vs1) (.agg vs2)).run K.P w = .ok q w := by
    intro q hq
    obtain ⟨s1, s2⟩ := eqRow_scal ks l1 l2 q hq
    have r1 := scal_cells c1 s1
    have r2 := scal_cells c2 s2
    have := (g2 l1 l2 q hq w).1
    rw [← r1, ← r2] at this
    simpa using this
   split at h
   ·rename_i q hq
    simp only [Option.some.injEq] at h; subst h
    exact ⟨_, run_eqGuard_agg w _ t x y vs1 vs2 g1, by rw [run_eql_struct, key q hq]; rfl, .bool _⟩
   ·rename_i q hq
    simp only [Option.some.injEq] at h; subst h
    exact ⟨_, run_eqGuard_agg w _ t x y vs1 vs2 g1, by rw [run_neq_struct, key q hq]; rfl, .bool _⟩
   ·cases h
  ·cases h
 ·
  cases ha with | pure _ _ h1 => cases hb with | pure _ _ h2 =>
   cases h1; cases h2
   have hg : ∀ op, (eqGuard op t x y (.pointer none) (.pointer none)).run K.P w = .ok () w := by intro op; cases op <;> rfl
   split at h
   ·rename_i hu
    simp only [Option.some.injEq] at h; subst h
    exact ⟨_, hg _, by simp only [binOp, Op.equal, Op.maxDepth, Sem.run_bind, run_eq_nil1 w 9999 hu, Result.andThen_ok]; rfl, .bool _⟩
   ·rename_i hu
    simp only [Option.some.injEq] at h; subst h
    exact ⟨_, hg _, by simp only [binOp, Op.equal, Op.maxDepth, Sem.run_bind, run_eq_nil1 w 9999 hu, Result.andThen_ok]; rfl, .bool _⟩
   ·cases h
 ·
  cases ha with | bptr _ _ b hl hm => cases hb with | pure _ _ h2 =>
   cases h2
   have hg : ∀ op (o : Nat), (eqGuard op t x y (.pointer (some ⟨b, o, none⟩)) (.pointer none)).run K.P w = .ok () w := by intro op o; cases op <;> rfl
   split at h
   ·rename_i hu
    simp only [Option.some.injEq] at h; subst h
    exact ⟨_, hg _ _, by simp only [binOp, Op.equal, Op.maxDepth, Sem.run_bind, run_eq_nil2 w 9999 hu, Result.andThen_ok]; rfl, .bool _⟩
   ·rename_i hu
    simp only [Option.some.injEq] at h; subst h
    exact ⟨_, hg _ _, by simp only [binOp, Op.equal, Op.maxDepth, Sem.run_bind, run_eq_nil2 w 9999 hu, Result.andThen_ok]; rfl, .bool _⟩
   ·cases h
 ·
  cases ha with | bptr _ _ b hl hm => cases hb with | bptr _ _ b' hl' hm' =>
   split at h
   ·rename_i hn
    obtain ⟨rfl, rfl⟩ := hn
    rw [hm] at hm'
    cases hm'
    have hg : ∀ op (o : Nat), (eqGuard op t x y (.pointer (some ⟨b, o, none⟩)) (.pointer (some ⟨b, o, none⟩))).run K.P w = .ok () w := by intro op o; cases op <;> rfl
    split at h
    ·rename_i hu
     split at h
     ·rename_i hz
      obtain ⟨k, hk⟩ := Option.isSome_iff_exists.1 hz
      simp only [Option.some.injEq] at h; subst h
      exact ⟨_, hg _ _, by simp only [binOp, Op.equal, Op.maxDepth, Sem.run_bind, run_eq_self w 9999 hu hk, Result.andThen_ok]; rfl, .bool _⟩
     ·cases h
    ·rename_i hu
     split at h
     ·rename_i hz
      obtain ⟨k, hk⟩ := Option.isSome_iff_exists.1 hz
      simp only [Option.some.injEq] at h; subst h
      exact ⟨_, hg _ _, by simp only [binOp, Op.equal, Op.maxDepth, Sem.run_bind, run_eq_self w 9999 hu hk, Result.andThen_ok]; rfl, .bool _⟩
     ·cases h
    ·cases h
   ·cases h
 ·cases h
end
end
section
section
variable {w : World} {S : Nat → Prop} {μ : Mu} {H : Heap} {P : Program} {ℓ : Nat}
theorem pptr_drop {b o q : Nat} {cs : List PV} {f : Nat → Value} {k : Nat} (hS : cs ≠ [] → S b) (hf : ∀ j, j < cs.length → w.cell? ⟨b, o + j, none⟩ = some (f j)) (h1 : ∀ j, j < cs.length → (f j).oneCell' = true)
  (hr : ∀ j, j < cs.length → PRep w S (f j) (cs.getD j .dead)) : VRel w S μ k (.pointer (some ⟨b, o + q, none⟩)) (.pptr (cs.drop q)) := by
 refine .pptr b (o + q) (cs.drop q) (fun j => f (q + j)) (fun h => hS (by intro e; subst e; simp at h)) (fun j hj => ?_) (fun j hj => ?_) (fun j hj => ?_)
 ·simp at hj; rw [Nat.add_assoc]; exact hf (q + j) (by omega)
 ·simp at hj; exact h1 (q + j) (by omega)
 ·simp at hj
  have := hr (q + j) (by omega)
  simpa [List.getD_eq_getElem?_getD, List.getElem?_drop] using this
theorem lptr_drop {b o q : Nat} {cs : List GV} {f : Nat → Value} {k : Nat} (hS : cs ≠ [] → S b) (hf : ∀ j, j < cs.length → w.cell? ⟨b, o + j, none⟩ = some (f j)) (h1 : ∀ j, j < cs.length → (f j).oneCell' = true)
  (hr : ∀ j, j < cs.length → VRel w S μ k (f j) (cs.getD j gdead)) : VRel w S μ k (.pointer (some ⟨b, o + q, none⟩)) (.lptr (cs.drop q)) := by
 refine .lptr b (o + q) (cs.drop q) (fun j => f (q + j)) (fun h => hS (by intro e; subst e; simp at h)) (fun j hj => ?_) (fun j hj => ?_) (fun j hj => ?_)
 ·simp at hj; rw [Nat.add_assoc]; exact hf (q + j) (by omega)
 ·simp at hj; exact h1 (q + j) (by omega)
 ·simp at hj
  have := hr (q + j) (by omega)
  simpa [List.getD_eq_getElem?_getD, List.getElem?_drop] using this
theorem shift_rel {k q : Nat} {va : Value} {x r : GV} (hx : VRel w S μ k va x)
  (h : gmoved q x = some r) : ∃ a : Addr, va = .pointer (some a) ∧ a.spot = none ∧ VRel w S μ k (.pointer (some (a.add q))) r := by
 cases hx with
 | bptr nm off b h1 h2 =>
  simp only [gmoved, Option.some.injEq] at h; subst h
  exact ⟨_, rfl, rfl, by rw [add_none]; exact .bptr nm _ b h1 h2⟩
 | eptr nm es top i off b h1 h2 =>
  simp only [gmoved, Option.some.injEq] at h; subst h
  exact ⟨_, rfl, rfl, by rw [add_none, Nat.add_assoc]; exact .eptr nm es top i _ b h1 h2⟩
 | pptr b o cs f hS hf h1 hr =>
  simp only [gmoved] at h
  split at h
  ·simp only [Option.some.injEq] at h; subst h
   exact ⟨_, rfl, rfl, by rw [add_none]; exact pptr_drop hS hf h1 hr⟩
  ·cases h
 | lptr b o cs f hS hf h1 hr =>
  simp only [gmoved] at h
  split at h
  ·simp only [Option.some.injEq] at h; subst h
   exact ⟨_, rfl, rfl, by rw [add_none]; exact lptr_drop hS hf h1 hr⟩
  ·cases h
 | rptr nm es i j off b h1 h2 =>
  simp only [gmoved, Option.some.injEq] at h; subst h
  exact ⟨_, rfl, rfl, by rw [add_none, Nat.add_assoc]; exact .rptr nm es i j _ b h1 h2⟩
 | _ => cases h
theorem tarr_some {t n e : Nat} (h : tarr P t = some (n, e)) : P.underlying t = some (.array n e) := by
 unfold tarr at h
 split at h
 ·rename_i n' e' he; simp at h; obtain ⟨rfl, rfl⟩ := h; exact he
 ·cases h
theorem tfield_some {t f off ft : Nat} (h : tfield P t f = some (off, ft)) : ∃ fs x, P.underlying t = some (.struct fs) ∧ fs[f]? = some x ∧ x.offset = off ∧ x.type = ft := by
 unfold tfield at h
 split at h
 ·rename_i fs hfs
  split at h
  ·rename_i x hx; simp at h; exact ⟨fs, x, hfs, hx, h.1, h.2⟩
  ·cases h
 ·cases h
theorem fieldAddr_sound {k f off ft size : Nat} {st : TypeId} {va : Value} {x r : GV} (hx : VRel w S μ k va x) (hf : tfield P st f = some (off, ft)) (hs : tsize P ft = some size) (h0 : size ≠ 0)
  (h : gmoved off x = some r) : ∃ u, (Instr.fieldAt st va f).run P w = .ok u w ∧ VRel w S μ k u r := by
 obtain ⟨fs, y, hu, hy, rfl, rfl⟩ := tfield_some hf
 obtain ⟨a, rfl, _, hr⟩ := shift_rel hx h
 exact ⟨_, by simp [Instr.fieldAt, r_underlying w hu, hy, sure_ptr, fieldPlace, r_size w hs, h0], hr⟩
theorem indexAddr_sound (K : Ctx) {k : Nat} {t : TypeId} {va vi : Value} {x i r : GV} (hx : VRel w S μ k va x) (hi : VRel w S μ k vi i) (h : gindexAddr K t x i = some r) :
  ∃ u, (Instr.indexAt t va vi).run K.P w = .ok u w ∧ VRel w S μ k u r := by
 unfold gindexAddr at h
 split at h
 ·rename_i kd n
  obtain rfl := hi.int_inv
  split at h
  ·cases h
  ·rename_i hneg
   have h0 : 0 ≤ n := by omega
   split at h
   ·rename_i len e hta
    split at h
    ·rename_i size hs
     split at h
     ·cases h
     ·rename_i hlt
      have hlt' : n < (len : Int) := by omega
      obtain ⟨a, rfl, _, hr⟩ := shift_rel hx h
      refine ⟨_, ?_, hr⟩
      simp [Instr.indexAt, asIntOf, r_underlying w (tarr_some hta), sure_ptr, h0, hlt', r_size w hs]
    ·cases h
   ·split at h
    ·rename_i e he
     split at h
     ·rename_i size hs
      split at h
      ·
       rename_i nm es top lo len
       cases hx with
       | hdr _ _ _ _ _ cap b m ek h1 h2 h3 h4 h5 h6 =>
       split at h
       ·rename_i hc
        obtain ⟨rfl, hlt⟩ := hc
        simp only [Option.some.injEq] at h; subst h
        refine ⟨.pointer (some ⟨b, (lo + n.toNat) * es + 0, none⟩), ?_, .eptr nm es top (lo + n.toNat) 0 b h1 h2⟩
        have ea : (⟨b, lo * es, none⟩ : Addr).add (n.toNat * es) = ⟨b, (lo + n.toNat) * es + 0, none⟩ := by rw [add_none, Nat.add_mul]; simp
        simp [Instr.indexAt, asIntOf, r_underlying w (telem_some he), h0, hlt, r_size w hs, ea]
       ·cases h
      ·
       rename_i l
       split at h
       ·rename_i cs hcs
        split at h
        ·rename_i hlen
         simp only [Option.some.injEq] at h; subst h
         have := hx.pv
         cases this with
         | slice0 a cap => simp at hcs
         | slice b o cap es _ f hS hpos hes hf h1 hr hcp =>
         have hin : n.toNat < l.length := by rcases Nat.lt_or_ge n.toNat l.length with h | h; exact h; rw [List.getElem?_eq_none h] at hcs; cases hcs
         have hcl : cs.length = es := hes _ (List.mem_of_getElem? hcs)
         have hlt : n < (l.length : Int) := by omega
         have hgd : l.getD n.toNat [] = cs := by simp [List.getD_eq_getElem?_getD, hcs]
         have es' : es = size := by omega
         subst es'
         refine ⟨.pointer (some ⟨b, o + n.toNat * es, none⟩), ?_, .pptr b (o + n.toNat * es) cs (f n.toNat) (fun _ => hS) (fun j hj => ?_) (fun j hj => h1 _ _ hin (by omega)) (fun j hj => ?_)⟩
         ·simp [Instr.indexAt, asIntOf, r_underlying w (telem_some he), h0, hlt, r_size w hs, add_none]
         ·rw [Nat.add_assoc]; exact hf _ _ hin (by omega)
         ·have := hr n.toNat j hin (by omega); rwa [hgd] at this
        ·cases h
       ·cases h
      ·
       rename_i l
       split at h
       ·rename_i cs hcs
        split at h
        ·rename_i hlen
         simp only [Option.some.injEq] at h; subst h
         cases hx with
         | lits b o cap es _ f hS hpos hes hf h1 hr hcap =>
         have hin : n.toNat < l.length := by rcases Nat.lt_or_ge n.toNat l.length with h | h; exact h; rw [List.getElem?_eq_none h] at hcs; cases hcs
         have hcl : cs.length = es := hes _ (List.mem_of_getElem? hcs)
         have hlt : n < (l.length : Int) := by omega
         have hgd : l.getD n.toNat [] = cs := by simp [List.getD_eq_getElem?_getD, hcs]
         have es' : es = size := by omega
         subst es'
         refine ⟨.pointer (some ⟨b, o + n.toNat * es, none⟩), ?_, .lptr b (o + n.toNat * es) cs (f n.toNat) (fun _ => hS) (fun j hj => ?_) (fun j hj => h1 _ _ hin (by omega)) (fun j hj => ?_)⟩
         ·simp [Instr.indexAt, asIntOf, r_underlying w (telem_some he), h0, hlt, r_size w hs, add_none]
         ·rw [Nat.add_assoc]; exact hf _ _ hin (by omega)
         ·have := hr n.toNat j hin (by omega); rwa [hgd] at this
        ·cases h
       ·cases h
      ·
       rename_i nm es q len
       cases hx with
       | rhdr _ _ _ _ cap b h1 h2 h3 =>
       split at h
       ·rename_i hc
        obtain ⟨rfl, hlt⟩ := hc
        simp only [Option.some.injEq] at h; subst h
        refine ⟨.pointer (some ⟨b, n.toNat * es + 0, none⟩), ?_, .rptr nm es q n.toNat 0 b h1 h2⟩
        have ea : (⟨b, 0, none⟩ : Addr).add (n.toNat * es) = ⟨b, n.toNat * es + 0, none⟩ := by rw [add_none]; simp
        simp [Instr.indexAt, asIntOf, r_underlying w (telem_some he), h0, hlt, r_size w hs, ea]
       ·cases h
      ·cases h
     ·cases h
    ·cases h
 ·cases h
theorem part_run {k off size : Nat} {ag : Bool} {t : TypeId} {vs : Array Value} {cs : List GV} {r : GV} (hc : CRel w S μ k vs.toList cs) (ha : tagg P t = some ag) (hs : tsize P t = some size)
  (hle : off + size ≤ cs.length) (h : (if ag then some (mkAgg ((cs.drop off).take size)) else cs[off]?) = some r) : ∃ u, (part t vs off).run P w = .ok u w ∧ VRel w S μ k u r := by
 cases ag with
 | true =>
  simp only [if_true, Option.some.injEq] at h; subst h
  refine ⟨.agg (vs.extract off (off + size)), by simp [part, r_agg w ha, r_size w hs], mkAgg_rel' ?_⟩
  have e : (vs.extract off (off + size)).toList = (vs.toList.drop off).take size := by simp
  rw [e]
  exact (hc.drop off).take size
 | false =>
  simp only [Bool.false_eq_true, if_false] at h
  obtain ⟨v, v1, v2, v3⟩ := hc.get off r h
  have v1' : vs[off]? = some v := by simpa using v1
  exact ⟨v, by simp [part, r_agg w ha, v1'], v3⟩
end
end
section
section
variable {w : World} {S : Nat → Prop} {μ : Mu} {H : Heap} {P : Program} {ℓ : Nat}
theorem part_pure {k off size : Nat} {ag : Bool} {t : TypeId} {vs : Array Value} {cs : List PV} {r : GV} (hc : CRel w S μ k vs.toList (cs.map .pure)) (ha : tagg P t = some ag) (hs : tsize P t = some size)
  (hle : off + size ≤ cs.length) (h : (if ag then some (.pure (.agg ((cs.drop off).take size))) else (match cs[off]? with | some p => some (.pure p) | none => none)) = some r) :
  ∃ u, (part t vs off).run P w = .ok u w ∧ VRel w S μ k u r := by
 refine part_run hc ha hs (by simpa using hle) ?_
 cases ag with
 | true =>
  simp only [if_true, Option.some.injEq] at h ⊢
  rw [← h, ← List.map_drop, ← List.map_take, mkAgg_map]
 | false =>
  simp only [Bool.false_eq_true, if_false, List.getElem?_map] at h ⊢
  split at h
  ·rename_i p hp; rw [hp]; simpa using h
  ·cases h
theorem index_sound (K : Ctx) {k : Nat} {t : TypeId} {va vi : Value} {x i r : GV} (hx : VRel w S μ k va x) (hi : VRel w S μ k vi i) (h : gindex K x i t = some r) :
  ∃ u, (Instr.index t va vi).run K.P w = .ok u w ∧ VRel w S μ k u r := by
 unfold gindex at h
 split at h
 ·rename_i kd n
  obtain rfl := hi.int_inv
  split at h
  ·cases h
  ·rename_i hneg
   have h0 : 0 ≤ n := by omega
   split at h
   ·rename_i len e hta
    split at h
    ·rename_i ag size ha hs
     split at h
     ·cases h
     ·rename_i hlt
      have hlt' : n < (len : Int) := by omega
      split at h
      ·rename_i cs
       obtain ⟨vs, rfl, hc⟩ := hx.cells
       split at h
       ·rename_i hle
        obtain ⟨u, u1, u2⟩ := part_run (P := K.P) hc ha hs hle h
        exact ⟨u, by simp [Instr.index, asIntOf, r_underlying w (tarr_some hta), h0, hlt', r_size w hs, u1], u2⟩
       ·cases h
      ·rename_i cs
       obtain ⟨vs, rfl, hc⟩ := hx.agg_inv
       split at h
       ·rename_i hle
        obtain ⟨u, u1, u2⟩ := part_pure (P := K.P) hc ha hs hle h
        exact ⟨u, by simp [Instr.index, asIntOf, r_underlying w (tarr_some hta), h0, hlt', r_size w hs, u1], u2⟩
       ·cases h
      ·cases h
    ·cases h
   ·split at h
    ·rename_i l hu
     obtain ⟨s, rfl, hs⟩ := hx.str_inv
     split at h
     ·rename_i b hb
      simp only [Option.some.injEq] at h; subst h
      have hb' : s[n.toNat]? = some b := by
       subst hs
       have hin : n.toNat < s.size := by
        rcases Nat.lt_or_ge n.toNat s.data.toList.length with h | h
        ·simpa using h
        ·rw [List.getElem?_eq_none h] at hb; cases hb
       rw [getElem?_pos s n.toNat hin]
       have hin2 : n.toNat < s.data.toList.length := by simpa using hin
       rw [List.getElem?_eq_getElem hin2] at hb
       have hb2 := Option.some.inj hb
       rw [Array.getElem_toList] at hb2
       exact congrArg some hb2
      exact ⟨.int .u8 b.toNat, by simp [Instr.index, asIntOf, r_underlying w hu, h0, hb'], .pure _ _ (.int _ _)⟩
     ·cases h
    ·cases h
 ·cases h
theorem field_sound {k f off ft size : Nat} {ag : Bool} {t : TypeId} {v : Value} {x r : GV} (hx : VRel w S μ k v x) (hf : tfield P t f = some (off, ft)) (ha : tagg P ft = some ag) (hs : tsize P ft = some size)
  (h : (match x with
   | .agg cs => if off + size ≤ cs.length then (if ag then some (mkAgg ((cs.drop off).take size)) else cs[off]?) else none
   | .pure (.agg cs) => if off + size ≤ cs.length then (if ag then some (.pure (.agg ((cs.drop off).take size))) else (match cs[off]? with | some p => some (.pure p) | none => none)) else none
   | _ => none) = some r) :
  ∃ u, (Instr.field t v f).run P w = .ok u w ∧ VRel w S μ k u r := by
 obtain ⟨fs, y, hu, hy, rfl, rfl⟩ := tfield_some hf
 split at h
 ·rename_i cs hx
  obtain ⟨vs, rfl, hc⟩ := hx.cells
  split at h
  ·rename_i hle
   obtain ⟨u, u1, u2⟩ := part_run (P := P) hc ha hs hle h
   exact ⟨u, by simp [Instr.field, r_underlying w hu, hy, asAgg, u1], u2⟩
  ·cases h
 ·rename_i cs hx
  obtain ⟨vs, rfl, hc⟩ := hx.agg_inv
  split at h
  ·rename_i hle
   obtain ⟨u, u1, u2⟩ := part_pure (P := P) hc ha hs hle h
   exact ⟨u, by simp [Instr.field, r_underlying w hu, hy, asAgg, u1], u2⟩
  ·cases h
 ·cases h
end
end
end Go.Gh
