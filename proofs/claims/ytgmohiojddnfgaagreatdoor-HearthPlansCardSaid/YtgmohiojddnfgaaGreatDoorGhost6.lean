/- Loads and stores. -/
import Derived.Test.YtgmohiojddnfgaaGreatDoorGhost5
namespace Go.Gh
set_option linter.unusedSimpArgs false
set_option linter.unusedVariables false

section
variable {w w' : World} {S S' : Nat → Prop} {μ μ' : Mu} {H H' : Heap} {P : Program}

theorem cells_of_row {b : Nat} {c : Array Value} {e : TypeId} {fr : Nat × Nat} (h : w.heap[b]? = some (.cells c e fr)) (off n : Nat) :
    CellsAt w b off ((c.toList.drop off).take n) := by
  intro j v hv
  have : c.toList[off + j]? = some v := by
    rw [List.getElem?_take] at hv
    split at hv
    · rw [List.getElem?_drop] at hv; exact hv
    · cases hv
  simp only [World.cell?, h]
  simpa using this

theorem cellsAt_map {b o : Nat} {f : Nat → Value} {n : Nat} (h : ∀ j, j < n → w.cell? ⟨b, o + j, none⟩ = some (f j)) : CellsAt w b o ((List.range n).map f) := by
  intro j v hv
  rw [List.getElem?_map] at hv
  by_cases hj : j < n
  · rw [List.getElem?_range hj] at hv; simp at hv; subst hv; exact h j hj
  · rw [List.getElem?_eq_none (by simp; omega)] at hv; simp at hv

theorem crel_map {ℓ : Nat} {f : Nat → Value} {gs : List GV} (h : ∀ j, j < gs.length → (f j).oneCell' = true ∧ VRel w S μ ℓ (f j) (gs.getD j gdead)) :
    CRel w S μ ℓ ((List.range gs.length).map f) gs :=
  .of_get _ _ (by simp) fun j hj => by
    have e : ((List.range gs.length).map f).getD j undef = f j := by simp [List.getD_eq_getElem?_getD, hj]
    rw [e]; exact h j hj

theorem sure_ptr (a : Addr) : (Instr.sureAddr (.pointer (some a))).run P w = .ok a w := rfl

theorem CRel.up {ℓ ℓ' : Nat} {vs : List Value} {gs : List GV} (h : CRel w S μ ℓ vs gs) (hl : ℓ ≤ ℓ') : CRel w S μ ℓ' vs gs :=
  h.mono (fun _ h => h) (fun _ _ => rfl) (fun _ _ h => h) (fun _ _ _ _ h => h) hl

/-- Loading out of cells that lie there. -/
theorem load_cells {ℓ : Nat} {t : TypeId} {ag : Bool} {size b o : Nat} {vs : List Value} {gs : List GV} {r : GV} (ha : tagg P t = some ag) (hs : tsize P t = some size)
    (hc : CellsAt w b o vs) (hr : CRel w S μ ℓ vs gs)
    (h : (if ag then (if size ≤ gs.length then some (mkAgg (gs.take size)) else none) else gs[0]?) = some r) :
    ∃ u, (Instr.loadAt t (.pointer (some ⟨b, o, none⟩))).run P w = .ok u w ∧ VRel w S μ ℓ u r := by
  cases ag with
  | true =>
    simp only [if_true] at h
    split at h
    · rename_i hl
      simp only [Option.some.injEq] at h; subst h
      have hlen : (vs.take size).length = size := by rw [List.length_take, hr.length]; omega
      refine ⟨.agg (vs.take size).toArray, ?_, mkAgg_rel (hr.take size)⟩
      have := r_loadVar_agg (P := P) w (vs := vs.take size) ha (by rw [hlen]; exact hs) (b := b) (o := o) (fun j v hv => hc j v (by
        rw [List.getElem?_take] at hv; split at hv; exact hv; cases hv))
      simpa [Instr.loadAt, sure_ptr] using this
    · cases h
  | false =>
    simp only [Bool.false_eq_true, if_false] at h
    obtain ⟨v, h1, h2, h3⟩ := hr.get 0 r h
    refine ⟨v, ?_, h3⟩
    have := r_loadVar_one (P := P) w (t := t) (b := b) (o := o) (v := v) ha (by simpa using hc 0 v h1)
    simpa [Instr.loadAt, sure_ptr] using this

theorem gload_sound {ℓ : Nat} {t : TypeId} {a r : GV} {v : Value} (hH : HRel w S μ H) (hv : VRel w S μ ℓ v a) (h : gload P t H a = some r) :
    ∃ u, (Instr.loadAt t v).run P w = .ok u w ∧ VRel w S μ ℓ u r := by
  unfold gload at h
  split at h
  · rename_i ag size ha hs
    split at h
    · -- a box
      rename_i nm off
      cases hv with
      | bptr _ _ b h1 h2 =>
      split at h
      · rename_i cs hg
        obtain ⟨b', c, e, k1, k2, k3, k4⟩ := hH.blk _ _ hg _ _ h2
        rw [h2] at k1; cases k1
        have k5 := (k4.drop off).up h1
        refine load_cells ha hs (vs := (c.toList.drop off)) (gs := cs.drop off) (fun j v hv => ?_) k5 ?_
        · have := cells_of_row k3 off (c.toList.length)
          exact this j v (by rw [List.take_of_length_le (by simp)]; exact hv)
        · cases ag with
          | true =>
            simp only [if_true] at h ⊢
            split at h
            · rw [if_pos (by simp; omega)]; exact h
            · cases h
          | false => simpa [List.getElem?_drop] using h
      · cases h
    · -- a row
      rename_i nm es top i off
      cases hv with
      | eptr _ _ _ _ _ b h1 h2 =>
      split at h
      · rename_i es' elems vf ro hg
        split at h
        · rename_i hc
          obtain ⟨rfl, hvf, hi, htop⟩ := hc
          obtain ⟨h0, k1, k2, k3, k4⟩ := hH.blk _ _ hg _ _ h2
          obtain ⟨g1, g2, g3, g4⟩ := k4 top b h2
          obtain ⟨_, g5⟩ := g4 hvf
          split at h
          · rename_i row hrow
            have hmem : row ∈ elems := List.mem_of_getElem? hrow
            have hrl : row.length = es' := k1 _ hmem
            have hgd : elems.getD i [] = row := by simp [List.getD_eq_getElem?_getD, hrow]
            have hcell : ∀ j, j < es' - off → w.cell? ⟨b, i * es' + off + j, none⟩ = some ((fun j => (w.cell? ⟨b, i * es' + off + j, none⟩).getD undef) j) ∧
                ((w.cell? ⟨b, i * es' + off + j, none⟩).getD undef).oneCell' = true := fun j hj => by
              obtain ⟨u, u1, u2, u3⟩ := g5 i (off + j) hi (by omega)
              show w.cell? ⟨b, i * es' + off + j, none⟩ = some ((w.cell? ⟨b, i * es' + off + j, none⟩).getD undef) ∧ _
              rw [show i * es' + off + j = i * es' + (off + j) by omega, u1]; exact ⟨rfl, u2⟩
            have hrel : CRel w S μ ℓ ((List.range ((row.drop off).map GV.pure).length).map (fun j => (w.cell? ⟨b, i * es' + off + j, none⟩).getD undef)) ((row.drop off).map .pure) := by
              refine crel_map fun j hj => ?_
              have hj' : j < es' - off := by simp at hj; omega
              obtain ⟨u, u1, u2, u3⟩ := g5 i (off + j) hi (by omega)
              rw [show i * es' + off + j = i * es' + (off + j) by omega, u1]
              rw [hgd] at u3
              have e : ((row.drop off).map GV.pure).getD j gdead = .pure (row.getD (off + j) .dead) := by
                have hj2 : off + j < row.length := by omega
                simp [List.getD_eq_getElem?_getD, List.getElem?_drop, hj2]
              rw [e]
              exact ⟨u2, .pure _ _ u3⟩
            refine load_cells ha hs (vs := (List.range ((row.drop off).map GV.pure).length).map (fun j => (w.cell? ⟨b, i * es' + off + j, none⟩).getD undef)) (gs := (row.drop off).map .pure)
              (cellsAt_map fun j hj => ?_) hrel ?_
            · exact (hcell j (by simp at hj; omega)).1
            · cases ag with
              | true =>
                simp only [if_true] at h ⊢
                split at h
                · rw [if_pos (by simp; omega)]
                  simp only [Option.some.injEq] at h
                  rw [← h, ← List.map_take, mkAgg_map]
                · cases h
              | false =>
                simp only [Bool.false_eq_true, if_false] at h ⊢
                rw [List.getElem?_map, List.getElem?_drop, Nat.add_zero]
                split at h
                · rename_i p hp; rw [hp]; simpa using h
                · cases h
          · cases h
        · cases h
      · -- a table's row
        rename_i es' rows n hg
        split at h
        · rename_i hc
          obtain ⟨rfl, rfl, rfl, hi, htop⟩ := hc
          have m : MatRel w S μ nm es' rows n := hH.blk _ _ hg _ _ h2
          have hml := m.le
          obtain ⟨g1, g2, g3, g4, g5⟩ := m.top top b (by have := m.lim; omega) h2
          have hlt : i < rows.length := by omega
          rw [List.getElem?_eq_getElem hlt] at h
          simp only [Option.some.injEq] at h; subst h
          obtain ⟨bi, cp, u1, u2, u3⟩ := g5 i hi
          have e : rows.getD i [] = rows[i] := by simp [List.getD_eq_getElem?_getD, hlt]
          rw [e] at u1 u3
          refine ⟨_, ?_, .rhdr nm es' i _ cp bi h1 u2 u3⟩
          have := r_loadVar_one (P := P) w (t := t) (b := b) (o := i * 1 + 0) (v := .slice (some ⟨bi, 0, none⟩) (rows[i]).length cp) ha (by simpa using u1)
          simpa [Instr.loadAt, sure_ptr] using this
        · cases h
      · cases h
    · -- a place in a table's row
      rename_i nm es i j off
      cases hv with
      | rptr _ _ _ _ _ b h1 h2 =>
      split at h
      · rename_i es' rows n hg
        split at h
        · rename_i hc
          subst hc
          have m : MatRel w S μ nm es' rows n := hH.blk _ _ hg _ _ h2
          split at h
          · rename_i r hr
            have hlt : i < rows.length := m.bnd _ _ h2
            have er : rows.getD i [] = r := by simp [List.getD_eq_getElem?_getD, hr]
            obtain ⟨b', q1, ⟨q2, q3, q4⟩⟩ := m.row i hlt
            rw [h2] at q1; cases q1
            rw [er] at q4
            split at h
            · rename_i row hrow
              have hmem : row ∈ r := List.mem_of_getElem? hrow
              have hrl : row.length = es' := m.wid _ (List.mem_of_getElem? hr) _ hmem
              have hj : j < r.length := (List.getElem?_eq_some_iff.1 hrow).1
              have hgd : r.getD j [] = row := by simp [List.getD_eq_getElem?_getD, hrow]
              have hcell : ∀ q, q < es' - off → w.cell? ⟨b, j * es' + off + q, none⟩ = some ((fun q => (w.cell? ⟨b, j * es' + off + q, none⟩).getD undef) q) ∧
                  ((w.cell? ⟨b, j * es' + off + q, none⟩).getD undef).oneCell' = true := fun q hq => by
                obtain ⟨u, u1, u2, u3⟩ := q4 j (off + q) hj (by omega)
                show w.cell? ⟨b, j * es' + off + q, none⟩ = some ((w.cell? ⟨b, j * es' + off + q, none⟩).getD undef) ∧ _
                rw [show j * es' + off + q = j * es' + (off + q) by omega, u1]; exact ⟨rfl, u2⟩
              have hrel : CRel w S μ ℓ ((List.range ((row.drop off).map GV.pure).length).map (fun q => (w.cell? ⟨b, j * es' + off + q, none⟩).getD undef)) ((row.drop off).map .pure) := by
                refine crel_map fun q hq => ?_
                have hq' : q < es' - off := by simp at hq; omega
                obtain ⟨u, u1, u2, u3⟩ := q4 j (off + q) hj (by omega)
                rw [show j * es' + off + q = j * es' + (off + q) by omega, u1]
                rw [hgd] at u3
                have e : ((row.drop off).map GV.pure).getD q gdead = .pure (row.getD (off + q) .dead) := by
                  have hq2 : off + q < row.length := by omega
                  simp [List.getD_eq_getElem?_getD, List.getElem?_drop, hq2]
                rw [e]
                exact ⟨u2, .pure _ _ u3⟩
              refine load_cells ha hs (vs := (List.range ((row.drop off).map GV.pure).length).map (fun q => (w.cell? ⟨b, j * es' + off + q, none⟩).getD undef)) (gs := (row.drop off).map .pure)
                (cellsAt_map fun q hq => ?_) hrel ?_
              · exact (hcell q (by simp at hq; omega)).1
              · cases ag with
                | true =>
                  simp only [if_true] at h ⊢
                  split at h
                  · rw [if_pos (by simp; omega)]
                    simp only [Option.some.injEq] at h
                    rw [← h, ← List.map_take, mkAgg_map]
                  · cases h
                | false =>
                  simp only [Bool.false_eq_true, if_false] at h ⊢
                  rw [List.getElem?_map, List.getElem?_drop, Nat.add_zero]
                  split at h
                  · rename_i p hp; rw [hp]; simpa using h
                  · cases h
            · cases h
          · cases h
        · cases h
      · cases h
    · -- pure cells
      rename_i cs
      cases hv with
      | pptr b o _ f hS hf h1 hr =>
      refine load_cells ha hs (vs := (List.range (cs.map GV.pure).length).map f) (gs := cs.map .pure) (cellsAt_map fun j hj => hf j (by simpa using hj)) (crel_map fun j hj => ?_) ?_
      · have hj' : j < cs.length := by simpa using hj
        have e : (cs.map GV.pure).getD j gdead = .pure (cs.getD j .dead) := by simp [List.getD_eq_getElem?_getD, hj']
        rw [e]; exact ⟨h1 j hj', .pure _ _ (hr j hj')⟩
      · cases ag with
        | true =>
          simp only [if_true] at h ⊢
          split at h
          · rw [if_pos (by simpa using ‹_›)]
            simp only [Option.some.injEq] at h
            rw [← h, ← List.map_take, mkAgg_map]
          · cases h
        | false =>
          simp only [Bool.false_eq_true, if_false] at h ⊢
          rw [List.getElem?_map]
          split at h
          · rename_i p hp; rw [hp]; simpa using h
          · cases h
    · -- a literal's cells
      rename_i cs
      cases hv with
      | lptr b o _ f hS hf h1 hr =>
      exact load_cells ha hs (vs := (List.range cs.length).map f) (gs := cs) (cellsAt_map fun j hj => hf j hj) (crel_map fun j hj => ⟨h1 j hj, hr j hj⟩) h
    · cases h
  · cases h

theorem Mu.upd_eq {nm : Nm} {top b : Nat} (h : μ nm top = some b) : μ.upd nm top b = μ := by
  funext n t
  simp only [Mu.upd]
  split
  · rename_i e; rw [e.1, e.2, h]
  · rfl

theorem CRel.setRow {ℓ : Nat} {vs : List Value} {gs : List GV} (h : CRel w S μ ℓ vs gs) {b : Nat} (hb : ¬ S b) {c c' : Array Value} {e : TypeId} {fr : Nat × Nat}
    (hg : w.heap[b]? = some (.cells c e fr)) (hs : c'.size = c.size) : CRel (w.setRow b c') S μ ℓ vs gs :=
  h.mono (fun _ h => h) (fun k hk => setRow_other w b k c' fun e => hb (e ▸ hk)) (setRow_shp w b c c' e fr hg hs) (fun _ _ _ _ h => h) (Nat.le_refl _)

theorem PRep.setRow {v : Value} {p : PV} (h : PRep w S v p) {b : Nat} (hb : ¬ S b) (c' : Array Value) : PRep (w.setRow b c') S v p :=
  h.mono (fun _ h => h) (fun k hk => setRow_other w b k c' fun e => hb (e ▸ hk))

theorem splice_length {α : Type} (l xs : List α) (off : Nat) (h : off + xs.length ≤ l.length) : (splice l off xs).length = l.length := by
  simp [splice]; omega

theorem splice_get {α : Type} (l xs : List α) (off j : Nat) (h : off + xs.length ≤ l.length) :
    (splice l off xs)[j]? = if j < off then l[j]? else if j < off + xs.length then xs[j - off]? else l[j]? := by
  unfold splice
  have h1 : (l.take off).length = off := by simp; omega
  split
  · rename_i hj
    rw [List.append_assoc, List.getElem?_append_left (by omega), List.getElem?_take, if_pos hj]
  · split
    · rw [List.append_assoc, List.getElem?_append_right (by omega), h1, List.getElem?_append_left (by omega)]
    · rw [List.append_assoc, List.getElem?_append_right (by omega), h1, List.getElem?_append_right (by omega), List.getElem?_drop]
      congr 1; omega

theorem gstore_sound (ℓ : Nat) {k : Nat} {t : TypeId} {a x : GV} {va vx : Value} (hH : HRel w S μ H) (ha : VRel w S μ k va a) (hx : VRel w S μ k vx x) (h : gstore P t H a x = some H') :
    ∃ w' S' μ', (Instr.storeAt t va vx).run P w = .ok () w' ∧ HRel w' S' μ' H' ∧ Ev ℓ w S μ w' S' μ' ∧ H'.length = H.length := by
  unfold gstore at h
  split at h
  · rename_i size hs
    split at h
    · cases h
    · rename_i cells hcells
      split at h
      · cases h
      · rename_i hlen
        simp only [ne_eq, Decidable.not_not] at hlen
        have hc := cellsO_rel hx hcells
        have hvs : vx.cells.size = size := by have := hc.length; simp at this; omega
        split at h
        · -- a box
          rename_i nm off
          cases ha with
          | bptr _ _ b h1 h2 =>
          obtain ⟨S1, a1, a2, a3, a4⟩ := lowerCells_rel ℓ nm.1 hH hc
          generalize hlow : lowerCells H nm.1 cells = q at h a1 a3 a4
          obtain ⟨cs', H1⟩ := q
          simp only at h a1 a3 a4
          split at h
          · rename_i cs hg
            split at h
            · rename_i hle
              simp only [Option.some.injEq] at h; subst h
              obtain ⟨b', c, e, k1, k2, k3, k4⟩ := a1.blk _ _ hg _ _ h2
              rw [h2] at k1; cases k1
              have hcl : c.size = cs.length := by simpa using k4.length
              have hst := r_storeVar (P := P) w (t := t) (v := vx) (o := off) (by rw [hvs]; exact hs) k3 (by omega) a3.one
              have hsz : (splice c.toList off vx.cells.toList).toArray.size = c.size := by
                simp; rw [splice_length]; simp; simp; omega
              have := a1.row ℓ (x := .box (splice cs off cs')) (Heap.get_lt hg) h2 k2 k3 hsz 0 (by
                rw [Mu.upd_eq h2]
                refine ⟨b, (splice c.toList off vx.cells.toList).toArray, e, h2, k2, setRow_heap w b c _ _ _ k3, ?_⟩
                simp only []
                exact (k4.splice a3 off).setRow k2 k3 hsz) (fun b' hb' => by rw [h2] at hb'; cases hb'; rfl)
              rw [Mu.upd_eq h2] at this
              refine ⟨_, S1, μ, ?_, this.1, a2.trans this.2, by rw [Heap.length_set]; exact a4.1⟩
              simpa [Instr.storeAt, sure_ptr] using hst
            · cases h
          · cases h
        · -- a row
          rename_i nm es top i off
          cases ha with
          | eptr _ _ _ _ _ b h1 h2 =>
          obtain ⟨S1, a1, a2, a3, a4⟩ := pureCells_rel ℓ hH hc
          generalize hlow : pureCells H cells = q at h a1 a3 a4
          obtain ⟨ps, H1⟩ := q
          simp only at h a1 a3 a4
          split at h
          · rename_i es' elems vf ro hg
            split at h
            · rename_i hcond
              obtain ⟨rfl, rfl, rfl, hi⟩ := hcond
              split at h
              · rename_i row hrow
                split at h
                · rename_i hle
                  simp only [Option.some.injEq] at h; subst h
                  obtain ⟨h0, k1, k2, k3, k4⟩ := a1.blk _ _ hg _ _ h2
                  obtain ⟨g1, ⟨c, e, g2⟩, g3, g4⟩ := k4 _ b h2
                  have hnS := g3 rfl
                  obtain ⟨_, g5⟩ := g4 k2
                  have hrl : row.length = es' := k1 _ (List.mem_of_getElem? hrow)
                  have hpl : ps.length = size := by have := a3.length; simp at this; omega
                  have hcsize : (i + 1) * es' ≤ c.size := by
                    obtain ⟨u, u1, _⟩ := g5 i (es' - 1) hi (by omega)
                    simp only [World.cell?, g2] at u1
                    have := (Array.getElem?_eq_some_iff.1 u1).1
                    rw [Nat.add_mul]; omega
                  have hbnd : i * es' + off + vx.cells.toList.length ≤ c.toList.length := by
                    have : (i + 1) * es' = i * es' + es' := by rw [Nat.add_mul]; omega
                    simp; omega
                  have hst := r_storeVar (P := P) w (t := t) (v := vx) (o := i * es' + off) (by rw [hvs]; exact hs) g2 (by simpa using hbnd) a3.one
                  have hsz : (splice c.toList (i * es' + off) vx.cells.toList).toArray.size = c.size := by
                    simp only [List.size_toArray]; rw [splice_length _ _ _ hbnd]; simp
                  obtain ⟨p1, p2⟩ := CRel.pures _ _ a3
                  have := a1.row ℓ (x := .arr es' (elems.set i (splice row off ps)) elems.length false) (Heap.get_lt hg) h2 hnS g2 hsz elems.length (by
                    rw [Mu.upd_eq h2]
                    refine ⟨h0, fun r hr => ?_, by simp, ⟨b, by simpa using h2⟩, fun t' b' hb' => ?_⟩
                    · rcases List.mem_or_eq_of_mem_set hr with hr | rfl
                      · exact k1 r hr
                      · rw [splice_length _ _ _ (by omega)]; exact hrl
                    · obtain ⟨q1, ⟨c2, e2, q2⟩, q3, q4⟩ := k4 t' b' hb'
                      refine ⟨by simpa using q1, ?_, fun _ => q3 rfl, fun hv => ⟨fun hro => (by cases hro), fun i' j hi' hj => ?_⟩⟩
                      · by_cases e' : b' = b
                        · subst e'; exact ⟨_, e, setRow_heap w b' c _ _ _ g2⟩
                        · exact ⟨c2, e2, by rw [setRow_other w b b' _ e']; exact q2⟩
                      · obtain rfl : t' = elems.length := by omega
                        rw [h2] at hb'; cases hb'
                        have hcell : (w.setRow b (splice c.toList (i * es' + off) vx.cells.toList).toArray).cell? ⟨b, i' * es' + j, none⟩ =
                            (splice c.toList (i * es' + off) vx.cells.toList)[i' * es' + j]? := by
                          rw [cell_setRow_same w b _ c _ _ (0, 0) g2]; simp
                        rw [hcell, splice_get _ _ _ _ hbnd]
                        obtain ⟨u, u1, u2, u3⟩ := g5 i' j hi' hj
                        have u1' : c.toList[i' * es' + j]? = some u := by simpa [World.cell?, g2] using u1
                        by_cases ei : i' = i
                        · subst ei
                          have egd : (elems.set i' (splice row off ps)).getD i' [] = splice row off ps := by
                            simp [List.getD_eq_getElem?_getD, List.getElem?_set, hi']
                          rw [egd, List.getD_eq_getElem?_getD, splice_get _ _ _ _ (by omega)]
                          have egd2 : elems.getD i' [] = row := by simp [List.getD_eq_getElem?_getD, hrow]
                          rw [egd2, List.getD_eq_getElem?_getD] at u3
                          by_cases c1 : j < off
                          · rw [if_pos (by omega), if_pos c1]
                            exact ⟨u, u1', u2, u3.setRow hnS _⟩
                          · by_cases c2 : j < off + ps.length
                            · have hlen3 : vx.cells.toList.length = ps.length := p1
                              rw [if_neg (by omega), if_pos (by omega), if_neg c1, if_pos c2]
                              obtain ⟨z1, z2⟩ := p2 (j - off) (by omega)
                              have e5 : i' * es' + j - (i' * es' + off) = j - off := by omega
                              rw [e5]
                              have hlt : j - off < vx.cells.toList.length := by omega
                              rw [List.getD_eq_getElem?_getD, List.getElem?_eq_getElem hlt] at z1 z2
                              refine ⟨_, List.getElem?_eq_getElem hlt, z1, ?_⟩
                              simp only [Option.getD_some] at z2
                              rw [← List.getD_eq_getElem?_getD]
                              exact z2.setRow hnS _
                            · have hlen3 : vx.cells.toList.length = ps.length := p1
                              rw [if_neg (by omega), if_neg (by omega), if_neg c1, if_neg c2]
                              exact ⟨u, u1', u2, u3.setRow hnS _⟩
                        · have egd : (elems.set i (splice row off ps)).getD i' [] = elems.getD i' [] := by
                            simp [List.getD_eq_getElem?_getD, List.getElem?_set, Ne.symm ei]
                          rw [egd]
                          have hout : ¬ (i * es' + off ≤ i' * es' + j ∧ i' * es' + j < i * es' + off + vx.cells.toList.length) := by
                            have hlen3 : vx.cells.toList.length = ps.length := p1
                            rintro ⟨o1, o2⟩
                            rcases Nat.lt_or_gt_of_ne ei with hlt | hgt
                            · have : (i' + 1) * es' ≤ i * es' := Nat.mul_le_mul_right _ hlt
                              rw [Nat.add_mul] at this; omega
                            · have : (i + 1) * es' ≤ i' * es' := Nat.mul_le_mul_right _ hgt
                              rw [Nat.add_mul] at this; omega
                          by_cases c1 : i' * es' + j < i * es' + off
                          · rw [if_pos c1]; exact ⟨u, u1', u2, u3.setRow hnS _⟩
                          · rw [if_neg c1, if_neg (by omega)]; exact ⟨u, u1', u2, u3.setRow hnS _⟩) (fun b' hb' => by rw [h2] at hb'; cases hb'; rfl)
                  rw [Mu.upd_eq h2] at this
                  refine ⟨_, S1, μ, ?_, this.1, a2.trans this.2, by rw [Heap.length_set]; exact a4.1⟩
                  simpa [Instr.storeAt, sure_ptr] using hst
                · cases h
              · cases h
            · cases h
          · cases h
        · -- a place in a table's row
          rename_i nm es i j off
          cases ha with
          | rptr _ _ _ _ _ b h1 h2 =>
          obtain ⟨S1, a1, a2, a3, a4⟩ := pureCells_rel ℓ hH hc
          generalize hlow : pureCells H cells = q at h a1 a3 a4
          obtain ⟨ps, H1⟩ := q
          simp only at h a1 a3 a4
          split at h
          · rename_i es' rows n hg
            split at h
            · rename_i hcond
              subst hcond
              split at h
              · rename_i r hr
                split at h
                · rename_i row hrow
                  split at h
                  · rename_i hle
                    simp only [Option.some.injEq] at h; subst h
                    have m : MatRel w S1 μ nm es' rows n := a1.blk _ _ hg _ _ h2
                    have hlt : i < rows.length := m.bnd _ _ h2
                    have er : rows.getD i [] = r := by simp [List.getD_eq_getElem?_getD, hr]
                    obtain ⟨b', q1, ⟨⟨c, e, q2⟩, q3, q4⟩⟩ := m.row i hlt
                    rw [h2] at q1; cases q1
                    rw [er] at q4
                    have h0 := m.pos
                    have hrl : row.length = es' := m.wid _ (List.mem_of_getElem? hr) _ (List.mem_of_getElem? hrow)
                    have hj : j < r.length := (List.getElem?_eq_some_iff.1 hrow).1
                    have hgd : r.getD j [] = row := by simp [List.getD_eq_getElem?_getD, hrow]
                    have hpl : ps.length = size := by have := a3.length; simp at this; omega
                    have hcsize : (j + 1) * es' ≤ c.size := by
                      obtain ⟨u, u1, _⟩ := q4 j (es' - 1) hj (by omega)
                      simp only [World.cell?, q2] at u1
                      have := (Array.getElem?_eq_some_iff.1 u1).1
                      rw [Nat.add_mul]; omega
                    have hbnd : j * es' + off + vx.cells.toList.length ≤ c.toList.length := by
                      have : (j + 1) * es' = j * es' + es' := by rw [Nat.add_mul]; omega
                      simp; omega
                    have hst := r_storeVar (P := P) w (t := t) (v := vx) (o := j * es' + off) (by rw [hvs]; exact hs) q2 (by simpa using hbnd) a3.one
                    have hsz : (splice c.toList (j * es' + off) vx.cells.toList).toArray.size = c.size := by
                      simp only [List.size_toArray]; rw [splice_length _ _ _ hbnd]; simp
                    obtain ⟨p1, p2⟩ := CRel.pures _ _ a3
                    have hlen3 : vx.cells.toList.length = ps.length := p1
                    have hro : ∀ k, (rows.set i (r.set j (splice row off ps))).getD k [] = if k = i then r.set j (splice row off ps) else rows.getD k [] := fun k => by
                      by_cases e : k = i
                      · subst e; simp [List.getD_eq_getElem?_getD, List.getElem?_set, hlt]
                      · simp [List.getD_eq_getElem?_getD, List.getElem?_set, Ne.symm e, e]
                    have hle2 : ∀ k, ((rows.set i (r.set j (splice row off ps))).getD k []).length = (rows.getD k []).length := fun k => by
                      rw [hro]
                      split
                      · rename_i e; subst e; rw [er]; simp
                      · rfl
                    have oth : ∀ b', b' ≠ b → (w.setRow b (splice c.toList (j * es' + off) vx.cells.toList).toArray).heap[b']? = w.heap[b']? := fun b' hb' => setRow_other w b b' _ hb'
                    have := a1.row ℓ (x := .mat es' (rows.set i (r.set j (splice row off ps))) n) (Heap.get_lt hg) h2 q3 q2 hsz (rix i) (by
                      rw [Mu.upd_eq h2]
                      refine ⟨m.pos, by simpa using m.le, m.lim, fun x hx y hy => ?_, fun k hk => ?_, m.inj, fun k b' hb' => by simpa using m.bnd k b' hb', fun t' b' ht' hb' => ?_⟩
                      · rcases List.mem_or_eq_of_mem_set hx with hx | rfl
                        · exact m.wid x hx y hy
                        · rcases List.mem_or_eq_of_mem_set hy with hy | rfl
                          · exact m.wid r (List.mem_of_getElem? hr) y hy
                          · rw [splice_length _ _ _ (by omega)]; exact hrl
                      · have hk' : k < rows.length := by simpa using hk
                        obtain ⟨bk, z1, z2⟩ := m.row k hk'
                        refine ⟨bk, z1, ?_⟩
                        by_cases ek : k = i
                        · subst ek
                          rw [h2] at z1; cases z1
                          refine ⟨⟨_, e, setRow_heap w b c _ _ _ q2⟩, q3, fun i' j' hi' hj' => ?_⟩
                          rw [hro, if_pos rfl] at hi' ⊢
                          have hi2 : i' < r.length := by simpa using hi'
                          have hcell : (w.setRow b (splice c.toList (j * es' + off) vx.cells.toList).toArray).cell? ⟨b, i' * es' + j', none⟩ =
                              (splice c.toList (j * es' + off) vx.cells.toList)[i' * es' + j']? := by
                            rw [cell_setRow_same w b _ c _ _ (0, 0) q2]; simp
                          rw [hcell, splice_get _ _ _ _ hbnd]
                          obtain ⟨u, u1, u2, u3⟩ := q4 i' j' hi2 hj'
                          have u1' : c.toList[i' * es' + j']? = some u := by simpa [World.cell?, q2] using u1
                          by_cases ei : i' = j
                          · subst ei
                            have egd : (r.set i' (splice row off ps)).getD i' [] = splice row off ps := by
                              simp [List.getD_eq_getElem?_getD, List.getElem?_set, hi2]
                            rw [egd, List.getD_eq_getElem?_getD, splice_get _ _ _ _ (by omega)]
                            rw [hgd, List.getD_eq_getElem?_getD] at u3
                            by_cases c1 : j' < off
                            · rw [if_pos (by omega), if_pos c1]
                              exact ⟨u, u1', u2, u3.setRow q3 _⟩
                            · by_cases c2 : j' < off + ps.length
                              · rw [if_neg (by omega), if_pos (by omega), if_neg c1, if_pos c2]
                                obtain ⟨y1, y2⟩ := p2 (j' - off) (by omega)
                                have e5 : i' * es' + j' - (i' * es' + off) = j' - off := by omega
                                rw [e5]
                                have hlt2 : j' - off < vx.cells.toList.length := by omega
                                rw [List.getD_eq_getElem?_getD, List.getElem?_eq_getElem hlt2] at y1 y2
                                refine ⟨_, List.getElem?_eq_getElem hlt2, y1, ?_⟩
                                simp only [Option.getD_some] at y2
                                rw [← List.getD_eq_getElem?_getD]
                                exact y2.setRow q3 _
                              · rw [if_neg (by omega), if_neg (by omega), if_neg c1, if_neg c2]
                                exact ⟨u, u1', u2, u3.setRow q3 _⟩
                          · have egd : (r.set j (splice row off ps)).getD i' [] = r.getD i' [] := by
                              simp [List.getD_eq_getElem?_getD, List.getElem?_set, Ne.symm ei]
                            rw [egd]
                            have hout : ¬ (j * es' + off ≤ i' * es' + j' ∧ i' * es' + j' < j * es' + off + vx.cells.toList.length) := by
                              rintro ⟨o1, o2⟩
                              rcases Nat.lt_or_gt_of_ne ei with hl | hg
                              · have : (i' + 1) * es' ≤ j * es' := Nat.mul_le_mul_right _ hl
                                rw [Nat.add_mul] at this; omega
                              · have : (j + 1) * es' ≤ i' * es' := Nat.mul_le_mul_right _ hg
                                rw [Nat.add_mul] at this; omega
                            by_cases c1 : i' * es' + j' < j * es' + off
                            · rw [if_pos c1]; exact ⟨u, u1', u2, u3.setRow q3 _⟩
                            · rw [if_neg c1, if_neg (by omega)]; exact ⟨u, u1', u2, u3.setRow q3 _⟩
                        · have hne : bk ≠ b := fun e => ek (m.inj _ _ _ (e ▸ z1) h2)
                          rw [hro, if_neg ek]
                          exact z2.mono (fun _ h => h) (fun k hk => oth k fun e => q3 (e ▸ hk)) (oth _ hne) (fun h => h)
                      · obtain ⟨g1, ⟨c2, e2, g2⟩, g3, g4, g5⟩ := m.top t' b' ht' hb'
                        have hne : b' ≠ b := fun e => g4 i (e ▸ h2)
                        refine ⟨g1, ⟨c2, e2, by rw [oth _ hne]; exact g2⟩, g3, g4, fun k hk => ?_⟩
                        obtain ⟨bi, cp, k1, k2, k3⟩ := g5 k hk
                        rw [hle2 k]
                        exact ⟨bi, cp, by rw [cell_of_heap (oth _ hne)]; exact k1, k2, k3⟩) (fun b' hb' => by rw [h2] at hb'; cases hb'; rfl)
                    rw [Mu.upd_eq h2] at this
                    refine ⟨_, S1, μ, ?_, this.1, a2.trans this.2, by rw [Heap.length_set]; exact a4.1⟩
                    simpa [Instr.storeAt, sure_ptr] using hst
                  · cases h
                · cases h
              · cases h
            · cases h
          · cases h
        · cases h
  · cases h

end
end Go.Gh
