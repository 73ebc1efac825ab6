/- append, joined; make; own literals. -/
import Derived.Test.YtgmohiojddnfgaaGreatDoorGhost10
namespace Go.Gh
set_option linter.unusedSimpArgs false
set_option linter.unusedVariables false

section
variable {w : World} {S : Nat → Prop} {μ : Mu} {H : Heap} {P : Program} {ℓ : Nat}

theorem RowsAt.mono {w' : World} {S' : Nat → Prop} {cells : Array Value} {xs : List (List PV)} {size : Nat} (h : RowsAt w S cells xs size) (hS : ∀ b, S b → S' b) (hw : ∀ b, S b → w'.heap[b]? = w.heap[b]?) :
    RowsAt w' S' cells xs size := ⟨h.1, fun i j hi hj => ⟨(h.2 i j hi hj).1, (h.2 i j hi hj).2.mono hS hw⟩⟩

/-- Three parts of a new row. -/
theorem rows_three {old cells z : Array Value} {xs ys : List (List PV)} {size : Nat} (ho : RowsAt w S old xs size) (hc : RowsAt w S cells ys size) :
    ∀ i j, i < xs.length + ys.length → j < size → ((old ++ cells ++ z).getD (i * size + j) undef).oneCell' = true ∧ PRep w S ((old ++ cells ++ z).getD (i * size + j) undef) (((xs ++ ys).getD i []).getD j .dead) := by
  intro i j hi hj
  have h1 := ho.1
  have h2 := hc.1
  by_cases c1 : i < xs.length
  · have hlt := rows_lt (n := xs.length) c1 hj
    rw [getD_append_left _ _ _ _ (by simp; omega), getD_append_left _ _ _ _ (by omega)]
    have e3 : (xs ++ ys).getD i [] = xs.getD i [] := by simp [List.getD_eq_getElem?_getD, List.getElem?_append_left c1]
    rw [e3]; exact ho.2 i j c1 hj
  · have hix : i - xs.length < ys.length := by omega
    have hlt := rows_lt (n := ys.length) hix hj
    have hidx : i * size + j = xs.length * size + ((i - xs.length) * size + j) := by
      have : i = xs.length + (i - xs.length) := by omega
      rw [this, Nat.add_mul]
      simp; omega
    rw [getD_append_left _ _ _ _ (by simp; omega), getD_append_right _ _ _ _ (by omega)]
    have e3 : (xs ++ ys).getD i [] = ys.getD (i - xs.length) [] := by simp [List.getD_eq_getElem?_getD, List.getElem?_append_right (show xs.length ≤ i by omega)]
    have e4 : i * size + j - old.size = (i - xs.length) * size + j := by omega
    rw [e3, e4]; exact hc.2 _ j hix hj

theorem nmOk_ty {K : Ctx} {e : TypeId} {nm : Nm} (h : nmOk K e nm = true) : tyE nm e = e := by
  unfold nmOk at h
  split at h
  · have h' := of_decide_eq_true h
    unfold tyE; rw [h']
  · exact tyE_low (of_decide_eq_true h)

theorem pureRowsO_some : ∀ {l : List (List GV)} {ps : List (List PV)}, pureRowsO l = some ps → l = ps.map fun r => r.map .pure
  | [], ps, h => by simp [pureRowsO] at h; subst h; rfl
  | r :: rs, ps, h => by
    simp only [pureRowsO] at h
    split at h
    · rename_i p qs h1 h2
      simp only [Option.some.injEq] at h
      subst h
      rw [List.map_cons, ← allPure_some h1, ← pureRowsO_some h2]
    · cases h
theorem getD_mem {α : Type} {l : List (List α)} {i : Nat} (h : i < l.length) : l.getD i [] ∈ l := by
  rw [List.getD_eq_getElem?_getD, List.getElem?_eq_getElem h]
  exact List.getElem_mem h
theorem pureRows_getD {ps : List (List PV)} {i j : Nat} (hi : i < ps.length) (hj : j < (ps.getD i []).length) : ((ps.map fun r => r.map GV.pure).getD i []).getD j gdead = .pure ((ps.getD i []).getD j .dead) := by
  rw [List.getD_eq_getElem?_getD, List.getElem?_eq_getElem hi] at hj
  simp only [Option.getD_some] at hj
  simp [List.getD_eq_getElem?_getD, hi, hj]
theorem gappend_sound (K : Ctx) {k l key : Nat} {t : TypeId} {s x : GV} {vs vx : Value} {v : GV} {H' : Heap} {ats : Array TypeId} {ty : TypeId} (hH : HRel w S μ H) (hs : VRel w S μ k vs s) (hx : VRel w S μ k vx x)
    (hk : k = H.length - 1) (h0 : ats[0]? = some t) (h1 : spreads K.P ats[1]? = true) (h : gappend K H l key t s x = some (v, H')) :
    OpOk ℓ w S μ H ((do pure (Next.value (← Builtin.append_ ats ty #[vs, vx])) : Sem Next).run K.P w) v H' := by
  unfold gappend at h
  split at h
  · rename_i e hu0
    have hu := telem_some hu0
    split at h
    · rename_i size bytes xs H1 hsz hby hge
      split at h
      · rename_i hcond
        simp only [Bool.and_eq_true, decide_eq_true_eq, List.all_eq_true, beq_iff_eq] at hcond
        obtain ⟨⟨⟨⟨hzs, hrows⟩, hpos⟩, hb0⟩, hb1⟩ := hcond
        obtain ⟨S1, a1, a2, a3, a4, a5⟩ := gelems_sound ℓ (P := K.P) hH hx hge hpos hrows
        have hlen1 : H1.length = H.length := a3.1
        obtain ⟨cells, c1, c2⟩ := a5 w rfl
        split at h
        · -- the slice without room
          cases hs with | nils a =>
          split at h
          · rename_i hmax
            split at h
            · rename_i hemp
              simp only [Option.some.injEq, Prod.mk.injEq] at h
              obtain ⟨rfl, rfl⟩ := h
              obtain rfl : xs = [] := by simpa using hemp
              have hcz : cells = #[] := Array.eq_empty_of_size_eq_zero (by simpa using c2.1)
              subst hcz
              have hst : (match a with | some a => storeCells (a.add (0 * size)) (#[] : Array Value).toList | none => pure ()).run K.P w = .ok () w := by
                cases a <;> simp [storeCells]
              have := append_fits_run (ty := ty) h0 h1 hu hsz (a4 w) c1 (Nat.le_refl 0) hst (r := .ok () w)
              simp only [List.length_nil, Nat.add_zero] at this
              exact ⟨_, _, w, S1, μ, by simp [this], .inl rfl, .nils a, a1, a2, hlen1⟩
            · rename_i hemp
              have hx0 : 0 < xs.length := by cases xs; simp at hemp; simp
              split at h
              · rename_i nm H2 hnew
                simp only [Option.some.injEq, Prod.mk.injEq] at h
                obtain ⟨rfl, rfl⟩ := h
                obtain ⟨z, z1, z2⟩ := zsize_run hzs w.drew
                obtain ⟨cells2, d1, d2⟩ := a5 w.drew rfl
                have hold : (Builtin.firstCells size 0 (.slice a 0 0)).run K.P w.drew = .ok #[] w.drew := by cases a <;> simp [Builtin.firstCells, loadCells, loadCellsFrom]
                obtain ⟨newCap, n1, n2⟩ := append_grows_run (ty := ty) (cap := 0) (len := 0) h0 h1 hu hsz hby hb0 hb1 (by simpa using hmax) (a4 w) hold d1 z1 (by omega)
                obtain ⟨b1, b2⟩ := a1.drew (ℓ := ℓ)
                have hthree := rows_three (w := w) (S := S1) (old := #[]) (z := Builtin.zeroCells z.cells (newCap - (0 + xs.length))) (xs := []) ⟨by simp, by simp⟩ d2
                obtain ⟨μ', e1, e2, e3, e4⟩ := new_rowK K (ℓ := ℓ) (c := #[] ++ cells2 ++ Builtin.zeroCells z.cells (newCap - (0 + xs.length))) (e := e) (n := xs.length) (cap := newCap) b1 hnew hpos hrows rfl (by omega)
                  (by simp only [Array.size_append, zeroCells_size, z2, d2.1, Array.size_empty]
                      have : newCap = xs.length + (newCap - (0 + xs.length)) := by omega
                      rw [this, Nat.add_mul]; simp) (fun i j hi hj => by
                        have := hthree i j (by simpa using hi) hj
                        simp only [List.nil_append] at this
                        have h9 : ∀ {u p}, PRep w S1 u p → PRep w.drew S1 u p := fun h => PRep.mono (w := w) (w' := w.drew) (fun _ h => h) (fun _ _ => rfl) h
                        exact ⟨this.1, h9 this.2⟩)
                simp only [Nat.zero_add] at n2 e1 e2 e3
                exact ⟨_, _, _, S1, μ', by simp [n2], .inl rfl, e1, e2, (a2.trans b2).trans e3, by omega⟩
              · cases h
          · cases h
        · -- a literal
          rename_i lold
          cases hs with
          | lits b o cap es _ f hS he hes hf hone hr hcap =>
          split at h
          · rename_i ps hps
            split at h
            · rename_i hcond2
              obtain ⟨hp0, hx0', hpr, hmax⟩ := hcond2
              have hlp := pureRowsO_some hps
              subst hlp
              have hx0 : 0 < xs.length := by cases xs; simp at hx0'; simp
              have hpl : 0 < ps.length := by cases ps; simp at hp0; simp
              simp only [List.length_map] at hf hone hr hcap
              simp only [List.all_eq_true, beq_iff_eq] at hpr
              have hes2 : es = size := by
                obtain ⟨r0, hr0⟩ : ∃ r0, r0 ∈ ps := by cases ps with | nil => simp at hpl | cons r _ => exact ⟨r, List.mem_cons_self ..⟩
                have q1 := hes (r0.map .pure) (List.mem_map_of_mem hr0)
                have q2 := hpr r0 hr0
                simp at q1
                omega
              subst hes2
              split at h
              · rename_i nm H2 hnew
                simp only [Option.some.injEq, Prod.mk.injEq] at h
                obtain ⟨rfl, rfl⟩ := h
                obtain ⟨z, z1, z2⟩ := zsize_run hzs w.drew
                obtain ⟨cells2, d1, d2⟩ := a5 w.drew rfl
                obtain ⟨old, o1, o2, o3⟩ := load_rows (w := w) (w2 := w.drew) (P := K.P) (b := b) (o := o) (n := ps.length) rfl hpos f (fun i j hi hj => hf i j hi hj)
                have hor : RowsAt w S1 old ps es := ⟨o2, fun i j hi hj => by
                  rw [o3 i j hi hj]
                  have q := hr i j hi hj
                  have q3 : ((ps.map fun r => r.map GV.pure).getD i []).getD j gdead = .pure ((ps.getD i []).getD j .dead) := pureRows_getD hi (by have := hpr (ps.getD i []) (getD_mem hi); omega)
                  rw [q3] at q
                  exact ⟨hone i j hi hj, PRep.mono (w := w) (w' := w) a2.sub (fun _ _ => rfl) q.pv⟩⟩
                obtain ⟨newCap, n1, n2⟩ := append_grows_run (ty := ty) (base := some ⟨b, o, none⟩) (cap := cap) (len := ps.length) h0 h1 hu hsz hby hb0 hb1 hmax (a4 w) (by simpa [Builtin.firstCells] using o1) d1 z1 (by omega)
                obtain ⟨b1, b2⟩ := a1.drew (ℓ := ℓ)
                have hthree := rows_three (z := Builtin.zeroCells z.cells (newCap - (ps.length + xs.length))) hor d2
                obtain ⟨μ', e1, e2, e3, e4⟩ := new_rowK K (ℓ := ℓ) (c := old ++ cells2 ++ Builtin.zeroCells z.cells (newCap - (ps.length + xs.length))) (e := e) (n := ps.length + xs.length) (cap := newCap) b1 hnew hpos (fun r hr => by rcases List.mem_append.1 hr with hr | hr; exact hpr r hr; exact hrows r hr) (by simp) (by omega)
                  (by simp only [Array.size_append, zeroCells_size, z2, d2.1, o2]
                      have : newCap = ps.length + xs.length + (newCap - (ps.length + xs.length)) := by omega
                      rw [this, Nat.add_mul, Nat.add_mul]; simp) (fun i j hi hj => by
                        have := hthree i j (by simpa using hi) hj
                        exact ⟨this.1, PRep.mono (w := w) (w' := w.drew) (fun _ h => h) (fun _ _ => rfl) this.2⟩)
                exact ⟨_, _, _, S1, μ', by simp only [List.length_map, Sem.run_bind, n2, Result.andThen_ok]; rfl, .inl rfl, e1, e2, (a2.trans b2).trans e3, by omega⟩
              · cases h
            · cases h
          · cases h
        · -- a row of one's own
          rename_i nm es top lo len
          cases hs with
          | hdr _ _ _ _ _ cap b n ek q1 q2 q3 q4 q5 q6 =>
          split at h
          · rename_i es' elems vf ro hg
            split at h
            · rename_i hcond2
              obtain ⟨rfl, rfl, rfl, rfl, rfl, hvf, rfl, hmax, hty⟩ := hcond2
              obtain ⟨h00, k1, k2, k3, k4⟩ := a1.blk _ _ hg _ _ q2
              obtain ⟨g1, ⟨c0, e0, g2⟩, g3, g4⟩ := k4 _ b q2
              split at h
              · rename_i hemp
                simp only [Option.some.injEq, Prod.mk.injEq] at h
                obtain ⟨rfl, rfl⟩ := h
                obtain rfl : xs = [] := by simpa using hemp
                have hcz : cells = #[] := Array.eq_empty_of_size_eq_zero (by simpa using c2.1)
                subst hcz
                have := append_fits_run (ty := ty) (base := some ⟨b, 0 * es, none⟩) (cap := cap) h0 h1 hu hsz (a4 w) c1 (by simpa using q3) (by simp [storeCells]; rfl) (r := .ok () w)
                simp only [List.length_nil, Nat.add_zero] at this
                refine ⟨_, _, w, S1, μ, by simp only [Sem.run_bind, this, Result.andThen_ok]; rfl, .inl rfl, ?_, a1, a2, hlen1⟩
                have hv := VRel.hdr (w := w) (S := S1) (μ := μ) (ℓ := H1.length - 1) nm es elems.length 0 elems.length cap b n ek (by omega) q2 q3 q4 q5 q6
                exact hv
              · rename_i hemp
                have hx0 : 0 < xs.length := by cases xs; simp at hemp; simp
                simp only [Option.some.injEq, Prod.mk.injEq] at h
                obtain ⟨rfl, rfl⟩ := h
                by_cases hfit : elems.length + xs.length ≤ cap
                · obtain ⟨w', μ', r1, r2, r3, r4⟩ := append_room (ℓ := ℓ) (P := K.P) a1 hg hvf hrows hx0 q2 hfit q5 (by simpa using q6) c2
                  have := append_fits_run (ty := ty) (base := some ⟨b, 0 * es, none⟩) (len := elems.length) (cap := cap) h0 h1 hu hsz (a4 w) c1 hfit (w' := w')
                    (by simp only [Nat.zero_mul]; rw [add_none, Nat.zero_add]; exact r1) (r := .ok () w)
                  refine ⟨_, _, w', S1, μ', by simp only [Sem.run_bind, this, Result.andThen_ok]; rfl, .inl rfl, ?_, r3, a2.trans r4, by rw [Heap.length_set]; exact hlen1⟩
                  rw [Nat.zero_mul]
                  exact r2.up (by rw [Heap.length_set]; have := Heap.get_lt hg; omega)
                · obtain ⟨z, z1, z2⟩ := zsize_run hzs w.drew
                  obtain ⟨cells2, d1, d2⟩ := a5 w.drew rfl
                  obtain ⟨_, g5⟩ := g4 hvf
                  obtain ⟨old, o1, o2, o3⟩ := load_rows (w := w) (w2 := w.drew) (P := K.P) (b := b) (o := 0 * es) (n := elems.length) rfl hpos (fun i j => (w.cell? ⟨b, i * es + j, none⟩).getD undef) (fun i j hi hj => by
                    obtain ⟨u, u1, u2, u3⟩ := g5 i j hi hj
                    rw [Nat.zero_mul, Nat.zero_add, u1]; rfl)
                  have hor : RowsAt w S1 old elems es := ⟨o2, fun i j hi hj => by
                    obtain ⟨u, u1, u2, u3⟩ := g5 i j hi hj
                    rw [o3 i j hi hj, u1]; exact ⟨u2, u3⟩⟩
                  obtain ⟨newCap, n1, n2⟩ := append_grows_run (ty := ty) (base := some ⟨b, 0 * es, none⟩) (cap := cap) (len := elems.length) h0 h1 hu hsz hby hb0 hb1 hmax (a4 w) (by simpa [Builtin.firstCells] using o1) d1 z1 hfit
                  obtain ⟨b1, b2⟩ := a1.drew (ℓ := ℓ)
                  have hthree := rows_three (z := Builtin.zeroCells z.cells (newCap - (elems.length + xs.length))) hor d2
                  obtain ⟨μ', e1, e2, e3⟩ := append_new (ℓ := ℓ) (c := old ++ cells2 ++ Builtin.zeroCells z.cells (newCap - (elems.length + xs.length))) (e := e) (n := elems.length + xs.length) (cap := newCap) b1 (nmOk_ty hty) hg q2 hvf hrows rfl hx0 n1
                    (by simp only [Array.size_append, zeroCells_size, z2, d2.1, o2]
                        have : newCap = elems.length + xs.length + (newCap - (elems.length + xs.length)) := by omega
                        rw [this, Nat.add_mul, Nat.add_mul]; simp) (fun i j hi hj => by
                          have := hthree i j hi hj
                          exact ⟨this.1, PRep.mono (w := w) (w' := w.drew) (fun _ h => h) (fun _ _ => rfl) this.2⟩)
                  refine ⟨_, _, _, S1, μ', by simp only [Sem.run_bind, n2, Result.andThen_ok]; rfl, .inl rfl, ?_, e2, (a2.trans b2).trans e3, by rw [Heap.length_set]; exact hlen1⟩
                  exact e1.up (by rw [Heap.length_set]; have := Heap.get_lt hg; omega)
            · split at h
              · -- in place
                rename_i hcond2
                obtain ⟨rfl, rfl, rfl, hvf, rfl, hin⟩ := hcond2
                obtain ⟨h00, k1, k2, k3, k4⟩ := a1.blk _ _ hg _ _ q2
                split at h
                · rename_i hemp
                  simp only [Option.some.injEq, Prod.mk.injEq] at h
                  obtain ⟨rfl, rfl⟩ := h
                  obtain rfl : xs = [] := by simpa using hemp
                  have hcz : cells = #[] := Array.eq_empty_of_size_eq_zero (by simpa using c2.1)
                  subst hcz
                  have := append_fits_run (ty := ty) (base := some ⟨b, lo * es, none⟩) (len := len) (cap := cap) h0 h1 hu hsz (a4 w) c1 (by simp; omega) (by simp [storeCells]; rfl) (r := .ok () w)
                  simp only [List.length_nil, Nat.add_zero] at this
                  refine ⟨_, _, w, S1, μ, by simp only [Sem.run_bind, this, Result.andThen_ok]; rfl, .inl rfl, ?_, a1, a2, hlen1⟩
                  exact VRel.hdr (w := w) (S := S1) (μ := μ) (ℓ := H1.length - 1) nm es elems.length lo len cap b n ek (by omega) q2 q3 q4 q5 q6
                · rename_i hemp
                  simp only [Option.some.injEq, Prod.mk.injEq] at h
                  obtain ⟨rfl, rfl⟩ := h
                  have hsz2 : elems.length * es ≤ n := Nat.le_trans (Nat.mul_le_mul_right _ q3) q6
                  obtain ⟨w', r1, r3, r4⟩ := write_room (ℓ := ℓ) (P := K.P) (p := lo + len) a1 hg hvf hrows q2 hin q5 hsz2 c2
                  have hfit : len + xs.length ≤ cap := by omega
                  have := append_fits_run (ty := ty) (base := some ⟨b, lo * es, none⟩) (len := len) (cap := cap) h0 h1 hu hsz (a4 w) c1 hfit (w' := w')
                    (by simp only; rw [add_none, ← Nat.add_mul]; exact r1) (r := .ok () w)
                  refine ⟨_, _, w', S1, μ, by simp only [Sem.run_bind, this, Result.andThen_ok]; rfl, .inl rfl, ?_, r3, a2.trans r4, by rw [Heap.length_set]; exact hlen1⟩
                  exact VRel.hdr (w := w') (S := S1) (μ := μ) nm es elems.length lo (len + xs.length) cap b n ek (by rw [Heap.length_set]; omega) q2 q3 (by omega) (r4.shp _ _ q5) q6
              · cases h
          · cases h
        · cases h
      · cases h
    · cases h
  · cases h

/-- A literal of one's own. -/
theorem ownLit_sound {t e : TypeId} {len size d : Nat} {parts : Array (Nat × Operand)} {a : Act} {s : Slots} {z : GV} {zs cs : List GV} {ps : List PV} {nm : Nm} {H' : Heap} (hH : HRel w S μ H)
    (hs : ∀ t, VRel w S μ (H.length - 1) (a.tmps.getD t undef) (look s t)) (hu : telem P t = some e) (hsz : tsize P e = some size) (hz : tzero P e = some z) (hzc : cellsO z = some zs)
    (hzl : zs.length = size) (hpos : 0 < size) (hmax : len * size ≤ 16777216)
    (h : gfill (fun i => some (i * size, size)) (List.replicate len zs).flatten (parts.toList.map (evp s)) = some cs) (hp : allPure (cs.map canon1) = some ps)
    (hnew : gnew H d (.arr size (chunks size len ps) 0 false) = some (nm, H')) :
    OpOk ℓ w S μ H ((do pure (Next.value (← Instr.buildSlice t len (parts.map fun x => (x.1, a.eval x.2)))) : Sem Next).run P w) (.hdr nm size len 0 len) H' := by
  obtain ⟨c, h1, h2, h3⟩ := buildSlice_run hH hs hu hsz hz hzc hzl hpos hmax h
  have h1' := canon1_cells h1
  rw [allPure_some hp] at h1'
  obtain ⟨q1, q2⟩ := CRel.pures _ _ h1'
  have hpl : ps.length = len * size := by have := h1.length; simp at q1 this; omega
  have hck : c.size = len * size := by simp at q1; omega
  obtain ⟨μ', e1, e2, e3, e4⟩ := new_row (ℓ := ℓ) (c := c) (e := e) (n := len) (cap := len) hH hnew hpos (chunks_mem hpl) (chunks_length _ _ _) (Nat.le_refl _) (by omega) (fun i j hi hj => by
    have hlt := rows_lt hi hj
    rw [agetD, chunks_cell PV.dead i j hi hj]
    exact q2 _ (by omega))
  exact ⟨_, _, _, S, μ', by simp [h3], .inl rfl, e1, e2, e3, e4⟩

/-- A literal of one's own, with headers in it: they are not written any more. -/
theorem ownLits_sound {t e : TypeId} {len size d : Nat} {parts : Array (Nat × Operand)} {a : Act} {s : Slots} {z : GV} {zs cs : List GV} {nm : Nm} {H' : Heap} (hH : HRel w S μ H)
    (hs : ∀ t, VRel w S μ (H.length - 1) (a.tmps.getD t undef) (look s t)) (hu : telem P t = some e) (hsz : tsize P e = some size) (hz : tzero P e = some z) (hzc : cellsO z = some zs)
    (hzl : zs.length = size) (hpos : 0 < size) (hmax : len * size ≤ 16777216)
    (h : gfill (fun i => some (i * size, size)) (List.replicate len zs).flatten (parts.toList.map (evp s)) = some cs)
    (hnew : gnew (pureCells H cs).2 d (.arr size (chunks size len (pureCells H cs).1) 0 false) = some (nm, H')) :
    OpOk ℓ w S μ H ((do pure (Next.value (← Instr.buildSlice t len (parts.map fun x => (x.1, a.eval x.2)))) : Sem Next).run P w) (.hdr nm size len 0 len) H' := by
  obtain ⟨c, h1, h2, h3⟩ := buildSlice_run hH hs hu hsz hz hzc hzl hpos hmax h
  obtain ⟨S1, a1, a2, a3, a4⟩ := pureCells_rel ℓ hH h1
  generalize hps : (pureCells H cs).1 = ps at a3 hnew
  obtain ⟨q1, q2⟩ := CRel.pures _ _ a3
  have hcl := h1.length
  have hpl : ps.length = len * size := by simp at q1 hcl; omega
  have hck : c.size = len * size := by simp at q1; omega
  obtain ⟨μ', e1, e2, e3, e4⟩ := new_row (ℓ := ℓ) (c := c) (e := e) (n := len) (cap := len) a1 hnew hpos (chunks_mem hpl) (chunks_length _ _ _) (Nat.le_refl _) (by omega) (fun i j hi hj => by
    have hlt := rows_lt hi hj
    rw [agetD, chunks_cell PV.dead i j hi hj]
    exact q2 _ (by omega))
  exact ⟨_, _, _, S1, μ', by simp [h3], .inl rfl, e1, e2, a2.trans e3, e4.trans a4.1⟩

theorem wrap_small {n : Int} (h0 : 0 ≤ n) (h1 : n ≤ 1099511627776) : IntKind.i64.wrap n = n := by
  simp only [IntKind.wrap, IntKind.signed, IntKind.bits]
  simp
  omega

theorem makeSlice_sound {t e : TypeId} {size bytes d : Nat} {z : GV} {zs : List GV} {ps : List PV} {l c : Int} {kl kc : IntKind} {nm : Nm} {H' : Heap} (hH : HRel w S μ H)
    (hu : telem P t = some e) (hsz : tsize P e = some size) (hby : tbytes P e = some bytes) (hz : tzero P e = some z) (hzc : cellsO z = some zs) (hp : allPure (zs.map canon1) = some ps)
    (hpl : ps.length = size) (hpos : 0 < size) (hb0 : 0 < bytes) (hl0 : 0 ≤ l) (hlc : l ≤ c) (hcb : c * bytes ≤ 1099511627776)
    (hnew : gnew H d (.arr size (List.replicate l.toNat ps) 0 false) = some (nm, H')) :
    OpOk ℓ w S μ H ((do pure (Next.value (← Instr.makeSlice t (.int kl l) (.int kc c))) : Sem Next).run P w) (.hdr nm size l.toNat 0 l.toNat) H' := by
  obtain ⟨v, hv1, rfl⟩ := r_zero (P := P) w hz
  have hc := cellsO_rel (ofConst_rel (w := w) (S := S) (μ := μ) (ℓ := H.length - 1) v) hzc
  have hc' := canon1_cells hc
  rw [allPure_some hp] at hc'
  obtain ⟨q1, q2⟩ := CRel.pures _ _ hc'
  have hvl : v.cells.size = size := by simp at q1; omega
  obtain ⟨i, hi, rfl⟩ := r_bytes (P := P) w hby
  have hcmax : c ≤ 1099511627776 := by
    have : c * 1 ≤ c * (i.bytes : Int) := Int.mul_le_mul_of_nonneg_left (by omega) (by omega)
    omega
  have hw1 : IntKind.i64.wrap l = l := wrap_small hl0 (by omega)
  have hw2 : IntKind.i64.wrap c = c := wrap_small (by omega) hcmax
  have htl : ¬ ((281474976710656 : Int) < (i.bytes : Int) * c) := by rw [Int.mul_comm]; omega
  have hcells : ((Array.range (c.toNat * size)).map (v.cells[· % v.cells.size]!)).toList = (List.replicate c.toNat v.cells.toList).flatten := by rw [← hvl]; exact mod_range v.cells c.toNat
  have hrun : ∃ cs : Array Value, cs.toList = (List.replicate c.toNat v.cells.toList).flatten ∧
      (Instr.makeSlice t (.int kl l) (.int kc c)).run P w = .ok (.slice (some ⟨w.heap.size, 0, none⟩) l.toNat c.toNat) (w.alloc (.cells cs e)) := by
    by_cases h0 : c.toNat * size = 0
    · have hc0 : c.toNat = 0 := by rcases Nat.mul_eq_zero.1 h0 with h | h <;> omega
      have e0 : ∀ f : Nat → Value, Array.map f (Array.range 0) = #[] := fun f => Array.eq_empty_of_size_eq_zero (by simp)
      have hci : c = 0 := by omega
      have hli : l = 0 := by omega
      subst hci; subst hli
      refine ⟨#[], by simp, ?_⟩
      have hwz : IntKind.i64.wrap 0 = 0 := hw1
      simp [Instr.makeSlice, r_underlying w (telem_some hu), asInt, asIntOf, hi, hwz, r_size w hsz, newRow, e0]
    · refine ⟨_, hcells, ?_⟩
      have hlt : ¬ l < 0 := by omega
      have hlc' : ¬ l > c := by omega
      have hcn : ¬ c < 0 := by omega
      simp only [Nat.mul_eq_zero] at h0
      simp [Instr.makeSlice, r_underlying w (telem_some hu), asInt, asIntOf, hi, hw1, hw2, hlt, hlc', hcn, htl, r_size w hsz, hv1, newRow, h0]
      intro hh; exact absurd (Nat.mul_eq_zero.1 hh) h0
  obtain ⟨cs, cs1, cs2⟩ := hrun
  have hcsz : cs.size = c.toNat * size := by have := congrArg List.length cs1; simp [List.length_flatten, hvl] at this; exact this
  obtain ⟨μ', e1, e2, e3, e4⟩ := new_row (ℓ := ℓ) (c := cs) (e := e) (n := l.toNat) (cap := c.toNat) hH hnew hpos (fun r hr => by rw [(List.mem_replicate.1 hr).2]; exact hpl) (by simp) (by omega) (by omega) (fun i' j hi' hj => by
    have hget : cs.getD (i' * size + j) undef = v.cells.toList.getD j undef := by
      have hlt := rows_lt (n := c.toNat) (show i' < c.toNat by omega) hj
      have hin : i' * size + j < ((Array.range (c.toNat * size)).map (v.cells[· % v.cells.size]!)).toList.length := by simpa using hlt
      obtain ⟨d1, d2⟩ := div_row (i := i') hj
      rw [agetD, cs1, ← hcells, List.getD_eq_getElem?_getD, List.getElem?_eq_getElem hin]
      simp [hvl, d2, List.getD_eq_getElem?_getD]
      rw [Array.getElem?_eq_getElem (show j < v.cells.size by omega)]
      simp [getElem!_pos, show j < v.cells.size by omega]
    have hrow : (List.replicate l.toNat ps).getD i' [] = ps := by simp [List.getD_eq_getElem?_getD, List.getElem?_replicate, hi']
    rw [hget, hrow]
    exact q2 j (by omega))
  exact ⟨_, _, _, S, μ', by simp [cs2], .inl rfl, e1, e2, e3, e4⟩

/-- clear of a slice of one's own. -/
theorem gclear_sound (K : Ctx) {t ty : TypeId} {ats : Array TypeId} {k : Nat} {va : Value} {x : GV} {H' : Heap} {args : Array Value} (hH : HRel w S μ H) (hx : VRel w S μ k va x) (ht : ats[0]? = some t) (ha : args[0]? = some va)
    (h : gclear K t H x = some H') :
    ∃ w', (Builtin.clear_ ats ty args).run K.P w = .ok (.tuple #[]) w' ∧ HRel w' S μ H' ∧ Ev ℓ w S μ w' S μ ∧ H'.length = H.length := by
  unfold gclear at h
  split at h
  · rename_i e hu
    split at h
    · rename_i size z nm es top lo len hsz hz
      split at h
      · rename_i zs es' elems vf ro hzc hg
        split at h
        · rename_i ps hp
          split at h
          · rename_i hc
            obtain ⟨rfl, rfl, hpl, rfl, hvf, rfl, hin, hlen⟩ := hc
            simp only [Option.some.injEq] at h; subst h
            cases hx with
            | hdr _ _ _ _ _ cap b n ek q1 q2 q3 q4 q5 q6 =>
            obtain ⟨h0, k1, k2, k3, k4⟩ := hH.blk _ _ hg _ _ q2
            obtain ⟨v, hv1, rfl⟩ := r_zero (P := K.P) w hz
            have hcr := cellsO_rel (ofConst_rel (w := w) (S := S) (μ := μ) (ℓ := H.length - 1) v) hzc
            have hc' := canon1_cells hcr
            rw [allPure_some hp] at hc'
            obtain ⟨p1, p2⟩ := CRel.pures _ _ hc'
            have hvl : v.cells.size = es := by simp at p1; omega
            have hcells : (Builtin.zeroCells v.cells len).toList = (List.replicate len v.cells.toList).flatten := mod_range v.cells len
            have hR : RowsAt w S (Builtin.zeroCells v.cells len) (List.replicate len ps) es := by
              refine ⟨by rw [zeroCells_size, hvl]; simp, fun i j hi hj => ?_⟩
              have hi' : i < len := by simpa using hi
              have hlt := rows_lt (n := len) hi' hj
              obtain ⟨d1, d2⟩ := div_row (i := i) hj
              have hget : (Builtin.zeroCells v.cells len).getD (i * es + j) undef = v.cells.toList.getD j undef := by
                rw [agetD, List.getD_eq_getElem?_getD, List.getElem?_eq_getElem (by rw [Array.length_toList, zeroCells_size, hvl]; exact hlt)]
                simp [Builtin.zeroCells, hvl, d2, List.getD_eq_getElem?_getD]
                rw [getElem!_pos v.cells j (by omega), Array.getElem?_eq_getElem (by omega)]
                rfl
              have hrp : (List.replicate len ps).getD i [] = ps := by simp [List.getD_eq_getElem?_getD, hi']
              rw [hget, hrp]
              exact p2 j (by omega)
            have hsz2 : elems.length * es ≤ n := Nat.le_trans (Nat.mul_le_mul_right _ q3) q6
            obtain ⟨w', r1, r3, r4⟩ := write_room (ℓ := ℓ) (P := K.P) (p := lo) hH hg hvf (fun r hr => by rw [(List.mem_replicate.1 hr).2]; exact hpl) q2 (by simpa using hin) q5 hsz2 hR
            obtain ⟨m, rfl⟩ : ∃ m, len = m + 1 := ⟨len - 1, by omega⟩
            refine ⟨w', ?_, r3, r4, Heap.length_set _ _ _⟩
            simp [Builtin.clear_, ht, ha, r_underlying w (telem_some hu), hv1, r1]
          · cases h
        · cases h
      · cases h
    · cases h
  · cases h

end
end Go.Gh
