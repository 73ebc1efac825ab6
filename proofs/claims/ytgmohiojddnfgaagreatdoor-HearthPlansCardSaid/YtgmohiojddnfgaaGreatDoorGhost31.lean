/- Tables: slices of rows of one's own. -/
import Derived.Test.YtgmohiojddnfgaaGreatDoorGhost16
namespace Go.Gh
set_option linter.unusedSimpArgs false
set_option linter.unusedVariables false

section
variable {w w' : World} {S : Nat → Prop} {μ : Mu} {H : Heap} {P : Program} {ℓ : Nat}

theorem rix_inj {i j : Nat} (h : rix i = rix j) : i = j := by unfold rix at h; omega
theorem rix_ge (i : Nat) : rix 0 ≤ rix i := by unfold rix; omega

theorem MatRel.void {nm : Nm} {es : Nat} (hpos : 0 < es) (hno : ∀ t b, μ nm t ≠ some b) : MatRel w S μ nm es [] 0 where
  pos := hpos
  le := Nat.zero_le _
  lim := by unfold rix; omega
  wid := by simp
  row := fun i hi => by simp at hi
  inj := fun i j b h => absurd h (hno _ _)
  bnd := fun i b h => absurd h (hno _ _)
  top := fun t b _ h => absurd h (hno _ _)

/-- One row more. -/
theorem MatRel.push {nm : Nm} {es n b : Nat} {rows : List (List (List PV))} {r : List (List PV)} (m : MatRel w S μ nm es rows n) (hno : ∀ t, μ nm t ≠ some b) (hr : RowRel w S b es r) (hw : ∀ x ∈ r, x.length = es) :
    MatRel w S (μ.upd nm (rix rows.length) b) nm es (rows ++ [r]) n where
  pos := m.pos
  le := by have := m.le; simp; omega
  lim := m.lim
  wid := fun x hx => by
    rcases List.mem_append.1 hx with hx | hx
    · exact m.wid x hx
    · simp at hx; subst hx; exact hw
  row := fun i hi => by
    by_cases e : i = rows.length
    · subst e
      exact ⟨b, Mu.upd_self _ _ _ _, by simpa [List.getD_eq_getElem?_getD] using hr⟩
    · have hi' : i < rows.length := by simp at hi; omega
      obtain ⟨b', h1, h2⟩ := m.row i hi'
      refine ⟨b', by rw [Mu.upd_top _ _ _ (fun e2 => e (rix_inj e2))]; exact h1, ?_⟩
      have e3 : (rows ++ [r]).getD i [] = rows.getD i [] := by simp [List.getD_eq_getElem?_getD, List.getElem?_append_left hi']
      rw [e3]; exact h2
  inj := fun i j b' h1 h2 => by
    by_cases e : i = rows.length
    · by_cases e' : j = rows.length
      · rw [e, e']
      · subst e
        rw [Mu.upd_self] at h1; cases h1
        rw [Mu.upd_top _ _ _ (fun e2 => e' (rix_inj e2))] at h2
        exact absurd h2 (hno _)
    · rw [Mu.upd_top _ _ _ (fun e2 => e (rix_inj e2))] at h1
      by_cases e' : j = rows.length
      · subst e'
        rw [Mu.upd_self] at h2; cases h2
        exact absurd h1 (hno _)
      · rw [Mu.upd_top _ _ _ (fun e2 => e' (rix_inj e2))] at h2
        exact m.inj i j b' h1 h2
  bnd := fun i b' h1 => by
    by_cases e : i = rows.length
    · subst e; simp
    · rw [Mu.upd_top _ _ _ (fun e2 => e (rix_inj e2))] at h1
      have := m.bnd i b' h1; simp; omega
  top := fun t b' ht h1 => by
    have hne : t ≠ rix rows.length := by have := rix_ge rows.length; omega
    rw [Mu.upd_top _ _ _ hne] at h1
    obtain ⟨g1, g2, g3, g4, g5⟩ := m.top t b' ht h1
    have hml := m.le
    refine ⟨g1, g2, g3, fun i => ?_, fun i hi => ?_⟩
    · by_cases e : i = rows.length
      · subst e
        rw [Mu.upd_self]; intro e2; cases e2; exact hno t h1
      · rw [Mu.upd_top _ _ _ (fun e2 => e (rix_inj e2))]; exact g4 i
    · obtain ⟨bi, cap, k1, k2, k3⟩ := g5 i hi
      have hi' : i < rows.length := by omega
      have e3 : (rows ++ [r]).getD i [] = rows.getD i [] := by simp [List.getD_eq_getElem?_getD, List.getElem?_append_left hi']
      refine ⟨bi, cap, by rw [e3]; exact k1, by rw [Mu.upd_top _ _ _ (fun e2 => by have := rix_inj e2; omega)]; exact k2, by rw [e3]; exact k3⟩

/-- One row more is told. -/
theorem MatRel.tell {nm : Nm} {es n b : Nat} {rows : List (List (List PV))} (m : MatRel w S μ nm es rows n) (hn : n < rows.length) (hlim : n + 1 < rix 0) (hcells : ∃ c e, w.heap[b]? = some (.cells c e (0, 0))) (hS : ¬ S b) (hno : ∀ i, μ nm (rix i) ≠ some b)
    (hb : ∀ i, i < n + 1 → ∃ bi cap, w.cell? ⟨b, i, none⟩ = some (.slice (some ⟨bi, 0, none⟩) (rows.getD i []).length cap) ∧ μ nm (rix i) = some bi ∧ (rows.getD i []).length ≤ cap) :
    MatRel w S (μ.upd nm (n + 1) b) nm es rows (n + 1) := by
  have hrx : ∀ i, μ.upd nm (n + 1) b nm (rix i) = μ nm (rix i) := fun i => Mu.upd_top _ _ _ (by have := rix_ge i; omega)
  exact {
    pos := m.pos
    le := hn
    lim := hlim
    wid := m.wid
    row := fun i hi => by rw [hrx]; exact m.row i hi
    inj := fun i j b' h1 h2 => by rw [hrx] at h1 h2; exact m.inj i j b' h1 h2
    bnd := fun i b' h1 => by rw [hrx] at h1; exact m.bnd i b' h1
    top := fun t b' ht h1 => by
      by_cases e : t = n + 1
      · subst e
        rw [Mu.upd_self] at h1; cases h1
        exact ⟨Nat.le_refl _, hcells, hS, fun i => by rw [hrx]; exact hno i, fun i hi => by
          obtain ⟨bi, cap, k1, k2, k3⟩ := hb i hi
          exact ⟨bi, cap, k1, by rw [hrx]; exact k2, k3⟩⟩
      · rw [Mu.upd_top _ _ _ e] at h1
        obtain ⟨g1, g2, g3, g4, g5⟩ := m.top t b' ht h1
        exact ⟨by omega, g2, g3, fun i => by rw [hrx]; exact g4 i, fun i hi => by
          obtain ⟨bi, cap, k1, k2, k3⟩ := g5 i hi
          exact ⟨bi, cap, k1, by rw [hrx]; exact k2, k3⟩⟩ }

theorem MatRel.alloc {nm : Nm} {es n : Nat} {rows : List (List (List PV))} (hH : HRel w S μ H) (m : MatRel w S μ nm es rows n) (o : Obj) : MatRel (w.alloc o) S μ nm es rows n :=
  m.mono (fun _ h => h) (fun b hb => alloc_heap w o b (hH.slt b hb)) (fun _ => rfl) (fun t b h => alloc_heap w o b (hH.lt _ _ _ h)) (fun _ _ _ h => h)

/-- A new block of a table. -/
theorem mat_new {nm : Nm} {o : Obj} {top : Nat} {x : Blk} (hH : HRel w S μ H) (hl : nm.1 < H.length) (hno : ∀ b, μ nm top ≠ some b) (hx : BlkRel (w.alloc o) S (μ.upd nm top w.heap.size) nm x) :
    HRel (w.alloc o) S (μ.upd nm top w.heap.size) (H.set nm x) ∧ Ev ℓ w S μ (w.alloc o) S (μ.upd nm top w.heap.size) := by
  refine hH.turn ℓ hl rfl rfl rfl (by rw [alloc_size]; omega) (fun _ h => h) (fun b h => .inl h) (fun b h => by have := hH.slt b h; rw [alloc_size]; omega)
    (fun k hk _ => alloc_heap w o k hk) (alloc_shp w o) (alloc_lp w o) (fun n t h => Mu.upd_other μ _ _ _ h) (fun t b h => ?_) (fun t b h => ?_) (fun t b h => ?_) hx
  · by_cases e : t = top
    · subst e; exact absurd h (hno b)
    · rw [Mu.upd_top μ nm _ e]; exact h
  · by_cases e : t = top
    · subst e; rw [Mu.upd_self] at h; cases h; exact .inr (Nat.le_refl _)
    · rw [Mu.upd_top μ nm _ e] at h; exact .inl ⟨t, h⟩
  · by_cases e : t = top
    · subst e; rw [Mu.upd_self] at h; cases h; rw [alloc_size]; omega
    · rw [Mu.upd_top μ nm _ e] at h; have := hH.lt _ _ _ h; rw [alloc_size]; omega

theorem leads_get {nm : Nm} : ∀ {cs : List GV}, leads nm cs = true → ∃ j es top lo len, j < cs.length ∧ cs.getD j gdead = .hdr nm es top lo len
  | [], h => by simp [leads] at h
  | g :: r, h => by
    have tail : leads nm r = true → ∃ j es top lo len, j < (g :: r).length ∧ (g :: r).getD j gdead = .hdr nm es top lo len := fun h => by
      obtain ⟨j, es, top, lo, len, h1, h2⟩ := leads_get h
      exact ⟨j + 1, es, top, lo, len, by simpa using h1, by simpa using h2⟩
    cases g with
    | hdr m es top lo len =>
      simp only [leads, Bool.or_eq_true, decide_eq_true_eq] at h
      rcases h with h | h
      · subst h; exact ⟨0, es, top, lo, len, by simp, by simp⟩
      · exact tail h
    | _ => exact tail h

theorem addRow_some {bn : Nm} {key es i k off : Nat} {r : List (List PV)} {H' : Heap} {vb : Value} (hpos : 0 < es) (hH : HRel w S μ H) (hb : VRel w S μ k vb (.bptr bn off)) (h : addRow H bn key es r = some (i, H')) :
    ∃ rows n, bn.1 < H.length ∧ i = rows.length ∧ MatRel w S μ (bn.1, key) es rows n ∧ H' = H.set (bn.1, key) (.mat es (rows ++ [r]) n) := by
  unfold addRow at h
  split at h
  · cases h
  · rename_i hl
    split at h
    · rename_i hg
      simp only [Option.some.injEq, Prod.mk.injEq] at h
      obtain ⟨rfl, rfl⟩ := h
      exact ⟨[], 0, by omega, rfl, .void hpos (fun t b h => by obtain ⟨y, hy⟩ := hH.bnd _ _ _ h; rw [hg] at hy; cases hy), rfl⟩
    · rename_i es' rows n hg
      split at h
      · rename_i cs hgb
        split at h
        · rename_i hc
          obtain ⟨e, hle⟩ := hc
          subst e
          simp only [Option.some.injEq, Prod.mk.injEq] at h
          obtain ⟨rfl, rfl⟩ := h
          refine ⟨rows, n, by omega, rfl, ?_, rfl⟩
          cases hb with
          | bptr _ _ b h1 h2 =>
          obtain ⟨b', c, e, q1, q2, q3, q4⟩ := hH.blk _ _ hgb _ _ h2
          obtain ⟨j, es1, top, lo, len, j1, j2⟩ := leads_get hle
          have := (q4.getD j j1).2
          rw [j2] at this
          generalize c.toList.getD j undef = vj at this
          cases this with
          | hdr _ _ _ _ _ cap bb nn ee p1 p2 p3 p4 p5 p6 => exact hH.blk _ _ hg _ _ p2
        · cases h
      · cases h
    · cases h

/-- A row out of new cells. -/
theorem layRow_sound (K : Ctx) {k off key size bytes : Nat} {bn : Nm} {t e : TypeId} {s x : GV} {vb vs vx : Value} {v : GV} {H' : Heap} {ats : Array TypeId} {ty : TypeId} (hH : HRel w S μ H) (hb : VRel w S μ k vb (.bptr bn off)) (hs : VRel w S μ k vs s) (hx : VRel w S μ k vx x)
    (h0 : ats[0]? = some t) (h1 : spreads K.P ats[1]? = true) (hu : K.P.underlying t = some (.slice e)) (hsz : tsize K.P e = some size) (hby : tbytes K.P e = some bytes) (hzs : zsize K.P e = some size) (hpos : 0 < size) (hb0 : 0 < bytes) (hb1 : bytes ≤ 1048576)
    (h : layRow H bn key size bytes s x = some (v, H')) :
    OpOk ℓ w S μ H ((do pure (Next.value (← Builtin.append_ ats ty #[vs, vx])) : Sem Next).run K.P w) v H' := by
  unfold layRow at h
  split at h
  · rename_i xs H1 hge
    split at h
    · rename_i hcond
      simp only [Bool.and_eq_true, decide_eq_true_eq, List.all_eq_true, beq_iff_eq, Bool.not_eq_true'] at hcond
      obtain ⟨⟨hrows, hemp⟩, hmax⟩ := hcond
      have hx0 : 0 < xs.length := by cases xs; simp at hemp; simp
      obtain ⟨S1, a1, a2, a3, a4, a5⟩ := gelems_sound ℓ (P := K.P) hH hx hge hpos hrows
      split at h
      · rename_i i H2 hadd
        simp only [Option.some.injEq, Prod.mk.injEq] at h
        obtain ⟨rfl, rfl⟩ := h
        cases hs with | nils a =>
        obtain ⟨z, z1, z2⟩ := zsize_run hzs w.drew
        obtain ⟨cells2, d1, d2⟩ := a5 w.drew rfl
        have hold : (Builtin.firstCells size 0 (.slice a 0 0)).run K.P w.drew = .ok #[] w.drew := by cases a <;> simp [Builtin.firstCells, loadCells, loadCellsFrom]
        obtain ⟨newCap, n1, n2⟩ := append_grows_run (ty := ty) (cap := 0) (len := 0) h0 h1 hu hsz hby hb0 hb1 (by simpa using hmax) (a4 w) hold d1 z1 (by omega)
        obtain ⟨b1, b2⟩ := a1.drew (ℓ := ℓ)
        have hthree := rows_three (w := w) (S := S1) (old := #[]) (z := Builtin.zeroCells z.cells (newCap - (0 + xs.length))) (xs := []) ⟨by simp, by simp⟩ d2
        have hb2 : VRel w.drew S1 μ k vb (.bptr bn off) := by
          cases hb with
          | bptr _ _ b p1 p2 => exact .bptr bn off b p1 p2
        obtain ⟨rows, n, hl, rfl, m, rfl⟩ := addRow_some hpos b1 hb2 hadd
        let c : Array Value := #[] ++ cells2 ++ Builtin.zeroCells z.cells (newCap - (0 + xs.length))
        have hcsz : c.size = newCap * size := by
          simp only [c, Array.size_append, zeroCells_size, z2, d2.1, Array.size_empty]
          have : newCap = xs.length + (newCap - (0 + xs.length)) := by omega
          rw [this, Nat.add_mul]; simp
        have hrr : RowRel (w.drew.alloc (.cells c e)) S1 w.drew.heap.size size xs := by
          refine ⟨⟨c, e, alloc_new _ _⟩, fun hS => by have := b1.slt _ hS; omega, fun i j hi hj => ?_⟩
          obtain ⟨z3, z4⟩ := hthree i j (by simpa using hi) hj
          simp only [List.nil_append] at z4
          have hlt : i * size + j < c.size := by have := rows_lt (n := newCap) (show i < newCap by omega) hj; omega
          refine ⟨c.getD (i * size + j) undef, ?_, z3, ?_⟩
          · simp only [World.cell?, alloc_new]
            simp [Array.getD_eq_getD_getElem?, hlt]
          · exact (PRep.mono (w := w) (w' := w.drew) (fun _ h => h) (fun _ _ => rfl) z4).mono (fun _ h => h) (fun b hb => alloc_heap w.drew _ b (b1.slt b hb))
        have hno : ∀ t, μ (bn.1, key) t ≠ some w.drew.heap.size := fun t ht => by have := b1.lt _ _ _ ht; omega
        obtain ⟨e1, e2⟩ := mat_new (ℓ := ℓ) (nm := (bn.1, key)) (o := .cells c e) (top := rix rows.length) (x := .mat size (rows ++ [xs]) n) b1 hl (fun b hb => by have := m.bnd _ _ hb; omega)
          ((m.alloc b1 _).push hno hrr hrows)
        refine ⟨_, _, _, S1, _, by simp only [Sem.run_bind, n2, Result.andThen_ok]; rfl, .inl rfl, ?_, e1, (a2.trans b2).trans e2, by rw [Heap.length_set]; exact a3.1⟩
        simp only [Nat.zero_add]
        exact .rhdr _ size _ _ newCap _ (by rw [Heap.length_set]; simp only; omega) (Mu.upd_self _ _ _ _) (by omega)
      · cases h
    · cases h
  · cases h

/-- The slice of slices is written behind what it tells. -/
theorem MatRel.outer {nm : Nm} {es n b : Nat} {rows : List (List (List PV))} (m : MatRel w S μ nm es rows n) (hb : μ nm n = some b) {c c' : Array Value} {e : TypeId} (hg : w.heap[b]? = some (.cells c e (0, 0))) (hs : c'.size = c.size)
    (hk : ∀ i, i < n → c'.toList[i]? = c.toList[i]?) : MatRel (w.setRow b c') S μ nm es rows n := by
  obtain ⟨t1, t2, t3, t4, t5⟩ := m.top n b m.lim hb
  have oth : ∀ b', b' ≠ b → (w.setRow b c').heap[b']? = w.heap[b']? := fun b' hb' => setRow_other w b b' _ hb'
  exact {
    pos := m.pos
    le := m.le
    lim := m.lim
    wid := m.wid
    row := fun i hi => by
      obtain ⟨b', h1, h2⟩ := m.row i hi
      exact ⟨b', h1, h2.mono (fun _ h => h) (fun k hk => oth k fun e => t3 (e ▸ hk)) (oth _ fun e => t4 i (e ▸ h1)) (fun h => h)⟩
    inj := m.inj
    bnd := m.bnd
    top := fun t b' ht h1 => by
      obtain ⟨g1, ⟨c2, e2, g2⟩, g3, g4, g5⟩ := m.top t b' ht h1
      refine ⟨g1, ?_, g3, g4, fun i hi => ?_⟩
      · by_cases eb : b' = b
        · subst eb; exact ⟨_, e, setRow_heap w b' c _ e _ hg⟩
        · exact ⟨c2, e2, by rw [oth _ eb]; exact g2⟩
      · obtain ⟨bi, cap, k1, k2, k3⟩ := g5 i hi
        refine ⟨bi, cap, ?_, k2, k3⟩
        by_cases eb : b' = b
        · subst eb
          rw [cell_setRow_same w b' _ c _ e (0, 0) hg]
          have := hk i (by omega)
          simp only [World.cell?, hg] at k1
          simp only [Array.getElem?_toList] at this
          simpa [this] using k1
        · rw [cell_of_heap (oth _ eb)]; exact k1 }

theorem tellRow_sound (K : Ctx) {k bytes es i len : Nat} {nm : Nm} {t e : TypeId} {s : GV} {vs vx : Value} {v : GV} {H' : Heap} {ats : Array TypeId} {ty : TypeId} (hH : HRel w S μ H) (hs : VRel w S μ k vs s) (hx : VRel w S μ k vx (.lits [[.rhdr nm es i len]])) (hk : k = H.length - 1)
    (h0 : ats[0]? = some t) (h1 : spreads K.P ats[1]? = true) (hu : K.P.underlying t = some (.slice e)) (hsz : tsize K.P e = some 1) (hby : tbytes K.P e = some bytes) (hzs : zsize K.P e = some 1) (hb0 : 0 < bytes) (hb1 : bytes ≤ 1048576)
    (h : tellRow H bytes s nm es i len = some (v, H')) :
    OpOk ℓ w S μ H ((do pure (Next.value (← Builtin.append_ ats ty #[vs, vx])) : Sem Next).run K.P w) v H' := by
  unfold tellRow at h
  split at h
  · rename_i es' rows n hg
    split at h
    · rename_i hc
      obtain ⟨rfl, rfl, hn, hlen, hmax⟩ := hc
      cases hx with
      | lits bl o capl es1 _ f hS he hes hf hone hr hcap =>
      obtain rfl : es1 = 1 := by have := hes _ (List.mem_singleton.2 rfl); simpa using this.symm
      have hv := hr 0 0 (by simp) (by omega)
      simp only [List.getD_cons_zero] at hv
      generalize hfv : f 0 0 = fv at hv
      cases hv with
      | rhdr _ _ _ _ cap2 bi p1 p2 p3 =>
      have m : MatRel w S μ nm es' rows i := hH.blk _ _ hg _ _ p2
      have hlim : i + 1 < rix 0 := by
        have : i + 1 ≤ (i + 1) * bytes := Nat.le_mul_of_pos_right _ hb0
        unfold rix; omega
      have hl : nm.1 < H.length := Heap.get_lt hg
      have hln : ∀ w2 : World, (Builtin.lenOf (.slice (some ⟨bl, o, none⟩) [[GV.rhdr nm es' i len]].length capl)).run K.P w2 = .ok 1 w2 := fun w2 => rfl
      have hcell : ∀ w2 : World, w2.heap = w.heap → ∃ cells, (Builtin.firstCells 1 1 (.slice (some ⟨bl, o, none⟩) [[GV.rhdr nm es' i len]].length capl)).run K.P w2 = .ok cells w2 ∧ cells = #[.slice (some ⟨bi, 0, none⟩) len cap2] := fun w2 hw => by
        obtain ⟨cells, c1, c2, c3⟩ := load_rows (P := K.P) (w2 := w2) hw he f hf
        refine ⟨cells, by simpa [Builtin.firstCells] using c1, ?_⟩
        have c4 := c3 0 0 (by simp) (by omega)
        rw [hfv] at c4
        apply Array.ext
        · simpa using c2
        · intro q hq1 hq2
          have : q = 0 := by simp at hq2; omega
          subst this
          rw [Array.getD_eq_getD_getElem?, Array.getElem?_eq_getElem (by simpa using hq1)] at c4
          simpa using c4
      have hnew : (∀ b, μ nm (i + 1) ≠ some b) := fun b hb => by have := (m.top (i + 1) b hlim hb).1; omega
      -- a new slice of slices
      have grow : ∀ (c : Array Value) (newCap : Nat), i + 1 ≤ newCap → newCap ≤ c.size →
          (∀ q, q < i → ∃ bi cap, c[q]? = some (.slice (some ⟨bi, 0, none⟩) (rows.getD q []).length cap) ∧ μ nm (rix q) = some bi ∧ (rows.getD q []).length ≤ cap) → c[i]? = some (.slice (some ⟨bi, 0, none⟩) len cap2) →
          ∃ μ', VRel (w.drew.alloc (.cells c e)) S μ' (H.length - 1) (.slice (some ⟨w.heap.size, 0, none⟩) (i + 1) newCap) (.hdr nm 1 (i + 1) 0 (i + 1)) ∧ HRel (w.drew.alloc (.cells c e)) S μ' (H.set nm (.mat es' rows (i + 1))) ∧ Ev ℓ w S μ (w.drew.alloc (.cells c e)) S μ' := by
        intro c newCap n1 n2 hq hi
        obtain ⟨b1, b2⟩ := hH.drew (ℓ := ℓ)
        have m1 : MatRel w.drew S μ nm es' rows i := MatRel.mono (w := w) (w' := w.drew) (fun _ h => h) (fun _ _ => rfl) (fun _ => rfl) (fun _ _ _ => rfl) (fun _ _ _ h => h) m
        have hcl : ∀ q u, c[q]? = some u → (w.drew.alloc (.cells c e)).cell? ⟨w.heap.size, q, none⟩ = some u := fun q u hu => by
          have : (w.drew.alloc (.cells c e)).heap[w.heap.size]? = some (.cells c e (0, 0)) := alloc_new w.drew _
          simp only [World.cell?, this]
          exact hu
        obtain ⟨e1, e2⟩ := mat_new (ℓ := ℓ) (nm := nm) (o := .cells c e) (top := i + 1) (x := .mat es' rows (i + 1)) b1 hl hnew
          ((m1.alloc b1 _).tell (b := w.heap.size) hn hlim ⟨c, e, alloc_new w.drew _⟩ (fun hS => by have := hH.slt _ hS; omega) (fun q hq => by have := hH.lt _ _ _ hq; omega) (fun q hq' => by
            by_cases e3 : q = i
            · subst e3; exact ⟨bi, cap2, by rw [hlen]; exact hcl _ _ hi, p2, by rw [hlen]; exact p3⟩
            · obtain ⟨bq, cq, k1, k2, k3⟩ := hq q (by omega)
              exact ⟨bq, cq, hcl _ _ k1, k2, k3⟩))
        refine ⟨_, ?_, e1, b2.trans e2⟩
        have := VRel.hdr (w := w.drew.alloc (.cells c e)) (S := S) (μ := μ.upd nm (i + 1) w.drew.heap.size) (ℓ := H.length - 1) nm 1 (i + 1) 0 (i + 1) newCap w.drew.heap.size c.size e
          (by omega) (Mu.upd_self _ _ _ _) (by omega) (by omega) (by unfold World.shape?; rw [alloc_new]) (by omega)
        rw [Nat.zero_mul] at this
        exact this
      obtain ⟨z, z1, z2⟩ := zsize_run hzs w.drew
      obtain ⟨cells2, d1, d2⟩ := hcell w.drew rfl
      subst d2
      split at h
      · -- the first one
        split at h
        · rename_i hn0
          subst hn0
          simp only [Option.some.injEq, Prod.mk.injEq] at h
          obtain ⟨rfl, rfl⟩ := h
          cases hs with | nils a =>
          have hold : (Builtin.firstCells 1 0 (.slice a 0 0)).run K.P w.drew = .ok #[] w.drew := by cases a <;> simp [Builtin.firstCells, loadCells, loadCellsFrom]
          obtain ⟨newCap, n1, n2⟩ := append_grows_run (ty := ty) (cap := 0) (len := 0) h0 h1 hu hsz hby hb0 hb1 (by simpa using hmax) (hln w) hold d1 z1 (by omega)
          obtain ⟨μ', g1, g2, g3⟩ := grow (#[] ++ #[.slice (some ⟨bi, 0, none⟩) len cap2] ++ Builtin.zeroCells z.cells (newCap - (0 + 1))) newCap (by omega)
            (by simp only [Array.size_append, zeroCells_size, z2, Array.size_empty]; simp; omega) (fun q hq => by omega) (by
              rw [Array.getElem?_append_left (by simp), Array.getElem?_append_right (by simp)]
              simp)
          simp only [Nat.zero_add] at n2 g1 g2 g3
          exact ⟨_, _, _, S, μ', by simp only [Sem.run_bind, n2, Result.andThen_ok]; rfl, .inl rfl, by rw [Heap.length_set]; exact g1, g2, g3, by rw [Heap.length_set]⟩
        · cases h
      · rename_i nm' es1 top lo ln
        split at h
        · rename_i hc
          obtain ⟨rfl, rfl, rfl, rfl, rfl⟩ := hc
          simp only [Option.some.injEq, Prod.mk.injEq] at h
          obtain ⟨rfl, rfl⟩ := h
          cases hs with
          | hdr _ _ _ _ _ cap b sz ek q1 q2 q3 q4 q5 q6 =>
          obtain ⟨t1, ⟨c0, e0, t2⟩, t3, t4, t5⟩ := m.top ln b m.lim q2
          have hcs : c0.size = sz := by unfold World.shape? at q5; rw [t2] at q5; simp at q5; exact q5.2
          have hc0 : ∀ q, q < ln → ∃ bi cap, c0[q]? = some (.slice (some ⟨bi, 0, none⟩) (rows.getD q []).length cap) ∧ μ nm' (rix q) = some bi ∧ (rows.getD q []).length ≤ cap := fun q hq => by
            obtain ⟨bq, cq, k1, k2, k3⟩ := t5 q hq
            simp only [World.cell?, t2] at k1
            exact ⟨bq, cq, k1, k2, k3⟩
          by_cases hfit : ln + 1 ≤ cap
          · have hbnd : ln * 1 + #[Value.slice (some ⟨bi, 0, none⟩) len cap2].toList.length ≤ c0.toList.length := by simp; omega
            have hst := run_storeCells_at (P := K.P) b (ln * 1) e0 [Value.slice (some ⟨bi, 0, none⟩) len cap2] 0 c0 w t2 (by simpa using hbnd) (by intro v hv; simp at hv; subst hv; rfl)
            simp only [Nat.add_zero] at hst
            have hsize : (splice c0.toList (ln * 1) [Value.slice (some ⟨bi, 0, none⟩) len cap2]).toArray.size = c0.size := by
              simp only [List.size_toArray]; rw [splice_length _ _ _ (by simpa using hbnd)]; simp
            have hget : ∀ q, (splice c0.toList (ln * 1) [Value.slice (some ⟨bi, 0, none⟩) len cap2])[q]? = if q < ln * 1 then c0.toList[q]? else if q < ln * 1 + 1 then [Value.slice (some ⟨bi, 0, none⟩) len cap2][q - ln * 1]? else c0.toList[q]? := fun q =>
              splice_get _ _ _ _ (by simpa using hbnd)
            have m2 : MatRel (w.setRow b (splice c0.toList (ln * 1) [Value.slice (some ⟨bi, 0, none⟩) len cap2]).toArray) S μ nm' es' rows ln := m.outer q2 t2 hsize (fun q hq => by
              rw [List.toList_toArray, hget, if_pos (by omega)])
            have hcl : ∀ q u, (splice c0.toList (ln * 1) [Value.slice (some ⟨bi, 0, none⟩) len cap2])[q]? = some u → (w.setRow b (splice c0.toList (ln * 1) [Value.slice (some ⟨bi, 0, none⟩) len cap2]).toArray).cell? ⟨b, q, none⟩ = some u := fun q u hu => by
              rw [cell_setRow_same w b _ c0 _ e0 (0, 0) t2]; simpa using hu
            have m3 := m2.tell (b := b) hn hlim ⟨_, e0, setRow_heap w b c0 _ e0 _ t2⟩ t3 t4 (fun q hq' => by
              by_cases e3 : q = ln
              · subst e3
                refine ⟨bi, cap2, hcl _ _ ?_, p2, by rw [hlen]; exact p3⟩
                rw [hget, if_neg (by omega), if_pos (by omega), hlen]; simp
              · obtain ⟨bq, cq, k1, k2, k3⟩ := hc0 q (by omega)
                refine ⟨bq, cq, hcl _ _ ?_, k2, k3⟩
                rw [hget, if_pos (by omega)]
                simpa using k1)
            have := hH.row ℓ (x := .mat es' rows (ln + 1)) hl q2 t3 t2 hsize (ln + 1) m3 (fun b' hb' => absurd hb' (hnew b'))
            obtain ⟨cells1, e1, e2⟩ := hcell w rfl
            subst e2
            have hrun := append_fits_run (ty := ty) (base := some ⟨b, 0 * 1, none⟩) (len := ln) (cap := cap) h0 h1 hu hsz (hln w) e1 hfit (w' := w.setRow b (splice c0.toList (ln * 1) [Value.slice (some ⟨bi, 0, none⟩) len cap2]).toArray)
              (by simp only [Nat.zero_mul]; rw [add_none, Nat.zero_add]; simpa [splice] using hst) (r := .ok () w)
            refine ⟨_, _, _, S, _, by simp only [Sem.run_bind, hrun, Result.andThen_ok]; rfl, .inl rfl, ?_, this.1, this.2, by rw [Heap.length_set]⟩
            have hv := VRel.hdr (w := w.setRow b (splice c0.toList (ln * 1) [Value.slice (some ⟨bi, 0, none⟩) len cap2]).toArray) (S := S) (μ := μ.upd nm' (ln + 1) b) (ℓ := (H.set nm' (.mat es' rows (ln + 1))).length - 1) nm' 1 (ln + 1) 0 (ln + 1) cap b sz ek
              (by rw [Heap.length_set]; omega) (Mu.upd_self _ _ _ _) (by omega) (by omega) (setRow_shp w b c0 _ e0 (0, 0) t2 hsize b _ q5) q6
            exact hv
          · obtain ⟨old, o1, o2, o3⟩ := load_rows (w := w) (w2 := w.drew) (P := K.P) (b := b) (o := 0 * 1) (n := ln) (size := 1) rfl (by omega) (fun i j => (c0[i]?).getD undef) (fun i j hi hj => by
              obtain ⟨bq, cq, k1, k2, k3⟩ := hc0 i hi
              obtain rfl : j = 0 := by omega
              simp only [World.cell?, t2]
              simp [k1])
            obtain ⟨newCap, n1, n2⟩ := append_grows_run (ty := ty) (base := some ⟨b, 0 * 1, none⟩) (cap := cap) (len := ln) h0 h1 hu hsz hby hb0 hb1 hmax (hln w) (by simpa [Builtin.firstCells] using o1) d1 z1 hfit
            have hos : old.size = ln := by simpa using o2
            obtain ⟨μ', g1, g2, g3⟩ := grow (old ++ #[.slice (some ⟨bi, 0, none⟩) len cap2] ++ Builtin.zeroCells z.cells (newCap - (ln + 1))) newCap (by omega)
              (by simp only [Array.size_append, zeroCells_size, z2, hos]; simp; omega) (fun q hq => by
                obtain ⟨bq, cq, k1, k2, k3⟩ := hc0 q hq
                refine ⟨bq, cq, ?_, k2, k3⟩
                have := o3 q 0 hq (by omega)
                rw [k1, Array.getD_eq_getD_getElem?] at this
                rw [Array.getElem?_append_left (by simp; omega), Array.getElem?_append_left (by omega)]
                rw [Array.getElem?_eq_getElem (show q < old.size by omega)]
                rw [Array.getElem?_eq_getElem (show q * 1 + 0 < old.size by omega)] at this
                simpa using this) (by
                rw [Array.getElem?_append_left (by simp; omega), Array.getElem?_append_right (by omega)]
                simp [hos])
            refine ⟨_, _, _, S, μ', by simp only [Sem.run_bind, n2, Result.andThen_ok]; rfl, .inl rfl, by rw [Heap.length_set]; exact g1, g2, g3, by rw [Heap.length_set]⟩
        · cases h
      · cases h
    · cases h
  · cases h

theorem upBox_some {s : Slots} {u : Up} {bn : Nm} (h : upBox s u = some bn) : ∃ t off, u = .box t ∧ look s t = .bptr bn off := by
  unfold upBox at h
  split at h
  · split at h
    · rename_i nm off e
      simp only [Option.some.injEq] at h; subst h
      exact ⟨_, off, rfl, e⟩
    · cases h
  · cases h

theorem rowLit_some {x : GV} {nm : Nm} {es i len : Nat} (h : rowLit x = some (nm, es, i, len)) : x = .lits [[.rhdr nm es i len]] := by
  unfold rowLit at h
  split at h
  · simp only [Option.some.injEq, Prod.mk.injEq] at h
    obtain ⟨rfl, rfl, rfl, rfl⟩ := h
    rfl
  · cases h

theorem gappendR_sound (K : Ctx) {k off key : Nat} {bn : Nm} {t : TypeId} {s x : GV} {vb vs vx : Value} {v : GV} {H' : Heap} {ats : Array TypeId} {ty : TypeId} (hH : HRel w S μ H) (hb : VRel w S μ k vb (.bptr bn off)) (hs : VRel w S μ k vs s) (hx : VRel w S μ k vx x)
    (hk : k = H.length - 1) (h0 : ats[0]? = some t) (h1 : spreads K.P ats[1]? = true) (h : gappendR K H bn key t s x = some (v, H')) :
    OpOk ℓ w S μ H ((do pure (Next.value (← Builtin.append_ ats ty #[vs, vx])) : Sem Next).run K.P w) v H' := by
  unfold gappendR at h
  split at h
  · rename_i e hu0
    have hu := telem_some hu0
    split at h
    · rename_i size bytes hsz hby
      split at h
      · rename_i hcond
        simp only [Bool.and_eq_true, decide_eq_true_eq] at hcond
        obtain ⟨⟨⟨hzs, hpos⟩, hb0⟩, hb1⟩ := hcond
        split at h
        · rename_i nm es i len hrl
          obtain rfl := rowLit_some hrl
          split at h
          · rename_i hs1
            subst hs1
            exact tellRow_sound K hH hs hx hk h0 h1 hu hsz hby hzs hb0 hb1 h
          · cases h
        · exact layRow_sound K hH hb hs hx h0 h1 hu hsz hby hzs hpos hb0 hb1 h
      · cases h
    · cases h
  · cases h

end
end Go.Gh
