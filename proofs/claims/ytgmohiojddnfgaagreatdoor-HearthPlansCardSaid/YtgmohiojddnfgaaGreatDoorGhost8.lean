/- Slices: literals, make, append. -/
import Derived.Test.YtgmohiojddnfgaaGreatDoorGhost7
namespace Go.Gh
set_option linter.unusedSimpArgs false
set_option linter.unusedVariables false

section
variable {w : World} {S : Nat → Prop} {μ : Mu} {H : Heap} {P : Program} {ℓ : Nat}

theorem chunks_length {α : Type} (es : Nat) : ∀ (n : Nat) (l : List α), (chunks es n l).length = n
  | 0, _ => rfl
  | n + 1, l => by simp [chunks, chunks_length es n]

theorem chunks_get {α : Type} (es : Nat) : ∀ (n : Nat) (l : List α) (i : Nat), i < n → (chunks es n l)[i]? = some ((l.drop (i * es)).take es)
  | 0, _, i, h => by omega
  | n + 1, l, i, h => by
    cases i with
    | zero => simp [chunks]
    | succ i =>
      simp only [chunks, List.getElem?_cons_succ]
      rw [chunks_get es n _ i (by omega), List.drop_drop]
      congr 3; rw [Nat.add_mul]; omega

theorem chunks_mem {α : Type} {es n : Nat} {l : List α} (h : l.length = n * es) : ∀ r ∈ chunks es n l, r.length = es := by
  intro r hr
  obtain ⟨i, hi, rfl⟩ := List.getElem_of_mem hr
  have hi' : i < n := by simpa [chunks_length] using hi
  have := chunks_get es n l i hi'
  rw [List.getElem?_eq_getElem hi] at this
  simp only [Option.some.injEq] at this
  rw [this]
  have : (i + 1) * es ≤ n * es := Nat.mul_le_mul_right _ hi'
  rw [Nat.add_mul] at this
  simp; omega

theorem chunks_cell {α : Type} {es n : Nat} {l : List α} (d : α) (i j : Nat) (hi : i < n) (hj : j < es) :
    ((chunks es n l).getD i []).getD j d = l.getD (i * es + j) d := by
  have e : (chunks es n l).getD i [] = (l.drop (i * es)).take es := by rw [List.getD_eq_getElem?_getD, chunks_get es n l i hi]; rfl
  rw [e, List.getD_eq_getElem?_getD, List.getElem?_take, if_pos hj, List.getElem?_drop, List.getD_eq_getElem?_getD]

theorem canon1_rel {k : Nat} {v : Value} {g : GV} (h : VRel w S μ k v g) : VRel w S μ k v (canon1 g) := by
  cases g with
  | nils => cases h with | nils a => exact .pure _ _ (.slice0 a 0)
  | _ => exact h

theorem canon1_cells {k : Nat} {vs : List Value} {gs : List GV} (h : CRel w S μ k vs gs) : CRel w S μ k vs (gs.map canon1) := by
  induction h with
  | nil => exact .nil
  | cons h1 h2 _ ih => exact .cons h1 (canon1_rel h2) ih

theorem canon_rel {k : Nat} {v : Value} {g : GV} (h : VRel w S μ k v g) : VRel w S μ k v (canon g) := by
  have hagg : ∀ {v : Value} {l : List GV}, VRel w S μ k v (.agg l) → VRel w S μ k v (mkAgg (l.map canon1)) := by
    intro v l h
    obtain ⟨vs, rfl, hc⟩ := h.cells
    exact mkAgg_rel' (canon1_cells hc)
  cases g with
  | nils => exact canon1_rel h
  | agg l => exact hagg h
  | tuple l =>
    cases h with
    | tuple vs _ h1 h2 =>
      refine mkTuple_rel (by simpa using h1) fun j hj => ?_
      have hj' : j < l.length := by simpa using hj
      have h3 := h2 j hj'
      simp only [List.getD_eq_getElem?_getD, List.getElem?_map, List.getElem?_eq_getElem hj', Option.map_some, Option.getD_some] at h3 ⊢
      split
      · rename_i l' e; rw [e] at h3; exact hagg h3
      · exact canon1_rel h3
  | _ => exact h

theorem chunkCell {es n : Nat} {cs : List GV} (i j : Nat) (hi : i < n) (hj : j < es) : ((chunks es n cs).getD i []).getD j gdead = cs.getD (i * es + j) gdead := chunks_cell gdead i j hi hj

theorem mod_range {α : Type} (z : Array α) [Inhabited α] (len : Nat) : ((Array.range (len * z.size)).map (z[· % z.size]!)).toList = (List.replicate len z.toList).flatten := by
  by_cases hz : z.size = 0
  · simp [hz, Array.eq_empty_of_size_eq_zero hz]
  induction len with
  | zero => simp
  | succ n ih =>
    rw [List.replicate_succ', List.flatten_append, ← ih, Nat.add_mul, Nat.one_mul]
    simp only [Array.toList_map, Array.toList_range, List.flatten_cons, List.flatten_nil, List.append_nil]
    rw [List.range_add, List.map_append, List.map_map]
    congr 1
    apply List.ext_getElem
    · simp
    · intro i h1 h2
      have h2' : i < z.size := by simpa using h2
      simp only [List.getElem_map, List.getElem_range, Function.comp]
      rw [Nat.mul_comm n, Nat.mul_add_mod, Nat.mod_eq_of_lt h2']
      simp [h2']

theorem gfill_length {place : Nat → Option (Nat × Nat)} : ∀ (ps : List (Nat × GV)) (q cs : List GV), gfill place q ps = some cs → cs.length = q.length
  | [], q, cs, hf => by simp [gfill] at hf; subst hf; rfl
  | (i, g) :: ps, q, cs, hf => by
    simp only [gfill] at hf
    cases hp : place i with
    | none => rw [hp] at hf; cases hf
    | some x =>
      obtain ⟨off, size⟩ := x
      rw [hp] at hf
      simp only at hf
      cases hc : cellsO g with
      | none => rw [hc] at hf; cases hf
      | some us =>
        rw [hc] at hf
        simp only at hf
        by_cases hcond : us.length ≠ size ∨ off + us.length > q.length
        · rw [if_pos hcond] at hf; cases hf
        · rw [if_neg hcond] at hf
          rw [gfill_length ps _ _ hf, splice_length _ _ _ (by omega)]

theorem buildSlice_run {t e : TypeId} {len size : Nat} {parts : Array (Nat × Operand)} {a : Act} {s : Slots} {z : GV} {zs cs : List GV} (hH : HRel w S μ H)
    (hs : ∀ t, VRel w S μ (H.length - 1) (a.tmps.getD t undef) (look s t)) (hu : telem P t = some e) (hsz : tsize P e = some size) (hz : tzero P e = some z) (hzc : cellsO z = some zs)
    (hzl : zs.length = size) (hpos : 0 < size) (hmax : len * size ≤ 16777216)
    (h : gfill (fun i => some (i * size, size)) (List.replicate len zs).flatten (parts.toList.map (evp s)) = some cs) :
    ∃ c : Array Value, CRel w S μ (H.length - 1) c.toList cs ∧ cs.length = len * size ∧
      (Instr.buildSlice t len (parts.map fun x => (x.1, a.eval x.2))).run P w = .ok (.slice (some ⟨w.heap.size, 0, none⟩) len len) (w.alloc (.cells c e)) := by
  obtain ⟨v, h1, rfl⟩ := r_zero (P := P) w hz
  have hc := cellsO_rel (ofConst_rel (w := w) (S := S) (μ := μ) (ℓ := H.length - 1) v) hzc
  have hvl : v.cells.size = size := by have := hc.length; simp at this; omega
  obtain ⟨p1, p2⟩ := parts_rel hH.glb hs parts
  have hu' : P.underlying t = some (.slice e) := by
    unfold telem at hu
    split at hu
    · rename_i e' he; simp at hu; subst hu; exact he
    · cases hu
  by_cases h0 : len * size = 0
  · have hl0 : len = 0 := by rcases Nat.mul_eq_zero.1 h0 with h | h <;> omega
    subst hl0
    obtain ⟨c, c1, c2⟩ := fill_sound (w := w) (S := S) (μ := μ) (k := H.length - 1) (place := fun i => some (i * size, size)) (fun i x hx => hx) _ _ #[] _ cs p1 p2 (by simp; exact .nil) h
    rw [Array.toList_map] at c1
    have hcs : cs.length = 0 := by rw [gfill_length _ _ _ h]; simp
    have e0 : ∀ f : Nat → Value, Array.map f (Array.range 0) = #[] := fun f => Array.eq_empty_of_size_eq_zero (by simp)
    refine ⟨c, c2, by omega, ?_⟩
    simp [Instr.buildSlice, r_underlying w hu', r_size w hsz, newRow, e0, c1]
  · have hcells : CRel w S μ (H.length - 1) (((Array.range (len * size)).map (v.cells[· % v.cells.size]!))).toList (List.replicate len zs).flatten := by
      have := mod_range v.cells len
      rw [hvl] at this ⊢
      rw [this]
      exact hc.replicate len
    obtain ⟨c, c1, c2⟩ := fill_sound (place := fun i => some (i * size, size)) (fun i x hx => hx) _ _ _ _ cs p1 p2 hcells h
    rw [Array.toList_map] at c1
    have hcs : cs.length = len * size := by rw [gfill_length _ _ _ h]; simp [List.length_flatten, hzl]
    refine ⟨c, c2, hcs, ?_⟩
    have hng : ¬ len * size > 2 ^ 24 := by omega
    simp only [Nat.mul_eq_zero] at h0
    simp [Instr.buildSlice, r_underlying w hu', r_size w hsz, newRow, hng, h0, h1, c1]
    intro hh; exact absurd (Nat.mul_eq_zero.1 hh) h0

theorem telem_some {t e : TypeId} (hu : telem P t = some e) : P.underlying t = some (.slice e) := by
  unfold telem at hu
  split at hu
  · rename_i e' he; simp at hu; subst hu; exact he
  · cases hu

/-- A literal that is never written. -/
theorem lits_sound {t e : TypeId} {len size : Nat} {parts : Array (Nat × Operand)} {a : Act} {s : Slots} {z : GV} {zs cs : List GV} (hH : HRel w S μ H)
    (hs : ∀ t, VRel w S μ (H.length - 1) (a.tmps.getD t undef) (look s t)) (hu : telem P t = some e) (hsz : tsize P e = some size) (hz : tzero P e = some z) (hzc : cellsO z = some zs)
    (hzl : zs.length = size) (hpos : 0 < size) (hmax : len * size ≤ 16777216)
    (h : gfill (fun i => some (i * size, size)) (List.replicate len zs).flatten (parts.toList.map (evp s)) = some cs) :
    OpOk ℓ w S μ H ((do pure (Next.value (← Instr.buildSlice t len (parts.map fun x => (x.1, a.eval x.2)))) : Sem Next).run P w) (if len = 0 then .nils else .lits (chunks size len cs)) H := by
  obtain ⟨c, h1, h2, h3⟩ := buildSlice_run hH hs hu hsz hz hzc hzl hpos hmax h
  obtain ⟨a1, a2⟩ := hH.lit ℓ (.cells c e)
  refine ⟨_, _, _, _, μ, by simp [h3]; rfl, .inl rfl, ?_, a1, a2, rfl⟩
  split
  · rename_i h0; subst h0; exact .nils _
  · have hck : c.size = len * size := by have := h1.length; simp at this; omega
    have := VRel.lits (w := w.alloc (.cells c e)) (S := fun b => S b ∨ b = w.heap.size) (μ := μ) (ℓ := H.length - 1) w.heap.size 0 len size (chunks size len cs) (fun i j => c.getD (i * size + j) undef)
      (.inr rfl) hpos (chunks_mem h2) (fun i j hi hj => by
        rw [chunks_length] at hi
        have hlt : i * size + j < c.size := by
          have : (i + 1) * size ≤ len * size := Nat.mul_le_mul_right _ hi
          rw [Nat.add_mul] at this; omega
        simp only [World.cell?, alloc_new, Nat.zero_add]
        simp [Array.getD_eq_getD_getElem?, hlt])
      (fun i j hi hj => by
        rw [chunks_length] at hi
        have hlt : i * size + j < cs.length := by
          have : (i + 1) * size ≤ len * size := Nat.mul_le_mul_right _ hi
          rw [Nat.add_mul] at this; omega
        rw [agetD]; exact (h1.getD _ hlt).1)
      (fun i j hi hj => by
        rw [chunks_length] at hi
        have hlt : i * size + j < cs.length := by
          have : (i + 1) * size ≤ len * size := Nat.mul_le_mul_right _ hi
          rw [Nat.add_mul] at this; omega
        rw [agetD, chunkCell i j hi hj]
        exact (h1.getD _ hlt).2.mono (fun b h => .inl h) (fun b hb => alloc_heap w _ b (hH.slt b hb)) (alloc_shp w _) (fun _ _ _ _ h => h) (Nat.le_refl _)) (by rw [chunks_length])
    rw [chunks_length] at this
    exact this

/-- A pure literal. -/
theorem lit_sound {t e : TypeId} {len size : Nat} {parts : Array (Nat × Operand)} {a : Act} {s : Slots} {z : GV} {zs cs : List GV} {ps : List PV} (hH : HRel w S μ H)
    (hs : ∀ t, VRel w S μ (H.length - 1) (a.tmps.getD t undef) (look s t)) (hu : telem P t = some e) (hsz : tsize P e = some size) (hz : tzero P e = some z) (hzc : cellsO z = some zs)
    (hzl : zs.length = size) (hpos : 0 < size) (hmax : len * size ≤ 16777216)
    (h : gfill (fun i => some (i * size, size)) (List.replicate len zs).flatten (parts.toList.map (evp s)) = some cs) (hp : allPure (cs.map canon1) = some ps) (h0 : len ≠ 0) :
    OpOk ℓ w S μ H ((do pure (Next.value (← Instr.buildSlice t len (parts.map fun x => (x.1, a.eval x.2)))) : Sem Next).run P w) (.pure (.slice (chunks size len ps))) H := by
  obtain ⟨c, h1, h2, h3⟩ := buildSlice_run hH hs hu hsz hz hzc hzl hpos hmax h
  obtain ⟨a1, a2⟩ := hH.lit ℓ (.cells c e)
  refine ⟨_, _, _, _, μ, by simp [h3]; rfl, .inl rfl, ?_, a1, a2, rfl⟩
  have h1' := canon1_cells h1
  rw [allPure_some hp] at h1'
  obtain ⟨q1, q2⟩ := CRel.pures _ _ h1'
  have hpl : ps.length = len * size := by have := h1.length; simp at q1 this; omega
  have hck : c.size = len * size := by simp at q1; omega
  have := PRep.slice (w := w.alloc (.cells c e)) (S := fun b => S b ∨ b = w.heap.size) w.heap.size 0 len size (chunks size len ps) (fun i j => c.getD (i * size + j) undef)
    (.inr rfl) hpos (chunks_mem hpl) (fun i j hi hj => by
      rw [chunks_length] at hi
      have hlt : i * size + j < c.size := by
        have : (i + 1) * size ≤ len * size := Nat.mul_le_mul_right _ hi
        rw [Nat.add_mul] at this; omega
      simp only [World.cell?, alloc_new, Nat.zero_add]
      simp [Array.getD_eq_getD_getElem?, hlt])
    (fun i j hi hj => by
      rw [chunks_length] at hi
      have hlt : i * size + j < ps.length := by
        have : (i + 1) * size ≤ len * size := Nat.mul_le_mul_right _ hi
        rw [Nat.add_mul] at this; omega
      rw [agetD]; exact (q2 _ hlt).1)
    (fun i j hi hj => by
      rw [chunks_length] at hi
      have hlt : i * size + j < ps.length := by
        have : (i + 1) * size ≤ len * size := Nat.mul_le_mul_right _ hi
        rw [Nat.add_mul] at this; omega
      rw [agetD, chunks_cell PV.dead i j hi hj]
      exact (q2 _ hlt).2.mono (fun b h => .inl h) (fun b hb => alloc_heap w _ b (hH.slt b hb)))
    (by rw [chunks_length]; omega)
  rw [chunks_length] at this
  exact .pure _ _ this

/-- A new row of one's own. -/
theorem new_rowE {nm : Nm} {size n cap : Nat} {rows : List (List PV)} {c : Array Value} {e : TypeId} (hH : HRel w S μ H)
    (hl : nm.1 < H.length) (hg : H.get nm = none) (ht : tyE nm e = e) (hpos : 0 < size) (hrows : ∀ r ∈ rows, r.length = size) (hn : rows.length = n) (hcap : n ≤ cap) (hsz : cap * size ≤ c.size)
    (hc : ∀ i j, i < n → j < size → (c.getD (i * size + j) undef).oneCell' = true ∧ PRep w S (c.getD (i * size + j) undef) ((rows.getD i []).getD j .dead)) :
    ∃ μ', VRel (w.alloc (.cells c e)) S μ' (H.length - 1) (.slice (some ⟨w.heap.size, 0, none⟩) n cap) (.hdr nm size n 0 n) ∧ HRel (w.alloc (.cells c e)) S μ' (H.set nm (.arr size rows 0 false)) ∧
      Ev ℓ w S μ (w.alloc (.cells c e)) S μ' ∧ μ' nm n = some w.heap.size := by
  have hno : ∀ t b, μ nm t ≠ some b := fun t b h => by obtain ⟨y, hy⟩ := hH.bnd _ _ _ h; rw [hg] at hy; cases hy
  obtain ⟨h1, h2⟩ := hH.new ℓ hg hl (.cells c e) n (.arr size rows 0 false) (by
    refine ⟨hpos, hrows, Nat.zero_le _, ⟨w.heap.size, by rw [hn]; exact Mu.upd_self _ _ _ _⟩, fun top b hb => ?_⟩
    by_cases et : top = n
    · subst et
      rw [Mu.upd_self] at hb; cases hb
      refine ⟨by omega, ⟨c, e, by rw [ht]; exact alloc_new w _⟩, fun _ hS => ?_, fun _ => ⟨fun h => (by cases h), fun i j hi hj => ?_⟩⟩
      · have := hH.slt _ hS; omega
      · obtain ⟨z1, z2⟩ := hc i j hi hj
        have hlt : i * size + j < c.size := by
          have : (i + 1) * size ≤ cap * size := Nat.mul_le_mul_right _ (by omega)
          rw [Nat.add_mul] at this; omega
        refine ⟨c.getD (i * size + j) undef, ?_, z1, z2.mono (fun _ h => h) (fun b hb => alloc_heap w _ b (hH.slt b hb))⟩
        simp only [World.cell?, alloc_new]
        simp [Array.getD_eq_getD_getElem?, hlt]
    · rw [Mu.upd_top μ _ _ et] at hb; exact absurd hb (hno _ _))
  refine ⟨_, ?_, h1, h2, Mu.upd_self _ _ _ _⟩
  have := VRel.hdr (w := w.alloc (.cells c e)) (S := S) (μ := μ.upd nm n w.heap.size) (ℓ := H.length - 1) nm size n 0 n cap w.heap.size c.size e
    (by omega) (Mu.upd_self _ _ _ _) (by omega) (by omega) (by unfold World.shape?; rw [alloc_new]) (by rw [Nat.zero_add]; exact hsz)
  rw [Nat.zero_mul] at this
  exact this

theorem new_row {l key : Nat} {nm : Nm} {H' : Heap} {size n cap : Nat} {rows : List (List PV)} {c : Array Value} {e : TypeId} (hH : HRel w S μ H)
    (h : gnewAt H l key (.arr size rows 0 false) = some (nm, H')) (hpos : 0 < size) (hrows : ∀ r ∈ rows, r.length = size) (hn : rows.length = n) (hcap : n ≤ cap) (hsz : cap * size ≤ c.size)
    (hc : ∀ i j, i < n → j < size → (c.getD (i * size + j) undef).oneCell' = true ∧ PRep w S (c.getD (i * size + j) undef) ((rows.getD i []).getD j .dead)) :
    ∃ μ', VRel (w.alloc (.cells c e)) S μ' (H'.length - 1) (.slice (some ⟨w.heap.size, 0, none⟩) n cap) (.hdr nm size n 0 n) ∧ HRel (w.alloc (.cells c e)) S μ' H' ∧
      Ev ℓ w S μ (w.alloc (.cells c e)) S μ' ∧ H'.length = H.length := by
  have ht := gnewAt_ty h
  obtain ⟨rfl, hl, hg, rfl⟩ := gnewAt_some h
  obtain ⟨μ', a1, a2, a3, _⟩ := new_rowE (ℓ := ℓ) hH (nm := (l, key)) hl hg (tyE_low (by simpa [tyOk] using ht)) hpos hrows hn hcap hsz hc
  exact ⟨μ', by rw [Heap.length_set]; exact a1, a2, a3, Heap.length_set _ _ _⟩

theorem new_rowT {l t d : Nat} {nm : Nm} {H' : Heap} {size n cap : Nat} {rows : List (List PV)} {c : Array Value} (hH : HRel w S μ H)
    (h : gnewT H l t d (.arr size rows 0 false) = some (nm, H')) (hpos : 0 < size) (hrows : ∀ r ∈ rows, r.length = size) (hn : rows.length = n) (hcap : n ≤ cap) (hsz : cap * size ≤ c.size)
    (hc : ∀ i j, i < n → j < size → (c.getD (i * size + j) undef).oneCell' = true ∧ PRep w S (c.getD (i * size + j) undef) ((rows.getD i []).getD j .dead)) :
    ∃ μ', VRel (w.alloc (.cells c t)) S μ' (H'.length - 1) (.slice (some ⟨w.heap.size, 0, none⟩) n cap) (.hdr nm size n 0 n) ∧ HRel (w.alloc (.cells c t)) S μ' H' ∧
      Ev ℓ w S μ (w.alloc (.cells c t)) S μ' ∧ H'.length = H.length := by
  obtain ⟨rfl, hl, hg, rfl, ht⟩ := gnewT_some h
  obtain ⟨μ', a1, a2, a3, _⟩ := new_rowE (ℓ := ℓ) hH hl hg (ht t) hpos hrows hn hcap hsz hc
  exact ⟨μ', by rw [Heap.length_set]; exact a1, a2, a3, Heap.length_set _ _ _⟩

theorem new_rowK (K : Ctx) {l key : Nat} {nm : Nm} {H' : Heap} {size n cap : Nat} {rows : List (List PV)} {c : Array Value} {e : TypeId} (hH : HRel w S μ H)
    (h : gnewE K H l e key (.arr size rows 0 false) = some (nm, H')) (hpos : 0 < size) (hrows : ∀ r ∈ rows, r.length = size) (hn : rows.length = n) (hcap : n ≤ cap) (hsz : cap * size ≤ c.size)
    (hc : ∀ i j, i < n → j < size → (c.getD (i * size + j) undef).oneCell' = true ∧ PRep w S (c.getD (i * size + j) undef) ((rows.getD i []).getD j .dead)) :
    ∃ μ', VRel (w.alloc (.cells c e)) S μ' (H'.length - 1) (.slice (some ⟨w.heap.size, 0, none⟩) n cap) (.hdr nm size n 0 n) ∧ HRel (w.alloc (.cells c e)) S μ' H' ∧
      Ev ℓ w S μ (w.alloc (.cells c e)) S μ' ∧ H'.length = H.length := by
  unfold gnewE at h
  split at h
  · exact new_rowT hH h hpos hrows hn hcap hsz hc
  · exact new_row hH h hpos hrows hn hcap hsz hc

end
end Go.Gh
