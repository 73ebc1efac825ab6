/- Texts joined: the evaluator over ghost values, its soundness, the walks. -/
import Derived.Test.YtkcmcjohoockcaaGreatGc3a
import Derived.Laws.StructEq
import Derived.MapKept
namespace Go.Gh
set_option linter.unusedVariables false
set_option linter.unusedSimpArgs false
set_option linter.unnecessarySimpa false
set_option maxRecDepth 100000
set_option maxHeartbeats 8000000
section
section
variable {w : World} {S : Nat → Prop} {μ : Mu} {H : Heap} {P : Program} {ℓ : Nat}
theorem chunks_length {α : Type} (es : Nat) : ∀ (n : Nat) (l : List α), (chunks es n l).length = n
 | 0, _ => rfl
 | n + 1, l => by simp [chunks, chunks_length es n]
theorem chunks_get {α : Type} (es : Nat) : ∀ (n : Nat) (l : List α) (i : Nat), i < n → (chunks es n l)[i]? = some ((l.drop (i * es)).take es)
  | 0, _, i, h => by omega
  | n + 1, l, i, h => by
    cases i with
    | zero => simp [chunks]
    | succ i =>
      simp only [chunks, List.getElem?_cons_succ]
      rw [chunks_get es n _ i (by omega), List.drop_drop]
      congr 3; rw [Nat.add_mul]; omega
theorem chunks_mem {α : Type} {es n : Nat} {l : List α} (h : l.length = n * es) : ∀ r ∈ chunks es n l, r.length = es := by
 intro r hr
 obtain ⟨i, hi, rfl⟩ := List.getElem_of_mem hr
 have hi' : i < n := by simpa [chunks_length] using hi
 have := chunks_get es n l i hi'
 rw [List.getElem?_eq_getElem hi] at this
 simp only [Option.some.injEq] at this
 rw [this]
 have : (i + 1) * es ≤ n * es := Nat.mul_le_mul_right _ hi'
 rw [Nat.add_mul] at this
 simp; omega
theorem chunks_cell {α : Type} {es n : Nat} {l : List α} (d : α) (i j : Nat) (hi : i < n) (hj : j < es) :
  ((chunks es n l).getD i []).getD j d = l.getD (i * es + j) d := by
 have e : (chunks es n l).getD i [] = (l.drop (i * es)).take es := by rw [List.getD_eq_getElem?_getD, chunks_get es n l i hi]; rfl
 rw [e, List.getD_eq_getElem?_getD, List.getElem?_take, if_pos hj, List.getElem?_drop, List.getD_eq_getElem?_getD]
theorem canon1_rel {k : Nat} {v : Value} {g : GV} (h : VRel w S μ k v g) : VRel w S μ k v (canon1 g) := by
 cases g with
 | nils => cases h with | nils a => exact .pure _ _ (.slice0 a 0)
 | _ => exact h
theorem canon1_cells {k : Nat} {vs : List Value} {gs : List GV} (h : CRel w S μ k vs gs) : CRel w S μ k vs (gs.map canon1) := by
 induction h with
 | nil => exact .nil
 | cons h1 h2 _ ih => exact .cons h1 (canon1_rel h2) ih
theorem canon_rel {k : Nat} {v : Value} {g : GV} (h : VRel w S μ k v g) : VRel w S μ k v (canon g) := by
  have hagg : ∀ {v : Value} {l : List GV}, VRel w S μ k v (.agg l) → VRel w S μ k v (mkAgg (l.map canon1)) := by
    intro v l h
    obtain ⟨vs, rfl, hc⟩ := h.cells
    exact mkAgg_rel' (canon1_cells hc)
  cases g with
  | nils => exact canon1_rel h
  | agg l => exact hagg h
  | tuple l =>
    cases h with
    | tuple vs _ h1 h2 =>
      refine mkTuple_rel (by simpa using h1) fun j hj => ?_
      have hj' : j < l.length := by simpa using hj
      have h3 := h2 j hj'
      simp only [List.getD_eq_getElem?_getD, List.getElem?_map, List.getElem?_eq_getElem hj', Option.map_some, Option.getD_some] at h3 ⊢
      split
      · rename_i l' e; rw [e] at h3; exact hagg h3
      · exact canon1_rel h3
  | _ => exact h
theorem chunkCell {es n : Nat} {cs : List GV} (i j : Nat) (hi : i < n) (hj : j < es) : ((chunks es n cs).getD i []).getD j gdead = cs.getD (i * es + j) gdead := chunks_cell gdead i j hi hj
theorem mod_range {α : Type} (z : Array α) [Inhabited α] (len : Nat) : ((Array.range (len * z.size)).map (z[· % z.size]!)).toList = (List.replicate len z.toList).flatten := by
  by_cases hz : z.size = 0
  · simp [hz, Array.eq_empty_of_size_eq_zero hz]
  induction len with
  | zero => simp
  | succ n ih =>
    rw [List.replicate_succ', List.flatten_append, ← ih, Nat.add_mul, Nat.one_mul]
    simp only [Array.toList_map, Array.toList_range, List.flatten_cons, List.flatten_nil, List.append_nil]
    rw [List.range_add, List.map_append, List.map_map]
    congr 1
    apply List.ext_getElem
    · simp
    · intro i h1 h2
      have h2' : i < z.size := by simpa using h2
      simp only [List.getElem_map, List.getElem_range, Function.comp]
      rw [Nat.mul_comm n, Nat.mul_add_mod, Nat.mod_eq_of_lt h2']
      simp [h2']
theorem gfill_length {place : Nat → Option (Nat × Nat)} : ∀ (ps : List (Nat × GV)) (q cs : List GV), gfill place q ps = some cs → cs.length = q.length
  | [], q, cs, hf => by simp [gfill] at hf; subst hf; rfl
  | (i, g) :: ps, q, cs, hf => by
    simp only [gfill] at hf
    cases hp : place i with
    | none => rw [hp] at hf; cases hf
    | some x =>
      obtain ⟨off, size⟩ := x
      rw [hp] at hf
      simp only at hf
      cases hc : cellsO g with
      | none => rw [hc] at hf; cases hf
      | some us =>
        rw [hc] at hf
        simp only at hf
        by_cases hcond : us.length ≠ size ∨ off + us.length > q.length
        · rw [if_pos hcond] at hf; cases hf
        · rw [if_neg hcond] at hf
          rw [gfill_length ps _ _ hf, splice_length _ _ _ (by omega)]
theorem buildSlice_run {t e : TypeId} {len size : Nat} {parts : Array (Nat × Operand)} {a : Act} {s : Slots} {z : GV} {zs cs : List GV} (hH : HRel w S μ H)
  (hs : ∀ t, VRel w S μ (H.length - 1) (a.tmps.getD t undef) (look s t)) (hu : telem P t = some e) (hsz : tsize P e = some size) (hz : tzero P e = some z) (hzc : cellsO z = some zs)
  (hzl : zs.length = size) (hpos : 0 < size) (hmax : len * size ≤ 16777216)
  (h : gfill (fun i => some (i * size, size)) (List.replicate len zs).flatten (parts.toList.map (evp s)) = some cs) :
  ∃ c : Array Value, CRel w S μ (H.length - 1) c.toList cs ∧ cs.length = len * size ∧
   (Instr.buildSlice t len (parts.map fun x => (x.1, a.eval x.2))).run P w = .ok (.slice (some ⟨w.heap.size, 0, none⟩) len len) (w.alloc (.cells c e)) := by
 obtain ⟨v, h1, rfl⟩ := r_zero (P := P) w hz
 have hc := cellsO_rel (ofConst_rel (w := w) (S := S) (μ := μ) (ℓ := H.length - 1) v) hzc
 have hvl : v.cells.size = size := by have := hc.length; simp at this; omega
 obtain ⟨p1, p2⟩ := parts_rel hs parts
 have hu' : P.underlying t = some (.slice e) := by
  unfold telem at hu
  split at hu
  ·rename_i e' he; simp at hu; subst hu; exact he
  ·cases hu
 by_cases h0 : len * size = 0
 ·have hl0 : len = 0 := by rcases Nat.mul_eq_zero.1 h0 with h | h <;> omega
  subst hl0
  obtain ⟨c, c1, c2⟩ := fill_sound (w := w) (S := S) (μ := μ) (k := H.length - 1) (place := fun i => some (i * size, size)) (fun i x hx => hx) _ _ #[] _ cs p1 p2 (by simp; exact .nil) h
  rw [Array.toList_map] at c1
  have hcs : cs.length = 0 := by rw [gfill_length _ _ _ h]; simp
  have e0 : ∀ f : Nat → Value, Array.map f (Array.range 0) = #[] := fun f => Array.eq_empty_of_size_eq_zero (by simp)
  refine ⟨c, c2, by omega, ?_⟩
  simp [Instr.buildSlice, r_underlying w hu', r_size w hsz, newRow, e0, c1]
 ·have hcells : CRel w S μ (H.length - 1) (((Array.range (len * size)).map (v.cells[· % v.cells.size]!))).toList (List.replicate len zs).flatten := by
   have := mod_range v.cells len
   rw [hvl] at this ⊢
   rw [this]
   exact hc.replicate len
  obtain ⟨c, c1, c2⟩ := fill_sound (place := fun i => some (i * size, size)) (fun i x hx => hx) _ _ _ _ cs p1 p2 hcells h
  rw [Array.toList_map] at c1
  have hcs : cs.length = len * size := by rw [gfill_length _ _ _ h]; simp [List.length_flatten, hzl]
  refine ⟨c, c2, hcs, ?_⟩
  have hng : ¬ len * size > 2 ^ 24 := by omega
  simp only [Nat.mul_eq_zero] at h0
  simp [Instr.buildSlice, r_underlying w hu', r_size w hsz, newRow, hng, h0, h1, c1]
  intro hh; exact absurd (Nat.mul_eq_zero.1 hh) h0
theorem telem_some {t e : TypeId} (hu : telem P t = some e) : P.underlying t = some (.slice e) := by
 unfold telem at hu
 split at hu
 ·rename_i e' he; simp at hu; subst hu; exact he
 ·cases hu
theorem lits_sound {t e : TypeId} {len size : Nat} {parts : Array (Nat × Operand)} {a : Act} {s : Slots} {z : GV} {zs cs : List GV} (hH : HRel w S μ H)
  (hs : ∀ t, VRel w S μ (H.length - 1) (a.tmps.getD t undef) (look s t)) (hu : telem P t = some e) (hsz : tsize P e = some size) (hz : tzero P e = some z) (hzc : cellsO z = some zs)
  (hzl : zs.length = size) (hpos : 0 < size) (hmax : len * size ≤ 16777216)
  (h : gfill (fun i => some (i * size, size)) (List.replicate len zs).flatten (parts.toList.map (evp s)) = some cs) :
  OpOk ℓ w S μ H ((do pure (Next.value (← Instr.buildSlice t len (parts.map fun x => (x.1, a.eval x.2)))) : Sem Next).run P w) (if len = 0 then .nils else .lits (chunks size len cs)) H := by
 obtain ⟨c, h1, h2, h3⟩ := buildSlice_run hH hs hu hsz hz hzc hzl hpos hmax h
 obtain ⟨a1, a2⟩ := hH.lit ℓ (.cells c e)
 refine ⟨_, _, _, _, μ, by simp [h3]; rfl, .inl rfl, ?_, a1, a2, rfl⟩
 split
 ·rename_i h0; subst h0; exact .nils _
 ·have hck : c.size = len * size := by have := h1.length; simp at this; omega
  have := VRel.lits (w := w.alloc (.cells c e)) (S := fun b => S b ∨ b = w.heap.size) (μ := μ) (ℓ := H.length - 1) w.heap.size 0 len size (chunks size len cs) (fun i j => c.getD (i * size + j) undef)
   (.inr rfl) hpos (chunks_mem h2) (fun i j hi hj => by
    rw [chunks_length] at hi
    have hlt : i * size + j < c.size := by
     have : (i + 1) * size ≤ len * size := Nat.mul_le_mul_right _ hi
     rw [Nat.add_mul] at this; omega
    simp only [World.cell?, alloc_new, Nat.zero_add]
    simp [Array.getD_eq_getD_getElem?, hlt])
   (fun i j hi hj => by
    rw [chunks_length] at hi
    have hlt : i * size + j < cs.length := by
     have : (i + 1) * size ≤ len * size := Nat.mul_le_mul_right _ hi
     rw [Nat.add_mul] at this; omega
    rw [agetD]; exact (h1.getD _ hlt).1)
   (fun i j hi hj => by
    rw [chunks_length] at hi
    have hlt : i * size + j < cs.length := by
     have : (i + 1) * size ≤ len * size := Nat.mul_le_mul_right _ hi
     rw [Nat.add_mul] at this; omega
    rw [agetD, chunkCell i j hi hj]
    exact (h1.getD _ hlt).2.mono (fun b h => .inl h) (fun b hb => alloc_heap w _ b (hH.slt b hb)) (alloc_shp w _) (fun _ _ _ _ h => h) (Nat.le_refl _))
  rw [chunks_length] at this
  exact this
theorem lit_sound {t e : TypeId} {len size : Nat} {parts : Array (Nat × Operand)} {a : Act} {s : Slots} {z : GV} {zs cs : List GV} {ps : List PV} (hH : HRel w S μ H)
  (hs : ∀ t, VRel w S μ (H.length - 1) (a.tmps.getD t undef) (look s t)) (hu : telem P t = some e) (hsz : tsize P e = some size) (hz : tzero P e = some z) (hzc : cellsO z = some zs)
  (hzl : zs.length = size) (hpos : 0 < size) (hmax : len * size ≤ 16777216)
  (h : gfill (fun i => some (i * size, size)) (List.replicate len zs).flatten (parts.toList.map (evp s)) = some cs) (hp : allPure (cs.map canon1) = some ps) (h0 : len ≠ 0) :
  OpOk ℓ w S μ H ((do pure (Next.value (← Instr.buildSlice t len (parts.map fun x => (x.1, a.eval x.2)))) : Sem Next).run P w) (.pure (.slice (chunks size len ps))) H := by
 obtain ⟨c, h1, h2, h3⟩ := buildSlice_run hH hs hu hsz hz hzc hzl hpos hmax h
 obtain ⟨a1, a2⟩ := hH.lit ℓ (.cells c e)
 refine ⟨_, _, _, _, μ, by simp [h3]; rfl, .inl rfl, ?_, a1, a2, rfl⟩
 have h1' := canon1_cells h1
 rw [allPure_some hp] at h1'
 obtain ⟨q1, q2⟩ := CRel.pures _ _ h1'
 have hpl : ps.length = len * size := by have := h1.length; simp at q1 this; omega
 have hck : c.size = len * size := by simp at q1; omega
 have := PRep.slice (w := w.alloc (.cells c e)) (S := fun b => S b ∨ b = w.heap.size) w.heap.size 0 len size (chunks size len ps) (fun i j => c.getD (i * size + j) undef)
  (.inr rfl) hpos (chunks_mem hpl) (fun i j hi hj => by
   rw [chunks_length] at hi
   have hlt : i * size + j < c.size := by
    have : (i + 1) * size ≤ len * size := Nat.mul_le_mul_right _ hi
    rw [Nat.add_mul] at this; omega
   simp only [World.cell?, alloc_new, Nat.zero_add]
   simp [Array.getD_eq_getD_getElem?, hlt])
  (fun i j hi hj => by
   rw [chunks_length] at hi
   have hlt : i * size + j < ps.length := by
    have : (i + 1) * size ≤ len * size := Nat.mul_le_mul_right _ hi
    rw [Nat.add_mul] at this; omega
   rw [agetD]; exact (q2 _ hlt).1)
  (fun i j hi hj => by
   rw [chunks_length] at hi
   have hlt : i * size + j < ps.length := by
    have : (i + 1) * size ≤ len * size := Nat.mul_le_mul_right _ hi
    rw [Nat.add_mul] at this; omega
   rw [agetD, chunks_cell PV.dead i j hi hj]
   exact (q2 _ hlt).2.mono (fun b h => .inl h) (fun b hb => alloc_heap w _ b (hH.slt b hb)))
  (by rw [chunks_length]; omega)
 rw [chunks_length] at this
 exact .pure _ _ this
theorem new_row {l key : Nat} {nm : Nm} {H' : Heap} {size n cap : Nat} {rows : List (List PV)} {c : Array Value} {e : TypeId} (hH : HRel w S μ H)
  (h : gnewAt H l key (.arr size rows 0 false) = some (nm, H')) (hpos : 0 < size) (hrows : ∀ r ∈ rows, r.length = size) (hn : rows.length = n) (hcap : n ≤ cap) (hsz : cap * size ≤ c.size)
  (hc : ∀ i j, i < n → j < size → (c.getD (i * size + j) undef).oneCell' = true ∧ PRep w S (c.getD (i * size + j) undef) ((rows.getD i []).getD j .dead)) :
  ∃ μ', VRel (w.alloc (.cells c e)) S μ' (H'.length - 1) (.slice (some ⟨w.heap.size, 0, none⟩) n cap) (.hdr nm size n 0 n) ∧ HRel (w.alloc (.cells c e)) S μ' H' ∧
   Ev ℓ w S μ (w.alloc (.cells c e)) S μ' ∧ H'.length = H.length := by
 obtain ⟨rfl, hl, hg, rfl⟩ := gnewAt_some h
 have hno : ∀ t b, μ (l, key) t ≠ some b := fun t b h => by obtain ⟨y, hy⟩ := hH.bnd _ _ _ h; rw [hg] at hy; cases hy
 obtain ⟨h1, h2⟩ := hH.new ℓ hg hl (.cells c e) n (.arr size rows 0 false) (by
  refine ⟨hpos, hrows, Nat.zero_le _, ⟨w.heap.size, by rw [hn]; exact Mu.upd_self _ _ _ _⟩, fun top b hb => ?_⟩
  by_cases et : top = n
  ·subst et
   rw [Mu.upd_self] at hb; cases hb
   refine ⟨by omega, ⟨c, e, alloc_new w _⟩, fun _ hS => ?_, fun _ => ⟨fun h => (by cases h), fun i j hi hj => ?_⟩⟩
   ·have := hH.slt _ hS; omega
   ·obtain ⟨z1, z2⟩ := hc i j hi hj
    have hlt : i * size + j < c.size := by
     have : (i + 1) * size ≤ cap * size := Nat.mul_le_mul_right _ (by omega)
     rw [Nat.add_mul] at this; omega
    refine ⟨c.getD (i * size + j) undef, ?_, z1, z2.mono (fun _ h => h) (fun b hb => alloc_heap w _ b (hH.slt b hb))⟩
    simp only [World.cell?, alloc_new]
    simp [Array.getD_eq_getD_getElem?, hlt]
  ·rw [Mu.upd_top μ _ _ et] at hb; exact absurd hb (hno _ _))
 refine ⟨_, ?_, h1, h2, Heap.length_set _ _ _⟩
 have := VRel.hdr (w := w.alloc (.cells c e)) (S := S) (μ := μ.upd (l, key) n w.heap.size) (ℓ := (Heap.set H (l, key) (.arr size rows 0 false)).length - 1) (l, key) size n 0 n cap w.heap.size c.size e
  (by simp [Heap.length_set]; omega) (Mu.upd_self _ _ _ _) hcap (by omega) (by unfold World.shape?; rw [alloc_new]) (by rw [Nat.zero_add]; exact hsz)
 rw [Nat.zero_mul] at this
 exact this
end
end
section
section
variable {w : World} {S : Nat → Prop} {μ : Mu} {H : Heap} {P : Program} {ℓ : Nat}
def RowsAt (w : World) (S : Nat → Prop) (cells : Array Value) (xs : List (List PV)) (size : Nat) : Prop :=
 cells.size = xs.length * size ∧ ∀ i j, i < xs.length → j < size → (cells.getD (i * size + j) undef).oneCell' = true ∧ PRep w S (cells.getD (i * size + j) undef) ((xs.getD i []).getD j .dead)
theorem rows_lt {n size i j : Nat} (hi : i < n) (hj : j < size) : i * size + j < n * size := by
 have : (i + 1) * size ≤ n * size := Nat.mul_le_mul_right _ hi
 rw [Nat.add_mul] at this; omega
theorem div_row {size i j : Nat} (hj : j < size) : (i * size + j) / size = i ∧ (i * size + j) % size = j := by
 constructor
 ·rw [Nat.mul_comm, Nat.mul_add_div (by omega), Nat.div_eq_of_lt hj]; omega
 ·rw [Nat.mul_comm, Nat.mul_add_mod, Nat.mod_eq_of_lt hj]
theorem load_rows {w2 : World} (hw : w2.heap = w.heap) {b o n size : Nat} (hpos : 0 < size) (f : Nat → Nat → Value) (hf : ∀ i j, i < n → j < size → w.cell? ⟨b, o + (i * size + j), none⟩ = some (f i j)) :
  ∃ cells : Array Value, (loadCells ⟨b, o, none⟩ (n * size)).run P w2 = .ok cells w2 ∧ cells.size = n * size ∧ ∀ i j, i < n → j < size → cells.getD (i * size + j) undef = f i j := by
 have hlen : ((List.range (n * size)).map fun q => f (q / size) (q % size)).length = n * size := by simp
 have hc : CellsAt w2 b o ((List.range (n * size)).map fun q => f (q / size) (q % size)) := by
  have : CellsAt w b o ((List.range (n * size)).map fun q => f (q / size) (q % size)) := cellsAt_map fun q hq => by
   have h1 : q / size < n := by rw [Nat.div_lt_iff_lt_mul hpos]; exact hq
   have h2 : q % size < size := Nat.mod_lt _ hpos
   have := hf _ _ h1 h2
   rwa [Nat.div_add_mod' q size] at this
  intro j v hv
  have := this j v hv
  unfold World.cell? at this ⊢; rw [hw]; exact this
 have := r_loadCells (P := P) w2 hc
 rw [hlen] at this
 refine ⟨_, this, by simp, fun i j hi hj => ?_⟩
 obtain ⟨d1, d2⟩ := div_row (i := i) hj
 rw [agetD]
 simp [List.getD_eq_getElem?_getD, rows_lt hi hj, d1, d2]
theorem pureRows_rel (ℓ : Nat) {size : Nat} : ∀ (l : List (List GV)) (f : Nat → Nat → Value) (S : Nat → Prop) (H : Heap) (k : Nat), HRel w S μ H → (∀ r ∈ l, r.length = size) →
    (∀ i j, i < l.length → j < size → (f i j).oneCell' = true ∧ VRel w S μ k (f i j) ((l.getD i []).getD j gdead)) →
    ∃ S', HRel w S' μ (pureRows H l).2 ∧ Ev ℓ w S μ w S' μ ∧ SameBox H (pureRows H l).2 ∧ (pureRows H l).1.length = l.length ∧ (∀ r ∈ (pureRows H l).1, r.length = size) ∧
      ∀ i j, i < l.length → j < size → PRep w S' (f i j) (((pureRows H l).1.getD i []).getD j .dead)
  | [], f, S, H, k, hH, _, _ => ⟨S, hH, .refl _ _ _ _, .refl H, rfl, by simp [pureRows], by simp⟩
  | r :: l, f, S, H, k, hH, hl, hr => by
    have hrl : r.length = size := hl r (by simp)
    have hc : CRel w S μ k ((List.range r.length).map (f 0)) r := crel_map fun j hj => by simpa using hr 0 j (by simp) (by omega)
    obtain ⟨S1, a1, a2, a3, a4⟩ := pureCells_rel ℓ hH hc
    obtain ⟨S2, b1, b2, b3, b4, b6, b5⟩ := pureRows_rel ℓ l (fun i => f (i + 1)) S1 _ k a1 (fun x hx => hl x (by simp [hx])) (fun i j hi hj => by
      have := hr (i + 1) j (by simpa using hi) hj
      exact ⟨this.1, by simpa using this.2.mono a2.sub (fun _ _ => rfl) (fun _ _ h => h) (fun _ _ _ _ h => h) (Nat.le_refl _)⟩)
    have hpl : (pureCells H r).1.length = size := by have := a3.length; simp at this; omega
    refine ⟨S2, b1, a2.trans b2, a4.trans b3, by simp [pureRows, b4], fun x hx => ?_, fun i j hi hj => ?_⟩
    · simp only [pureRows, List.mem_cons] at hx
      rcases hx with rfl | hx
      · exact hpl
      · exact b6 x hx
    · cases i with
      | zero =>
        obtain ⟨q1, q2⟩ := CRel.pures _ _ a3
        have := (q2 j (by omega)).2
        simp only [pureRows, List.getD_cons_zero]
        have e : ((List.range r.length).map (f 0)).getD j undef = f 0 j := by simp [List.getD_eq_getElem?_getD, hrl, hj]
        rw [e] at this
        exact this.mono b2.sub (fun _ _ => rfl)
      | succ i => simp only [pureRows, List.getD_cons_succ]; exact b5 i j (by simpa using hi) hj
theorem gelems_sound (ℓ : Nat) {k : Nat} {v : Value} {x : GV} {xs : List (List PV)} {H1 : Heap} {size : Nat} (hH : HRel w S μ H) (hv : VRel w S μ k v x) (h : gelems H x = some (xs, H1))
    (hpos : 0 < size) (hsz : ∀ r ∈ xs, r.length = size) :
    ∃ S1, HRel w S1 μ H1 ∧ Ev ℓ w S μ w S1 μ ∧ SameBox H H1 ∧ (∀ w2 : World, (Builtin.lenOf v).run P w2 = .ok xs.length w2) ∧
      ∀ w2 : World, w2.heap = w.heap → ∃ cells, (Builtin.firstCells size xs.length v).run P w2 = .ok cells w2 ∧ RowsAt w S1 cells xs size := by
  have rowlen : ∀ (l : List (List PV)) (es : Nat), l ≠ [] → (∀ r ∈ l, r.length = es) → (∀ r ∈ l, r.length = size) → es = size := by
    intro l es hne h1 h2
    cases l with
    | nil => exact absurd rfl hne
    | cons r l => have a := h1 r (by simp); have b := h2 r (by simp); omega
  cases x with
  | nils =>
    simp only [gelems, Option.some.injEq, Prod.mk.injEq] at h
    obtain ⟨rfl, rfl⟩ := h
    cases hv with | nils a =>
    refine ⟨S, hH, .refl _ _ _ _, .refl H, fun w2 => rfl, fun w2 _ => ⟨#[], ?_, by simp, by simp⟩⟩
    cases a <;> simp [Builtin.firstCells, loadCells, loadCellsFrom]
  | pure p =>
    cases p with
    | slice l =>
      simp only [gelems, Option.some.injEq, Prod.mk.injEq] at h
      obtain ⟨rfl, rfl⟩ := h
      refine ⟨S, hH, .refl _ _ _ _, .refl H, ?_⟩
      have := hv.pv
      cases this with
      | slice0 a cap =>
        refine ⟨fun w2 => rfl, fun w2 _ => ⟨#[], ?_, by simp, by simp⟩⟩
        cases a <;> simp [Builtin.firstCells, loadCells, loadCellsFrom]
      | slice b o cap es _ f hS he hes hf h1 hr hcp =>
        refine ⟨fun w2 => rfl, fun w2 hw => ?_⟩
        by_cases hne : l = []
        · subst hne
          exact ⟨#[], by simp [Builtin.firstCells, loadCells, loadCellsFrom], by simp, by simp⟩
        · obtain rfl : es = size := rowlen l es hne hes hsz
          obtain ⟨cells, c1, c2, c3⟩ := load_rows (P := P) hw he f hf
          exact ⟨cells, by simpa [Builtin.firstCells] using c1, c2, fun i j hi hj => by rw [c3 i j hi hj]; exact ⟨h1 i j hi hj, hr i j hi hj⟩⟩
    | str l =>
      simp only [gelems, Option.some.injEq, Prod.mk.injEq] at h
      obtain ⟨rfl, rfl⟩ := h
      obtain ⟨s, rfl, hs⟩ := hv.str_inv
      refine ⟨S, hH, .refl _ _ _ _, .refl H, fun w2 => ?_, fun w2 _ => ?_⟩
      · subst hs; simp [Builtin.lenOf]
      · by_cases hne : l = []
        · subst hne
          refine ⟨#[], ?_, by simp, by simp⟩
          have : s.extract 0 0 = ByteArray.empty := by ext1; simp
          simp [Builtin.firstCells, this]
        · have hs1 : size = 1 := by
            cases l with
            | nil => exact absurd rfl hne
            | cons b r => have := hsz [.int .u8 b.toNat] (by simp); simpa using this.symm
          subst hs1
          have hex : s.extract 0 l.length = s := by
            have : l.length = s.size := by subst hs; simp
            rw [this]; ext1; simp
          refine ⟨s.data.map fun b => .int .u8 b.toNat, ?_, ?_, fun i j hi hj => ?_⟩
          · simp only [List.length_map]
            simp [Builtin.firstCells, hex]
          · subst hs; simp
          · obtain rfl : j = 0 := by omega
            have hi' : i < l.length := by simpa using hi
            have hi2 : i < s.data.size := by subst hs; simpa using hi'
            rw [agetD]
            have e : (s.data.map fun b => Value.int .u8 b.toNat).toList.getD (i * 1 + 0) undef = .int .u8 (l[i]).toNat := by
              subst hs; simp [List.getD_eq_getElem?_getD, Array.getElem?_eq_getElem hi2]
            have e2 : ((l.map fun b => [PV.int .u8 b.toNat]).getD i []).getD 0 .dead = .int .u8 (l[i]).toNat := by
              simp [List.getD_eq_getElem?_getD, hi']
            rw [e, e2]; exact ⟨rfl, .int _ _⟩
    | _ => simp [gelems] at h
  | lits l =>
    simp only [gelems, Option.some.injEq] at h
    cases hv with
    | lits b o cap es _ f hS he hes hf h1 hr =>
    by_cases hne : l = []
    · subst hne
      simp only [pureRows, Prod.mk.injEq] at h
      obtain ⟨rfl, rfl⟩ := h
      exact ⟨S, hH, .refl _ _ _ _, .refl H, fun w2 => rfl, fun w2 _ => ⟨#[], by simp [Builtin.firstCells, loadCells, loadCellsFrom], by simp, by simp⟩⟩
    · obtain ⟨S1, b1, b2, b3, b4, b6, b5⟩ := pureRows_rel ℓ l f S H k hH hes (fun i j hi hj => ⟨h1 i j hi hj, hr i j hi hj⟩)
      rw [h] at b1 b3 b4 b5 b6
      simp only at b1 b3 b4 b5 b6
      have hxne : xs ≠ [] := by intro e; subst e; exact hne (List.eq_nil_of_length_eq_zero (by simpa using b4.symm))
      obtain rfl : es = size := rowlen xs es hxne b6 hsz
      refine ⟨S1, b1, b2, b3, fun w2 => by simp [Builtin.lenOf, b4], fun w2 hw => ?_⟩
      obtain ⟨cells, c1, c2, c3⟩ := load_rows (P := P) hw he f hf
      refine ⟨cells, by rw [b4]; simpa [Builtin.firstCells] using c1, by rw [b4]; exact c2, fun i j hi hj => ?_⟩
      rw [b4] at hi
      rw [c3 i j hi hj]; exact ⟨h1 i j hi hj, b5 i j hi hj⟩
  | hdr nm es top lo len =>
    simp only [gelems, sliceOf] at h
    split at h
    · rename_i l hl
      simp only [Option.some.injEq, Prod.mk.injEq] at h
      obtain ⟨rfl, rfl⟩ := h
      split at hl
      · rename_i es' elems vf ro hg
        split at hl
        · rename_i hc
          obtain ⟨rfl, hvf, hlen, htop⟩ := hc
          simp only [PV.slice.injEq] at hl; subst hl
          cases hv with
          | hdr _ _ _ _ _ cap b n e h1 h2 h3 h4 h5 h6 =>
          obtain ⟨h0, k1, k2, k3, k4⟩ := hH.blk _ _ hg _ _ h2
          obtain ⟨g1, g2, g3, g4⟩ := k4 top b h2
          obtain ⟨_, g5⟩ := g4 hvf
          have hlen2 : ((elems.drop lo).take len).length = len := by simp; omega
          refine ⟨S, hH, .refl _ _ _ _, .refl H, fun w2 => by rw [hlen2]; rfl, fun w2 hw => ?_⟩
          rw [hlen2]
          by_cases hz : len = 0
          · subst hz
            exact ⟨#[], by simp [Builtin.firstCells, loadCells, loadCellsFrom], by simp, by simp⟩
          · have hne : (elems.drop lo).take len ≠ [] := by intro e; rw [e] at hlen2; simp at hlen2; omega
            obtain rfl : es' = size := rowlen _ es' hne (fun r hr => k1 r (List.mem_of_mem_drop (List.mem_of_mem_take hr))) hsz
            obtain ⟨cells, c1, c2, c3⟩ := load_rows (P := P) (b := b) (o := lo * es') (n := len) hw h0 (fun i j => (w.cell? ⟨b, (lo + i) * es' + j, none⟩).getD undef) (fun i j hi hj => by
              obtain ⟨u, u1, u2, u3⟩ := g5 (lo + i) j (by omega) hj
              have e : lo * es' + (i * es' + j) = (lo + i) * es' + j := by rw [Nat.add_mul]; omega
              rw [e, u1]; rfl)
            refine ⟨cells, by simpa [Builtin.firstCells] using c1, by rw [hlen2]; exact c2, fun i j hi hj => ?_⟩
            rw [hlen2] at hi
            obtain ⟨u, u1, u2, u3⟩ := g5 (lo + i) j (by omega) hj
            have hget : (((elems.drop lo).take len).getD i []) = elems.getD (lo + i) [] := by
              simp [List.getD_eq_getElem?_getD, List.getElem?_take, hi, List.getElem?_drop]
            rw [c3 i j hi hj, u1, hget]
            exact ⟨u2, u3⟩
        · cases hl
      · cases hl
    · cases h
  | _ => simp [gelems] at h
theorem growBy_le (n : Nat) : ∀ (r c : Nat), Builtin.growBy n r c ≤ (c + 768) * 2 ^ r
  | 0, c => by simp [Builtin.growBy]
  | r + 1, c => by
    unfold Builtin.growBy
    split
    · have : 1 ≤ 2 ^ (r + 1) := Nat.one_le_two_pow
      calc c ≤ (c + 768) * 1 := by omega
        _ ≤ _ := Nat.mul_le_mul_left _ this
    · have h1 := growBy_le n r (c + (c + 768) / 4)
      have h2 : c + (c + 768) / 4 + 768 ≤ (c + 768) * 2 := by omega
      calc _ ≤ (c + (c + 768) / 4 + 768) * 2 ^ r := h1
        _ ≤ (c + 768) * 2 * 2 ^ r := Nat.mul_le_mul_right _ h2
        _ = (c + 768) * 2 ^ (r + 1) := by rw [Nat.pow_succ]; rw [Nat.mul_assoc, Nat.mul_comm 2]
theorem slicecap_le (need cap : Nat) (h : cap < need) : Builtin.nextslicecap need cap ≤ 16 * (need + 768) := by
 unfold Builtin.nextslicecap
 split
 ·omega
 ·split
  ·omega
  ·refine Nat.le_trans (growBy_le need 4 cap) ?_
   have e : (2 : Nat) ^ 4 = 16 := by decide
   rw [e]; omega
theorem cap_ok {need cap bytes : Nat} (h : cap < need) (hb : bytes ≤ 1048576) (hn : need * bytes ≤ 1099511627776) : ¬ Builtin.nextslicecap need cap * bytes > 2 ^ 48 := by
 have h1 := Nat.mul_le_mul_right bytes (slicecap_le need cap h)
 have h2 : 16 * (need + 768) * bytes = 16 * (need * bytes) + 16 * 768 * bytes := by rw [Nat.mul_assoc, Nat.add_mul]; omega
 omega
theorem zsize_run {e : TypeId} {size : Nat} (h : zsize P e = some size) (w : World) : ∃ v, (zeroValue e).run P w = .ok v w ∧ v.cells.size = size := by
 unfold zsize at h
 split at h
 ·rename_i z hz
  split at h
  ·rename_i zs hzs
   simp only [Option.some.injEq] at h
   obtain ⟨v, h1, rfl⟩ := r_zero (P := P) w hz
   have := (cellsO_rel (ofConst_rel (w := w) (S := fun _ => False) (μ := fun _ _ => none) (ℓ := 0) v) hzs).length
   simp at this
   exact ⟨v, h1, by omega⟩
  ·cases h
 ·cases h
theorem spreads_some {t : Option TypeId} (h : spreads P t = true) : ∃ t', t = some t' ∧ ((∃ e, P.underlying t' = some (.slice e)) ∨ P.underlying t' = some .string) := by
 unfold spreads at h
 split at h
 ·rename_i t'
  split at h
  ·exact ⟨t', rfl, .inl ⟨_, ‹_›⟩⟩
  ·exact ⟨t', rfl, .inr ‹_›⟩
  ·cases h
 ·cases h
end
end
section
section
variable {w : World} {S : Nat → Prop} {μ : Mu} {H : Heap} {P : Program} {ℓ : Nat}
theorem append_fits_run {ats : Array TypeId} {ty t e : TypeId} {base : Option Addr} {len cap size : Nat} {vx : Value} {n : Nat} {cells : Array Value} {r : Result Unit}
    (h0 : ats[0]? = some t) (h1 : spreads P ats[1]? = true) (hu : P.underlying t = some (.slice e)) (hs : tsize P e = some size) (hn : (Builtin.lenOf vx).run P w = .ok n w)
    (hc : (Builtin.firstCells size n vx).run P w = .ok cells w) (hfit : len + n ≤ cap) {w' : World}
    (hst : (match base with | some a => storeCells (a.add (len * size)) cells.toList | none => pure ()).run P w = .ok () w') :
    (Builtin.append_ ats ty #[.slice base len cap, vx]).run P w = .ok (.slice base (len + n) cap) w' := by
  obtain ⟨t', h1', h1''⟩ := spreads_some h1
  rcases h1'' with ⟨e', he⟩ | he
  all_goals
    cases base with
    | none =>
      simp at hst; subst hst
      simp [Builtin.append_, h0, h1', r_underlying w hu, r_underlying w he, r_size w hs, hn, hfit, hc]
    | some a =>
      simp only at hst
      simp [Builtin.append_, h0, h1', r_underlying w hu, r_underlying w he, r_size w hs, hn, hfit, hc, hst]
theorem append_grows_run {ats : Array TypeId} {ty t e : TypeId} {base : Option Addr} {len cap size bytes : Nat} {vx : Value} {n : Nat} {old cells : Array Value} {z : Value}
  (h0 : ats[0]? = some t) (h1 : spreads P ats[1]? = true) (hu : P.underlying t = some (.slice e)) (hs : tsize P e = some size) (hb : tbytes P e = some bytes) (hb0 : 0 < bytes) (hb1 : bytes ≤ 1048576)
  (hmax : (len + n) * bytes ≤ 1099511627776) (hn : (Builtin.lenOf vx).run P w = .ok n w)
  (ho : (Builtin.firstCells size len (.slice base len cap)).run P w.drew = .ok old w.drew) (hc : (Builtin.firstCells size n vx).run P w.drew = .ok cells w.drew)
  (hz : (zeroValue e).run P w.drew = .ok z w.drew) (hfit : ¬ len + n ≤ cap) :
  ∃ newCap, len + n ≤ newCap ∧ (Builtin.append_ ats ty #[.slice base len cap, vx]).run P w =
   .ok (.slice (some ⟨w.heap.size, 0, none⟩) (len + n) newCap) (w.drew.alloc (.cells (old ++ cells ++ Builtin.zeroCells z.cells (newCap - (len + n))) e)) := by
 obtain ⟨t', h1', h1''⟩ := spreads_some h1
 obtain ⟨i, hi, rfl⟩ := r_bytes (P := P) w hb
 obtain ⟨i2, hi2, hi2'⟩ := r_bytes (P := P) w.drew hb
 refine ⟨(Question.appendCap (len + n) cap e).cut (w.tape w.drawn (.appendCap (len + n) cap e)), ?_, ?_⟩
 ·simp [Question.cut]
 ·have hbz : i.bytes ≠ 0 := by omega
  have hcap : ¬ Builtin.nextslicecap (len + n) cap * i.bytes > 2 ^ 48 := cap_ok (by omega) hb1 hmax
  have hlim : ¬ ((((len + n : Nat) : Int) > IntKind.i64.max) ∧ (False ∨ i.bytes = 0)) := fun h => by rcases h.2 with h | h; exact h; exact hbz h
  have hdr : ({ w with drawn := w.drawn + 1 } : World) = w.drew := rfl
  rcases h1'' with ⟨e', he⟩ | he
  all_goals
   simp only [Builtin.append_]
   simp [h0, h1', r_underlying w hu, r_underlying w he, r_size w hs, hn, hfit, hi, hbz, hcap, Question.forced, hdr, hi2, ho, hc, hz, newRow]
theorem zeroCells_size (z : Array Value) (n : Nat) : (Builtin.zeroCells z n).size = n * z.size := by simp [Builtin.zeroCells]
theorem HRel.drew (hH : HRel w S μ H) : HRel w.drew S μ H ∧ Ev ℓ w S μ w.drew S μ := by
 have hw : ∀ b : Nat, w.drew.heap[b]? = w.heap[b]? := fun _ => rfl
 refine ⟨⟨fun n b hb t0 b0 hb0 => (hH.blk n b hb t0 b0 hb0).mono (fun _ h => h) (fun b _ => hw b) (fun _ _ h => h) (fun _ _ _ _ h => h) (fun _ => rfl) (fun _ b _ => hw b) (fun _ _ _ h => h), hH.bnd, hH.disj, hH.lt, hH.slt⟩, ?_⟩
 exact ⟨rfl, rfl, rfl, Nat.le_refl _, fun _ h => h, fun b _ _ => hw b, fun _ _ h => h, fun b r h => ⟨r, h⟩, fun _ _ _ _ h => h, fun n t b h _ => ⟨n, t, h⟩, fun _ h _ => .inl h⟩
theorem getD_append_left {α : Type} (a b : Array α) (i : Nat) (d : α) (h : i < a.size) : (a ++ b).getD i d = a.getD i d := by
 simp [Array.getD_eq_getD_getElem?, Array.getElem?_append, h]
theorem getD_append_right {α : Type} (a b : Array α) (i : Nat) (d : α) (h : a.size ≤ i) : (a ++ b).getD i d = b.getD (i - a.size) d := by
 simp [Array.getD_eq_getD_getElem?, Array.getElem?_append, Nat.not_lt.2 h]
theorem append_new {nm : Nm} {es vf n cap : Nat} {elems xs : List (List PV)} {c : Array Value} {e : TypeId} (hH : HRel w S μ H) (hg : H.get nm = some (.arr es elems vf false)) {t0 b0 : Nat} (hb0 : μ nm t0 = some b0) (hvf : vf ≤ elems.length)
  (hrows : ∀ r ∈ xs, r.length = es) (hn : elems.length + xs.length = n) (hx : 0 < xs.length) (hcap : n ≤ cap) (hsz : cap * es ≤ c.size)
  (hc : ∀ i j, i < n → j < es → (c.getD (i * es + j) undef).oneCell' = true ∧ PRep w S (c.getD (i * es + j) undef) (((elems ++ xs).getD i []).getD j .dead)) :
  ∃ μ', VRel (w.alloc (.cells c e)) S μ' nm.1 (.slice (some ⟨w.heap.size, 0, none⟩) n cap) (.hdr nm es n 0 n) ∧ HRel (w.alloc (.cells c e)) S μ' (H.set nm (.arr es (elems ++ xs) vf false)) ∧
   Ev ℓ w S μ (w.alloc (.cells c e)) S μ' := by
 obtain ⟨h0, k1, k2, k3, k4⟩ := hH.blk _ _ hg _ _ hb0
 have hno : ∀ b, μ nm n ≠ some b := fun b hb => by have := (k4 n b hb).1; omega
 obtain ⟨h1, h2⟩ := hH.turn ℓ (Heap.get_lt hg) (w' := w.alloc (.cells c e)) (S' := S) (μ' := μ.upd nm n w.heap.size) (x := .arr es (elems ++ xs) vf false) rfl rfl rfl (by rw [alloc_size]; omega)
  (fun _ h => h) (fun b h => .inl h) (fun b h => by have := hH.slt b h; rw [alloc_size]; omega) (fun k hk _ => alloc_heap w _ k hk) (alloc_shp w _) (alloc_lp w _) (fun q t h => Mu.upd_other μ _ _ _ h)
  (fun t b h => by
   by_cases et : t = n
   ·subst et; exact absurd h (hno b)
   ·rw [Mu.upd_top μ _ _ et]; exact h)
  (fun t b h => by
   by_cases et : t = n
   ·subst et; rw [Mu.upd_self] at h; cases h; exact .inr (Nat.le_refl _)
   ·rw [Mu.upd_top μ _ _ et] at h; exact .inl ⟨t, h⟩)
  (fun t b h => by
   by_cases et : t = n
   ·subst et; rw [Mu.upd_self] at h; cases h; rw [alloc_size]; omega
   ·rw [Mu.upd_top μ _ _ et] at h; have := hH.lt _ _ _ h; rw [alloc_size]; omega)
  (by
   refine ⟨h0, fun r hr => ?_, by simp; omega, ⟨w.heap.size, by rw [List.length_append, hn]; exact Mu.upd_self _ _ _ _⟩, fun top b hb => ?_⟩
   ·rcases List.mem_append.1 hr with hr | hr
    ·exact k1 r hr
    ·exact hrows r hr
   ·by_cases et : top = n
    ·subst et
     rw [Mu.upd_self] at hb; cases hb
     refine ⟨by rw [List.length_append]; omega, ⟨c, e, alloc_new w _⟩, fun _ hS => ?_, fun _ => ⟨fun h => (by cases h), fun i j hi hj => ?_⟩⟩
     ·have := hH.slt _ hS; omega
     ·obtain ⟨z1, z2⟩ := hc i j hi hj
      have hlt : i * es + j < c.size := by have := rows_lt (n := cap) (show i < cap by omega) hj; omega
      refine ⟨c.getD (i * es + j) undef, ?_, z1, z2.mono (fun _ h => h) (fun b hb => alloc_heap w _ b (hH.slt b hb))⟩
      simp only [World.cell?, alloc_new]
      simp [Array.getD_eq_getD_getElem?, hlt]
    ·rw [Mu.upd_top μ _ _ et] at hb
     obtain ⟨g1, ⟨c2, e2, g2⟩, g3, g4⟩ := k4 top b hb
     refine ⟨by rw [List.length_append]; omega, ⟨c2, e2, by rw [alloc_heap w _ b (hH.lt _ _ _ hb)]; exact g2⟩, g3, fun hv => ⟨fun h => (by cases h), fun i j hi hj => ?_⟩⟩
     obtain ⟨u, u1, u2, u3⟩ := (g4 hv).2 i j hi hj
     have e3 : (elems ++ xs).getD i [] = elems.getD i [] := by
      simp [List.getD_eq_getElem?_getD, List.getElem?_append_left (show i < elems.length by omega)]
     exact ⟨u, by rw [cell_of_heap (alloc_heap w _ b (hH.lt _ _ _ hb))]; exact u1, u2, by rw [e3]; exact u3.mono (fun _ h => h) (fun b hb => alloc_heap w _ b (hH.slt b hb))⟩)
 refine ⟨_, ?_, h1, h2⟩
 have := VRel.hdr (w := w.alloc (.cells c e)) (S := S) (μ := μ.upd nm n w.heap.size) (ℓ := nm.1) nm es n 0 n cap w.heap.size c.size e
  (Nat.le_refl _) (Mu.upd_self _ _ _ _) hcap (by omega) (by unfold World.shape?; rw [alloc_new]) (by rw [Nat.zero_add]; exact hsz)
 rw [Nat.zero_mul] at this
 exact this
theorem append_room {nm : Nm} {es vf cap b sz : Nat} {ek : TypeId} {elems xs : List (List PV)} {cells : Array Value} (hH : HRel w S μ H) (hg : H.get nm = some (.arr es elems vf false)) (hvf : vf ≤ elems.length)
  (hrows : ∀ r ∈ xs, r.length = es) (hx : 0 < xs.length) (hm : μ nm elems.length = some b) (hcap : elems.length + xs.length ≤ cap) (hsh : w.shape? b = some (ek, sz)) (hsz : cap * es ≤ sz)
  (hc : RowsAt w S cells xs es) :
  ∃ w' μ', (storeCells (⟨b, elems.length * es, none⟩ : Addr) cells.toList).run P w = .ok () w' ∧
   VRel w' S μ' nm.1 (.slice (some ⟨b, 0, none⟩) (elems.length + xs.length) cap) (.hdr nm es (elems.length + xs.length) 0 (elems.length + xs.length)) ∧
   HRel w' S μ' (H.set nm (.arr es (elems ++ xs) vf false)) ∧ Ev ℓ w S μ w' S μ' := by
 obtain ⟨h0, k1, k2, k3, k4⟩ := hH.blk _ _ hg _ _ hm
 obtain ⟨g1, ⟨c, e, g2⟩, g3, g4⟩ := k4 _ b hm
 have hnS := g3 rfl
 have hcs : c.size = sz := by unfold World.shape? at hsh; rw [g2] at hsh; simp at hsh; exact hsh.2
 have hbnd : elems.length * es + cells.toList.length ≤ c.toList.length := by
  have h1 := hc.1
  have h2 : (elems.length + xs.length) * es ≤ cap * es := Nat.mul_le_mul_right _ hcap
  rw [Nat.add_mul] at h2
  simp; omega
 have hone : ∀ v ∈ cells.toList, v.oneCell' = true := by
  intro v hv
  obtain ⟨q, hq, rfl⟩ := List.getElem_of_mem hv
  have hq' : q < xs.length * es := by have := hc.1; simp at hq; omega
  have h1 : q / es < xs.length := by rw [Nat.div_lt_iff_lt_mul h0]; exact hq'
  have := (hc.2 _ _ h1 (Nat.mod_lt q h0)).1
  rw [Nat.div_add_mod' q es, agetD, List.getD_eq_getElem?_getD, List.getElem?_eq_getElem hq] at this
  exact this
 have hst := run_storeCells_at (P := P) b (elems.length * es) e cells.toList 0 c w g2 (by simpa using hbnd) hone
 simp only [Nat.add_zero] at hst
 have hsize : (splice c.toList (elems.length * es) cells.toList).toArray.size = c.size := by
  simp only [List.size_toArray]; rw [splice_length _ _ _ hbnd]; simp
 have hno : ∀ b', μ nm (elems.length + xs.length) = some b' → b' = b := fun b' hb => by have := (k4 _ b' hb).1; omega
 have := hH.row ℓ (x := .arr es (elems ++ xs) vf false) (Heap.get_lt hg) hm hnS g2 hsize (elems.length + xs.length) (by
  have cellc : ∀ o, (w.setRow b (splice c.toList (elems.length * es) cells.toList).toArray).cell? ⟨b, o, none⟩ = (splice c.toList (elems.length * es) cells.toList)[o]? := fun o => by
   rw [cell_setRow_same w b _ c _ e (0, 0) g2]; simp
  have old : ∀ top b', μ nm top = some b' → vf ≤ top → ∀ i j, i < top → j < es → ∃ u, (w.setRow b (splice c.toList (elems.length * es) cells.toList).toArray).cell? ⟨b', i * es + j, none⟩ = some u ∧ u.oneCell' = true ∧
    PRep (w.setRow b (splice c.toList (elems.length * es) cells.toList).toArray) S u (((elems ++ xs).getD i []).getD j .dead) := by
   intro top b' hb' hv i j hi hj
   obtain ⟨q1, q2, q3, q4⟩ := k4 top b' hb'
   obtain ⟨u, u1, u2, u3⟩ := (q4 hv).2 i j hi hj
   have e3 : (elems ++ xs).getD i [] = elems.getD i [] := by
    simp [List.getD_eq_getElem?_getD, List.getElem?_append_left (show i < elems.length by omega)]
   rw [e3]
   refine ⟨u, ?_, u2, u3.setRow hnS _⟩
   by_cases eb : b' = b
   ·subst eb
    have hlt : i * es + j < elems.length * es := rows_lt (by omega) hj
    rw [cellc, splice_get _ _ _ _ hbnd, if_pos hlt]
    simpa [World.cell?, g2] using u1
   ·rw [cell_setRow_other w b _ _ (by exact eb)]; exact u1
  refine ⟨h0, fun r hr => ?_, by simp; omega, ⟨b, by rw [List.length_append]; exact Mu.upd_self _ _ _ _⟩, fun top b' hb' => ?_⟩
  ·rcases List.mem_append.1 hr with hr | hr
   ·exact k1 r hr
   ·exact hrows r hr
  ·by_cases et : top = elems.length + xs.length
   ·subst et
    rw [Mu.upd_self] at hb'; cases hb'
    refine ⟨by rw [List.length_append]; exact Nat.le_refl _, ⟨_, e, setRow_heap w b c _ e _ g2⟩, fun _ => hnS, fun _ => ⟨fun h => (by cases h), fun i j hi hj => ?_⟩⟩
    by_cases hio : i < elems.length
    ·exact old _ b hm hvf i j hio hj
    ·have hix : i - elems.length < xs.length := by omega
     obtain ⟨z1, z2⟩ := hc.2 (i - elems.length) j hix hj
     have e3 : (elems ++ xs).getD i [] = xs.getD (i - elems.length) [] := by
      simp [List.getD_eq_getElem?_getD, List.getElem?_append_right (show elems.length ≤ i by omega)]
     have hidx : i * es + j = elems.length * es + ((i - elems.length) * es + j) := by
      have : i = elems.length + (i - elems.length) := by omega
      rw [this, Nat.add_mul]
      simp; omega
     have hlt := rows_lt (n := xs.length) hix hj
     have hq : (i - elems.length) * es + j < cells.toList.length := by have := hc.1; simp; omega
     rw [e3, cellc, splice_get _ _ _ _ hbnd, if_neg (by omega), if_pos (by omega)]
     have e4 : i * es + j - elems.length * es = (i - elems.length) * es + j := by omega
     rw [e4]
     rw [agetD, List.getD_eq_getElem?_getD, List.getElem?_eq_getElem hq] at z1 z2
     exact ⟨_, List.getElem?_eq_getElem hq, z1, z2.setRow hnS _⟩
   ·rw [Mu.upd_top μ _ _ et] at hb'
    obtain ⟨q1, ⟨c2, e2, q2⟩, q3, q4⟩ := k4 top b' hb'
    refine ⟨by rw [List.length_append]; omega, ?_, q3, fun hv => ⟨fun h => (by cases h), old top b' hb' hv⟩⟩
    by_cases eb : b' = b
    ·subst eb; exact ⟨_, e, setRow_heap w b' c _ e _ g2⟩
    ·exact ⟨c2, e2, by rw [setRow_other w b b' _ eb]; exact q2⟩) hno
 refine ⟨_, _, by simpa [splice] using hst, ?_, this.1, this.2⟩
 have hv := VRel.hdr (w := w.setRow b (splice c.toList (elems.length * es) cells.toList).toArray) (S := S) (μ := μ.upd nm (elems.length + xs.length) b) (ℓ := nm.1) nm es (elems.length + xs.length) 0 (elems.length + xs.length) cap b sz ek
  (Nat.le_refl _) (Mu.upd_self _ _ _ _) hcap (by omega) (setRow_shp w b c _ e (0, 0) g2 hsize b _ hsh) (by rw [Nat.zero_add]; exact hsz)
 rw [Nat.zero_mul] at hv
 simpa [splice] using hv
end
end
section
section
variable {w : World} {S : Nat → Prop} {μ : Mu} {H : Heap} {P : Program} {ℓ : Nat}
theorem rows_three {old cells z : Array Value} {xs ys : List (List PV)} {size : Nat} (ho : RowsAt w S old xs size) (hc : RowsAt w S cells ys size) :
  ∀ i j, i < xs.length + ys.length → j < size → ((old ++ cells ++ z).getD (i * size + j) undef).oneCell' = true ∧ PRep w S ((old ++ cells ++ z).getD (i * size + j) undef) (((xs ++ ys).getD i []).getD j .dead) := by
 intro i j hi hj
 have h1 := ho.1
 have h2 := hc.1
 by_cases c1 : i < xs.length
 ·have hlt := rows_lt (n := xs.length) c1 hj
  rw [getD_append_left _ _ _ _ (by simp; omega), getD_append_left _ _ _ _ (by omega)]
  have e3 : (xs ++ ys).getD i [] = xs.getD i [] := by simp [List.getD_eq_getElem?_getD, List.getElem?_append_left c1]
  rw [e3]; exact ho.2 i j c1 hj
 ·have hix : i - xs.length < ys.length := by omega
  have hlt := rows_lt (n := ys.length) hix hj
  have hidx : i * size + j = xs.length * size + ((i - xs.length) * size + j) := by
   have : i = xs.length + (i - xs.length) := by omega
   rw [this, Nat.add_mul]
   simp; omega
  rw [getD_append_left _ _ _ _ (by simp; omega), getD_append_right _ _ _ _ (by omega)]
  have e3 : (xs ++ ys).getD i [] = ys.getD (i - xs.length) [] := by simp [List.getD_eq_getElem?_getD, List.getElem?_append_right (show xs.length ≤ i by omega)]
  have e4 : i * size + j - old.size = (i - xs.length) * size + j := by omega
  rw [e3, e4]; exact hc.2 _ j hix hj
theorem gappend_sound (K : Ctx) {k l key : Nat} {t : TypeId} {s x : GV} {vs vx : Value} {v : GV} {H' : Heap} {ats : Array TypeId} {ty : TypeId} (hH : HRel w S μ H) (hs : VRel w S μ k vs s) (hx : VRel w S μ k vx x)
    (hk : k = H.length - 1) (h0 : ats[0]? = some t) (h1 : spreads K.P ats[1]? = true) (h : gappend K H l key t s x = some (v, H')) :
    OpOk ℓ w S μ H ((do pure (Next.value (← Builtin.append_ ats ty #[vs, vx])) : Sem Next).run K.P w) v H' := by
  unfold gappend at h
  split at h
  · rename_i e hu0
    have hu := telem_some hu0
    split at h
    · rename_i size bytes xs H1 hsz hby hge
      split at h
      · rename_i hcond
        simp only [Bool.and_eq_true, decide_eq_true_eq, List.all_eq_true, beq_iff_eq] at hcond
        obtain ⟨⟨⟨⟨hzs, hrows⟩, hpos⟩, hb0⟩, hb1⟩ := hcond
        obtain ⟨S1, a1, a2, a3, a4, a5⟩ := gelems_sound ℓ (P := K.P) hH hx hge hpos hrows
        have hlen1 : H1.length = H.length := a3.1
        obtain ⟨cells, c1, c2⟩ := a5 w rfl
        split at h
        ·
          cases hs with | nils a =>
          split at h
          · rename_i hmax
            split at h
            · rename_i hemp
              simp only [Option.some.injEq, Prod.mk.injEq] at h
              obtain ⟨rfl, rfl⟩ := h
              obtain rfl : xs = [] := by simpa using hemp
              have hcz : cells = #[] := Array.eq_empty_of_size_eq_zero (by simpa using c2.1)
              subst hcz
              have hst : (match a with | some a => storeCells (a.add (0 * size)) (#[] : Array Value).toList | none => pure ()).run K.P w = .ok () w := by
                cases a <;> simp [storeCells]
              have := append_fits_run (ty := ty) h0 h1 hu hsz (a4 w) c1 (Nat.le_refl 0) hst (r := .ok () w)
              simp only [List.length_nil, Nat.add_zero] at this
              exact ⟨_, _, w, S1, μ, by simp [this], .inl rfl, .nils a, a1, a2, hlen1⟩
            · rename_i hemp
              have hx0 : 0 < xs.length := by cases xs; simp at hemp; simp
              split at h
              · rename_i nm H2 hnew
                simp only [Option.some.injEq, Prod.mk.injEq] at h
                obtain ⟨rfl, rfl⟩ := h
                obtain ⟨z, z1, z2⟩ := zsize_run hzs w.drew
                obtain ⟨cells2, d1, d2⟩ := a5 w.drew rfl
                have hold : (Builtin.firstCells size 0 (.slice a 0 0)).run K.P w.drew = .ok #[] w.drew := by cases a <;> simp [Builtin.firstCells, loadCells, loadCellsFrom]
                obtain ⟨newCap, n1, n2⟩ := append_grows_run (ty := ty) (cap := 0) (len := 0) h0 h1 hu hsz hby hb0 hb1 (by simpa using hmax) (a4 w) hold d1 z1 (by omega)
                obtain ⟨b1, b2⟩ := a1.drew (ℓ := ℓ)
                have hthree := rows_three (w := w) (S := S1) (old := #[]) (z := Builtin.zeroCells z.cells (newCap - (0 + xs.length))) (xs := []) ⟨by simp, by simp⟩ d2
                obtain ⟨μ', e1, e2, e3, e4⟩ := new_row (ℓ := ℓ) (c := #[] ++ cells2 ++ Builtin.zeroCells z.cells (newCap - (0 + xs.length))) (e := e) (n := xs.length) (cap := newCap) b1 hnew hpos hrows rfl (by omega)
                  (by simp only [Array.size_append, zeroCells_size, z2, d2.1, Array.size_empty]
                      have : newCap = xs.length + (newCap - (0 + xs.length)) := by omega
                      rw [this, Nat.add_mul]; simp) (fun i j hi hj => by
                        have := hthree i j (by simpa using hi) hj
                        simp only [List.nil_append] at this
                        have h9 : ∀ {u p}, PRep w S1 u p → PRep w.drew S1 u p := fun h => PRep.mono (w := w) (w' := w.drew) (fun _ h => h) (fun _ _ => rfl) h
                        exact ⟨this.1, h9 this.2⟩)
                simp only [Nat.zero_add] at n2 e1 e2 e3
                exact ⟨_, _, _, S1, μ', by simp [n2], .inl rfl, e1, e2, (a2.trans b2).trans e3, by omega⟩
              · cases h
          · cases h
        ·
          rename_i nm es top lo len
          cases hs with
          | hdr _ _ _ _ _ cap b n ek q1 q2 q3 q4 q5 q6 =>
          split at h
          · rename_i es' elems vf ro hg
            split at h
            · rename_i hcond2
              obtain ⟨rfl, rfl, rfl, rfl, rfl, hvf, rfl, hmax⟩ := hcond2
              obtain ⟨h00, k1, k2, k3, k4⟩ := a1.blk _ _ hg _ _ q2
              obtain ⟨g1, ⟨c0, e0, g2⟩, g3, g4⟩ := k4 _ b q2
              split at h
              · rename_i hemp
                simp only [Option.some.injEq, Prod.mk.injEq] at h
                obtain ⟨rfl, rfl⟩ := h
                obtain rfl : xs = [] := by simpa using hemp
                have hcz : cells = #[] := Array.eq_empty_of_size_eq_zero (by simpa using c2.1)
                subst hcz
                have := append_fits_run (ty := ty) (base := some ⟨b, 0 * es, none⟩) h0 h1 hu hsz (a4 w) c1 (by simpa using q3) (by simp [storeCells]; rfl) (r := .ok () w)
                simp only [List.length_nil, Nat.add_zero] at this
                refine ⟨_, _, w, S1, μ, by simp only [Sem.run_bind, this, Result.andThen_ok]; rfl, .inl rfl, ?_, a1, a2, hlen1⟩
                have hv := VRel.hdr (w := w) (S := S1) (μ := μ) (ℓ := H1.length - 1) nm es elems.length 0 elems.length cap b n ek (by omega) q2 q3 q4 q5 q6
                exact hv
              · rename_i hemp
                have hx0 : 0 < xs.length := by cases xs; simp at hemp; simp
                simp only [Option.some.injEq, Prod.mk.injEq] at h
                obtain ⟨rfl, rfl⟩ := h
                by_cases hfit : elems.length + xs.length ≤ cap
                · obtain ⟨w', μ', r1, r2, r3, r4⟩ := append_room (ℓ := ℓ) (P := K.P) a1 hg hvf hrows hx0 q2 hfit q5 (by simpa using q6) c2
                  have := append_fits_run (ty := ty) (base := some ⟨b, 0 * es, none⟩) (len := elems.length) (cap := cap) h0 h1 hu hsz (a4 w) c1 hfit (w' := w')
                    (by simp only [Nat.zero_mul]; rw [add_none, Nat.zero_add]; exact r1) (r := .ok () w)
                  refine ⟨_, _, w', S1, μ', by simp only [Sem.run_bind, this, Result.andThen_ok]; rfl, .inl rfl, ?_, r3, a2.trans r4, by rw [Heap.length_set]; exact hlen1⟩
                  rw [Nat.zero_mul]
                  exact r2.up (by rw [Heap.length_set]; have := Heap.get_lt hg; omega)
                · obtain ⟨z, z1, z2⟩ := zsize_run hzs w.drew
                  obtain ⟨cells2, d1, d2⟩ := a5 w.drew rfl
                  obtain ⟨_, g5⟩ := g4 hvf
                  obtain ⟨old, o1, o2, o3⟩ := load_rows (w := w) (w2 := w.drew) (P := K.P) (b := b) (o := 0 * es) (n := elems.length) rfl hpos (fun i j => (w.cell? ⟨b, i * es + j, none⟩).getD undef) (fun i j hi hj => by
                    obtain ⟨u, u1, u2, u3⟩ := g5 i j hi hj
                    rw [Nat.zero_mul, Nat.zero_add, u1]; rfl)
                  have hor : RowsAt w S1 old elems es := ⟨o2, fun i j hi hj => by
                    obtain ⟨u, u1, u2, u3⟩ := g5 i j hi hj
                    rw [o3 i j hi hj, u1]; exact ⟨u2, u3⟩⟩
                  obtain ⟨newCap, n1, n2⟩ := append_grows_run (ty := ty) (base := some ⟨b, 0 * es, none⟩) (cap := cap) (len := elems.length) h0 h1 hu hsz hby hb0 hb1 hmax (a4 w) (by simpa [Builtin.firstCells] using o1) d1 z1 hfit
                  obtain ⟨b1, b2⟩ := a1.drew (ℓ := ℓ)
                  have hthree := rows_three (z := Builtin.zeroCells z.cells (newCap - (elems.length + xs.length))) hor d2
                  obtain ⟨μ', e1, e2, e3⟩ := append_new (ℓ := ℓ) (c := old ++ cells2 ++ Builtin.zeroCells z.cells (newCap - (elems.length + xs.length))) (e := e) (n := elems.length + xs.length) (cap := newCap) b1 hg q2 hvf hrows rfl hx0 n1
                    (by simp only [Array.size_append, zeroCells_size, z2, d2.1, o2]
                        have : newCap = elems.length + xs.length + (newCap - (elems.length + xs.length)) := by omega
                        rw [this, Nat.add_mul, Nat.add_mul]; simp) (fun i j hi hj => by
                          have := hthree i j hi hj
                          exact ⟨this.1, PRep.mono (w := w) (w' := w.drew) (fun _ h => h) (fun _ _ => rfl) this.2⟩)
                  refine ⟨_, _, _, S1, μ', by simp only [Sem.run_bind, n2, Result.andThen_ok]; rfl, .inl rfl, ?_, e2, (a2.trans b2).trans e3, by rw [Heap.length_set]; exact hlen1⟩
                  exact e1.up (by rw [Heap.length_set]; have := Heap.get_lt hg; omega)
            · cases h
          · cases h
        · cases h
      · cases h
    · cases h
  · cases h
theorem ownLit_sound {t e : TypeId} {len size d : Nat} {parts : Array (Nat × Operand)} {a : Act} {s : Slots} {z : GV} {zs cs : List GV} {ps : List PV} {nm : Nm} {H' : Heap} (hH : HRel w S μ H)
  (hs : ∀ t, VRel w S μ (H.length - 1) (a.tmps.getD t undef) (look s t)) (hu : telem P t = some e) (hsz : tsize P e = some size) (hz : tzero P e = some z) (hzc : cellsO z = some zs)
  (hzl : zs.length = size) (hpos : 0 < size) (hmax : len * size ≤ 16777216)
  (h : gfill (fun i => some (i * size, size)) (List.replicate len zs).flatten (parts.toList.map (evp s)) = some cs) (hp : allPure (cs.map canon1) = some ps)
  (hnew : gnew H d (.arr size (chunks size len ps) 0 false) = some (nm, H')) :
  OpOk ℓ w S μ H ((do pure (Next.value (← Instr.buildSlice t len (parts.map fun x => (x.1, a.eval x.2)))) : Sem Next).run P w) (.hdr nm size len 0 len) H' := by
 obtain ⟨c, h1, h2, h3⟩ := buildSlice_run hH hs hu hsz hz hzc hzl hpos hmax h
 have h1' := canon1_cells h1
 rw [allPure_some hp] at h1'
 obtain ⟨q1, q2⟩ := CRel.pures _ _ h1'
 have hpl : ps.length = len * size := by have := h1.length; simp at q1 this; omega
 have hck : c.size = len * size := by simp at q1; omega
 obtain ⟨μ', e1, e2, e3, e4⟩ := new_row (ℓ := ℓ) (c := c) (e := e) (n := len) (cap := len) hH hnew hpos (chunks_mem hpl) (chunks_length _ _ _) (Nat.le_refl _) (by omega) (fun i j hi hj => by
  have hlt := rows_lt hi hj
  rw [agetD, chunks_cell PV.dead i j hi hj]
  exact q2 _ (by omega))
 exact ⟨_, _, _, S, μ', by simp [h3], .inl rfl, e1, e2, e3, e4⟩
theorem ownLits_sound {t e : TypeId} {len size d : Nat} {parts : Array (Nat × Operand)} {a : Act} {s : Slots} {z : GV} {zs cs : List GV} {nm : Nm} {H' : Heap} (hH : HRel w S μ H)
  (hs : ∀ t, VRel w S μ (H.length - 1) (a.tmps.getD t undef) (look s t)) (hu : telem P t = some e) (hsz : tsize P e = some size) (hz : tzero P e = some z) (hzc : cellsO z = some zs)
  (hzl : zs.length = size) (hpos : 0 < size) (hmax : len * size ≤ 16777216)
  (h : gfill (fun i => some (i * size, size)) (List.replicate len zs).flatten (parts.toList.map (evp s)) = some cs)
  (hnew : gnew (pureCells H cs).2 d (.arr size (chunks size len (pureCells H cs).1) 0 false) = some (nm, H')) :
  OpOk ℓ w S μ H ((do pure (Next.value (← Instr.buildSlice t len (parts.map fun x => (x.1, a.eval x.2)))) : Sem Next).run P w) (.hdr nm size len 0 len) H' := by
 obtain ⟨c, h1, h2, h3⟩ := buildSlice_run hH hs hu hsz hz hzc hzl hpos hmax h
 obtain ⟨S1, a1, a2, a3, a4⟩ := pureCells_rel ℓ hH h1
 generalize hps : (pureCells H cs).1 = ps at a3 hnew
 obtain ⟨q1, q2⟩ := CRel.pures _ _ a3
 have hcl := h1.length
 have hpl : ps.length = len * size := by simp at q1 hcl; omega
 have hck : c.size = len * size := by simp at q1; omega
 obtain ⟨μ', e1, e2, e3, e4⟩ := new_row (ℓ := ℓ) (c := c) (e := e) (n := len) (cap := len) a1 hnew hpos (chunks_mem hpl) (chunks_length _ _ _) (Nat.le_refl _) (by omega) (fun i j hi hj => by
  have hlt := rows_lt hi hj
  rw [agetD, chunks_cell PV.dead i j hi hj]
  exact q2 _ (by omega))
 exact ⟨_, _, _, S1, μ', by simp [h3], .inl rfl, e1, e2, a2.trans e3, e4.trans a4.1⟩
theorem wrap_small {n : Int} (h0 : 0 ≤ n) (h1 : n ≤ 1099511627776) : IntKind.i64.wrap n = n := by
 simp only [IntKind.wrap, IntKind.signed, IntKind.bits]
 simp
 omega
theorem makeSlice_sound {t e : TypeId} {size bytes d : Nat} {z : GV} {zs : List GV} {ps : List PV} {l c : Int} {kl kc : IntKind} {nm : Nm} {H' : Heap} (hH : HRel w S μ H)
  (hu : telem P t = some e) (hsz : tsize P e = some size) (hby : tbytes P e = some bytes) (hz : tzero P e = some z) (hzc : cellsO z = some zs) (hp : allPure (zs.map canon1) = some ps)
  (hpl : ps.length = size) (hpos : 0 < size) (hb0 : 0 < bytes) (hl0 : 0 ≤ l) (hlc : l ≤ c) (hcb : c * bytes ≤ 1099511627776)
  (hnew : gnew H d (.arr size (List.replicate l.toNat ps) 0 false) = some (nm, H')) :
  OpOk ℓ w S μ H ((do pure (Next.value (← Instr.makeSlice t (.int kl l) (.int kc c))) : Sem Next).run P w) (.hdr nm size l.toNat 0 l.toNat) H' := by
 obtain ⟨v, hv1, rfl⟩ := r_zero (P := P) w hz
 have hc := cellsO_rel (ofConst_rel (w := w) (S := S) (μ := μ) (ℓ := H.length - 1) v) hzc
 have hc' := canon1_cells hc
 rw [allPure_some hp] at hc'
 obtain ⟨q1, q2⟩ := CRel.pures _ _ hc'
 have hvl : v.cells.size = size := by simp at q1; omega
 obtain ⟨i, hi, rfl⟩ := r_bytes (P := P) w hby
 have hcmax : c ≤ 1099511627776 := by
  have : c * 1 ≤ c * (i.bytes : Int) := Int.mul_le_mul_of_nonneg_left (by omega) (by omega)
  omega
 have hw1 : IntKind.i64.wrap l = l := wrap_small hl0 (by omega)
 have hw2 : IntKind.i64.wrap c = c := wrap_small (by omega) hcmax
 have htl : ¬ ((281474976710656 : Int) < (i.bytes : Int) * c) := by rw [Int.mul_comm]; omega
 have hcells : ((Array.range (c.toNat * size)).map (v.cells[· % v.cells.size]!)).toList = (List.replicate c.toNat v.cells.toList).flatten := by rw [← hvl]; exact mod_range v.cells c.toNat
 have hrun : ∃ cs : Array Value, cs.toList = (List.replicate c.toNat v.cells.toList).flatten ∧
   (Instr.makeSlice t (.int kl l) (.int kc c)).run P w = .ok (.slice (some ⟨w.heap.size, 0, none⟩) l.toNat c.toNat) (w.alloc (.cells cs e)) := by
  by_cases h0 : c.toNat * size = 0
  ·have hc0 : c.toNat = 0 := by rcases Nat.mul_eq_zero.1 h0 with h | h <;> omega
   have e0 : ∀ f : Nat → Value, Array.map f (Array.range 0) = #[] := fun f => Array.eq_empty_of_size_eq_zero (by simp)
   have hci : c = 0 := by omega
   have hli : l = 0 := by omega
   subst hci; subst hli
   refine ⟨#[], by simp, ?_⟩
   have hwz : IntKind.i64.wrap 0 = 0 := hw1
   simp [Instr.makeSlice, r_underlying w (telem_some hu), asInt, asIntOf, hi, hwz, r_size w hsz, newRow, e0]
  ·refine ⟨_, hcells, ?_⟩
   have hlt : ¬ l < 0 := by omega
   have hlc' : ¬ l > c := by omega
   have hcn : ¬ c < 0 := by omega
   simp only [Nat.mul_eq_zero] at h0
   simp [Instr.makeSlice, r_underlying w (telem_some hu), asInt, asIntOf, hi, hw1, hw2, hlt, hlc', hcn, htl, r_size w hsz, hv1, newRow, h0]
   intro hh; exact absurd (Nat.mul_eq_zero.1 hh) h0
 obtain ⟨cs, cs1, cs2⟩ := hrun
 have hcsz : cs.size = c.toNat * size := by have := congrArg List.length cs1; simp [List.length_flatten, hvl] at this; exact this
 obtain ⟨μ', e1, e2, e3, e4⟩ := new_row (ℓ := ℓ) (c := cs) (e := e) (n := l.toNat) (cap := c.toNat) hH hnew hpos (fun r hr => by rw [(List.mem_replicate.1 hr).2]; exact hpl) (by simp) (by omega) (by omega) (fun i' j hi' hj => by
  have hget : cs.getD (i' * size + j) undef = v.cells.toList.getD j undef := by
   have hlt := rows_lt (n := c.toNat) (show i' < c.toNat by omega) hj
   have hin : i' * size + j < ((Array.range (c.toNat * size)).map (v.cells[· % v.cells.size]!)).toList.length := by simpa using hlt
   obtain ⟨d1, d2⟩ := div_row (i := i') hj
   rw [agetD, cs1, ← hcells, List.getD_eq_getElem?_getD, List.getElem?_eq_getElem hin]
   simp [hvl, d2, List.getD_eq_getElem?_getD]
   rw [Array.getElem?_eq_getElem (show j < v.cells.size by omega)]
   simp [getElem!_pos, show j < v.cells.size by omega]
  have hrow : (List.replicate l.toNat ps).getD i' [] = ps := by simp [List.getD_eq_getElem?_getD, List.getElem?_replicate, hi']
  rw [hget, hrow]
  exact q2 j (by omega))
 exact ⟨_, _, _, S, μ', by simp [cs2], .inl rfl, e1, e2, e3, e4⟩
end
end
section
def scalV : PV → Value
 | .int k n => .int k n
 | .bool b => .bool b
 | .str l => .string ⟨l.toArray⟩
 | _ => undef
def EqOk (P : Program) (t : TypeId) (ks : List SK) : Prop :=
 P.eqGuardType P.depth t = false ∧ ∀ (a b : List PV) (q : Bool), eqRow ks a b = some q → ∀ w, (Op.equalIn 10000 t (.agg (a.map scalV).toArray) (.agg (b.map scalV).toArray)).run P w = .ok q w ∧
  ∀ e, (Instr.checkKey e 10000 t (.agg (a.map scalV).toArray)).run P w = .ok () w
def CloneOk (P : Program) (f : FuncId) : Prop :=
 ∀ (w : World) (a : Option Addr) (cap : Nat), (callFunc f #[.slice a 0 cap]).run P w = .ok (.enter f #[.slice a 0 cap]) w ∧
  CallsIn { Fence.wide with round := none } 0 P f #[.slice a 0 cap] w fun e w' => (∃ a', e = .returned (.slice a' 0 0)) ∧ w'.os = w.os ∧ w'.tape = w.tape ∧ w'.output = w.output ∧ w.heap.size ≤ w'.heap.size ∧
   ∀ b, b < w.heap.size → w'.heap[b]? = w.heap[b]?
structure CtxOk (K : Ctx) : Prop where
 cln : ∀ f, K.cln f = true → CloneOk K.P f
 eqs : ∀ t ks, K.eqs t = some ks → EqOk K.P t ks
 mixed : K.P.follows .mixedOrders = true
section
variable {w : World} {S : Nat → Prop} {μ : Mu} {H : Heap} {P : Program} {ℓ : Nat}
theorem scalV_of {v : Value} {p : PV} (h : PRep w S v p) (hp : (∃ k n, p = .int k n) ∨ (∃ b, p = .bool b) ∨ ∃ l, p = .str l) : v = scalV p := by
 rcases hp with ⟨k, n, rfl⟩ | ⟨b, rfl⟩ | ⟨l, rfl⟩
 ·cases h; rfl
 ·cases h; rfl
 ·cases h; simp [scalV]
theorem eqRow_scal : ∀ (ks : List SK) (a b : List PV) (q : Bool), eqRow ks a b = some q → (∀ p ∈ a, (∃ k n, p = .int k n) ∨ (∃ b, p = .bool b) ∨ ∃ l, p = .str l) ∧ (∀ p ∈ b, (∃ k n, p = .int k n) ∨ (∃ b, p = .bool b) ∨ ∃ l, p = .str l)
  | [], a, b, q, h => by
    cases a <;> cases b <;> simp [eqRow] at h
    simp
  | s :: ks, [], b, q, h => by cases s <;> cases b <;> simp [eqRow] at h
  | s :: ks, x :: a, [], q, h => by cases s <;> cases x <;> simp [eqRow] at h
  | s :: ks, x :: a, y :: b, q, h => by
    have key : ∀ q', eqRow ks a b = some q' → ((∃ k n, x = .int k n) ∨ (∃ b, x = .bool b) ∨ ∃ l, x = .str l) → ((∃ k n, y = .int k n) ∨ (∃ b, y = .bool b) ∨ ∃ l, y = .str l) →
        (∀ p ∈ x :: a, (∃ k n, p = .int k n) ∨ (∃ b, p = .bool b) ∨ ∃ l, p = .str l) ∧ (∀ p ∈ y :: b, (∃ k n, p = .int k n) ∨ (∃ b, p = .bool b) ∨ ∃ l, p = .str l) := by
      intro q' h1 hx hy
      obtain ⟨i1, i2⟩ := eqRow_scal ks a b q' h1
      exact ⟨fun p hp => by rcases List.mem_cons.1 hp with rfl | hp; exact hx; exact i1 p hp, fun p hp => by rcases List.mem_cons.1 hp with rfl | hp; exact hy; exact i2 p hp⟩
    cases s with
    | int k =>
      cases x <;> cases y <;> simp [eqRow] at h
      split at h
      · rename_i q' hq'; exact key q' hq' (.inl ⟨_, _, rfl⟩) (.inl ⟨_, _, rfl⟩)
      · simp at h
    | bool =>
      cases x <;> cases y <;> simp only [eqRow] at h
      all_goals first | (cases h; done) | skip
      split at h
      · rename_i q' hq'; exact key q' hq' (.inr (.inl ⟨_, rfl⟩)) (.inr (.inl ⟨_, rfl⟩))
      · cases h
    | str =>
      cases x <;> cases y <;> simp only [eqRow] at h
      all_goals first | (cases h; done) | skip
      split at h
      · rename_i q' hq'; exact key q' hq' (.inr (.inr ⟨_, rfl⟩)) (.inr (.inr ⟨_, rfl⟩))
      · cases h
theorem scal_cells {k : Nat} : ∀ {vs : List Value} {a : List PV}, CRel w S μ k vs (a.map .pure) → (∀ p ∈ a, (∃ k n, p = .int k n) ∨ (∃ b, p = .bool b) ∨ ∃ l, p = .str l) → vs = a.map scalV
  | vs, [], h, _ => by cases h; rfl
  | vs, x :: a, h, hp => by
    cases h with
    | cons h1 h2 h3 => rw [List.map_cons, scalV_of h2.pv (hp x (by simp)), scal_cells h3 (fun p hq => hp p (by simp [hq]))]
theorem rep_int (k : IntKind) (n : Int) : PRep w S (scalV (.int k n)) (.int k n) := .int k n
theorem rep_bool (b : Bool) : PRep w S (scalV (.bool b)) (.bool b) := .bool b
theorem equalIn_nil (d : Nat) {t e : TypeId} {b : Addr} {len cap : Nat} (hu : P.underlying t = some (.slice e)) : (Op.equalIn (d + 1) t (.slice (some b) len cap) (.slice none 0 0)).run P w = .ok false w := by
 simp [Op.equalIn, r_underlying w hu]
theorem eql_nil {t e : TypeId} {b : Addr} {len cap : Nat} (hu : P.underlying t = some (.slice e)) : (binOp .eql t (.slice (some b) len cap) (.slice none 0 0)).run P w = .ok (.bool false) w := by
 have := equalIn_nil (w := w) 9999 (b := b) (len := len) (cap := cap) hu
 simp only [binOp]
 simp only [Op.equal, Op.maxDepth, Sem.run_bind, this, Result.andThen_ok, Sem.run_pure]
theorem neq_nil {t e : TypeId} {b : Addr} {len cap : Nat} (hu : P.underlying t = some (.slice e)) : (binOp .neq t (.slice (some b) len cap) (.slice none 0 0)).run P w = .ok (.bool true) w := by
 have := equalIn_nil (w := w) 9999 (b := b) (len := len) (cap := cap) hu
 simp only [binOp]
 simp only [Op.equal, Op.maxDepth, Sem.run_bind, this, Result.andThen_ok, Sem.run_pure, Bool.not_false]
theorem nonNil_inv {k : Nat} {a : GV} {va : Value} (ha : VRel w S μ k va a) (h : nonNil a = true) : ∃ b len cap, va = .slice (some b) len cap := by
  cases ha with
  | hdr nm es top lo len cap b n e0 hl hm hc ht hs hn => exact ⟨_, _, _, rfl⟩
  | lits b o cap es l f hS he hes hf h1 hr => exact ⟨_, _, _, rfl⟩
  | pure v q hq =>
    cases hq with
    | slice b o cap es l f hS he hes hf h1 hr hc => exact ⟨_, _, _, rfl⟩
    | _ => simp [nonNil] at h
  | _ => simp [nonNil] at h
theorem gnilEq_sound (K : Ctx) {k : Nat} {op : BinOp} {t : TypeId} {x y : Operand} {a : GV} {va : Value} {p : PV} (ha : VRel w S μ k va a) (h : gnilEq K op t a = some p) :
  ∃ u, (eqGuard op t x y va (.slice none 0 0)).run K.P w = .ok () w ∧ (binOp op t va (.slice none 0 0)).run K.P w = .ok u w ∧ PRep w S u p := by
 unfold gnilEq at h
 split at h
 ·rename_i e hu
  split at h
  ·rename_i hn
   obtain ⟨b, len, cap, rfl⟩ := nonNil_inv ha hn
   cases h
   exact ⟨_, by simp [eqGuard], eql_nil hu, .bool false⟩
  ·cases h
 ·rename_i e hu
  split at h
  ·rename_i hn
   obtain ⟨b, len, cap, rfl⟩ := nonNil_inv ha hn
   cases h
   exact ⟨_, by simp [eqGuard], neq_nil hu, .bool true⟩
  ·cases h
 ·cases h
theorem isNilC_eq {y : Operand} (h : isNilC y = true) : y = .const (.slice none 0 0) := by
 unfold isNilC at h
 split at h
 ·rfl
 ·cases h
theorem gbin_sound (K : Ctx) (hK : CtxOk K) {k : Nat} {op : BinOp} {t : TypeId} {x y : Operand} {a b : GV} {va vb : Value} {p : PV} (ha : VRel w S μ k va a) (hb : VRel w S μ k vb b) (h : gbin K op t a b = some p) :
  ∃ u, (eqGuard op t x y va vb).run K.P w = .ok () w ∧ (binOp op t va vb).run K.P w = .ok u w ∧ PRep w S u p := by
 unfold gbin at h
 split at h
 ·
  rename_i k1 n1 k2 n2
  obtain rfl := ha.int_inv
  obtain rfl := hb.int_inv
  have hg : ∀ op, (eqGuard op t x y (.int k1 n1) (.int k2 n2)).run K.P w = .ok () w := by intro op; cases op <;> rfl
  split at h
  ·unfold gshift at h
   split at h
   ·cases h
   ·rename_i hn
    simp only [Option.some.injEq] at h; subst h
    exact ⟨_, hg _, by simp [binOp, Op.shift, hn, scalV], rep_int _ _⟩
  ·unfold gshift at h
   split at h
   ·cases h
   ·rename_i hn
    simp only [Option.some.injEq] at h; subst h
    exact ⟨_, hg _, by simp [binOp, Op.shift, hn, scalV], rep_int _ _⟩
  ·rename_i h1 h2
   split at h
   ·rename_i hk; subst hk
    cases op <;> simp only [gint] at h
    case shl => exact absurd rfl (h1)
    case shr => exact absurd rfl (h2)
    case quo =>
     split at h
     ·cases h
     ·rename_i hn; simp only [Option.some.injEq] at h; subst h
      exact ⟨_, hg _, by simp [binOp, Op.intDiv, hn, scalV], rep_int _ _⟩
    case rem =>
     split at h
     ·cases h
     ·rename_i hn; simp only [Option.some.injEq] at h; subst h
      exact ⟨_, hg _, by simp [binOp, Op.intDiv, hn, scalV], rep_int _ _⟩
    all_goals first | (cases h; done) | skip
    all_goals simp only [Option.some.injEq] at h
    all_goals subst h
    all_goals first
     | (refine ⟨_, hg _, ?_, rep_int _ _⟩; simp [binOp, Op.intArith, Op.intBits, scalV])
     | (refine ⟨_, hg _, ?_, rep_bool _⟩; simp [binOp, Op.intCmp, scalV])
   ·cases h
 ·
  rename_i l1 l2
  obtain ⟨s1, rfl, e1⟩ := ha.str_inv
  obtain ⟨s2, rfl, e2⟩ := hb.str_inv
  have hg : ∀ op, (eqGuard op t x y (.string s1) (.string s2)).run K.P w = .ok () w := by intro op; cases op <;> rfl
  have t1 : s1.toList = l1 := by rw [ByteArray.toList_eq, e1]
  have t2 : s2.toList = l2 := by rw [ByteArray.toList_eq, e2]
  cases op <;> simp only [gstr] at h
  case add =>
   split at h
   ·rename_i hlen
    simp only [Option.some.injEq] at h; subst h
    have hs : s1.size + s2.size = l1.length + l2.length := by subst e1; subst e2; simp
    have hno : ¬ (((s1.size + s2.size : Nat) : Int) > IntKind.i64.max) := by
     rw [hs]; simp only [IntKind.max, IntKind.signed, IntKind.bits]; simp; omega
    have hr : (binOp .add t (.string s1) (.string s2)).run K.P w = .ok (.string (s1 ++ s2)) w := by
     simp only [binOp, Op.stringOp]; rw [if_neg hno]; rfl
    refine ⟨_, hg _, hr, ?_⟩
    have := PRep.str (w := w) (S := S) (s1 ++ s2)
    have e : (s1 ++ s2).data.toList = l1 ++ l2 := by subst e1; subst e2; simp
    rw [e] at this; exact this
   ·cases h
  all_goals first | (cases h; done) | skip
  all_goals simp only [Option.some.injEq] at h
  all_goals subst h
  all_goals (refine ⟨_, hg _, ?_, rep_bool _⟩; simp [binOp, Op.stringOp, t1, t2, scalV])
 ·
  rename_i b1 b2
  obtain rfl := ha.bool_inv
  obtain rfl := hb.bool_inv
  have hg : ∀ op, (eqGuard op t x y (.bool b1) (.bool b2)).run K.P w = .ok () w := by intro op; cases op <;> rfl
  split at h
  ·rename_i hu
   simp only [Option.some.injEq] at h; subst h
   have hq : (Op.equalIn 10000 t (.bool b1) (.bool b2)).run K.P w = .ok (b1 == b2) w := run_equalIn_bool' w 9999 t b1 b2 hu
   exact ⟨_, hg _, by simp only [binOp, Op.equal, Op.maxDepth, Sem.run_bind, hq, Result.andThen_ok]; rfl, rep_bool _⟩
  ·rename_i hu
   simp only [Option.some.injEq] at h; subst h
   have hq : (Op.equalIn 10000 t (.bool b1) (.bool b2)).run K.P w = .ok (b1 == b2) w := run_equalIn_bool' w 9999 t b1 b2 hu
   exact ⟨_, hg _, by simp only [binOp, Op.equal, Op.maxDepth, Sem.run_bind, hq, Result.andThen_ok]; rfl, rep_bool _⟩
  ·cases h
 ·
  rename_i l1 l2
  obtain ⟨vs1, rfl, c1⟩ := ha.agg_inv
  obtain ⟨vs2, rfl, c2⟩ := hb.agg_inv
  split at h
  ·rename_i ks hks
   obtain ⟨g1, g2⟩ := hK.eqs t ks hks
   have key : ∀ q, eqRow ks l1 l2 = some q → (Op.equalIn 10000 t (.agg vs1) (.agg vs2)).run K.P w = .ok q w := by
    intro q hq
    obtain ⟨s1, s2⟩ := eqRow_scal ks l1 l2 q hq
    have r1 := scal_cells c1 s1
    have r2 := scal_cells c2 s2
    have := (g2 l1 l2 q hq w).1
    rw [← r1, ← r2] at this
    simpa using this
   split at h
   ·rename_i q hq
    simp only [Option.some.injEq] at h; subst h
    exact ⟨_, run_eqGuard_agg w _ t x y vs1 vs2 g1, by rw [run_eql_struct, key q hq]; rfl, .bool _⟩
   ·rename_i q hq
    simp only [Option.some.injEq] at h; subst h
    exact ⟨_, run_eqGuard_agg w _ t x y vs1 vs2 g1, by rw [run_neq_struct, key q hq]; rfl, .bool _⟩
   ·cases h
  ·cases h
 ·cases h
end
end
section
section
variable {w : World} {S : Nat → Prop} {μ : Mu} {H : Heap} {P : Program} {ℓ : Nat}
theorem pptr_drop {b o q : Nat} {cs : List PV} {f : Nat → Value} {k : Nat} (hS : cs ≠ [] → S b) (hf : ∀ j, j < cs.length → w.cell? ⟨b, o + j, none⟩ = some (f j)) (h1 : ∀ j, j < cs.length → (f j).oneCell' = true)
  (hr : ∀ j, j < cs.length → PRep w S (f j) (cs.getD j .dead)) : VRel w S μ k (.pointer (some ⟨b, o + q, none⟩)) (.pptr (cs.drop q)) := by
 refine .pptr b (o + q) (cs.drop q) (fun j => f (q + j)) (fun h => hS (by intro e; subst e; simp at h)) (fun j hj => ?_) (fun j hj => ?_) (fun j hj => ?_)
 ·simp at hj; rw [Nat.add_assoc]; exact hf (q + j) (by omega)
 ·simp at hj; exact h1 (q + j) (by omega)
 ·simp at hj
  have := hr (q + j) (by omega)
  simpa [List.getD_eq_getElem?_getD, List.getElem?_drop] using this
theorem lptr_drop {b o q : Nat} {cs : List GV} {f : Nat → Value} {k : Nat} (hS : cs ≠ [] → S b) (hf : ∀ j, j < cs.length → w.cell? ⟨b, o + j, none⟩ = some (f j)) (h1 : ∀ j, j < cs.length → (f j).oneCell' = true)
  (hr : ∀ j, j < cs.length → VRel w S μ k (f j) (cs.getD j gdead)) : VRel w S μ k (.pointer (some ⟨b, o + q, none⟩)) (.lptr (cs.drop q)) := by
 refine .lptr b (o + q) (cs.drop q) (fun j => f (q + j)) (fun h => hS (by intro e; subst e; simp at h)) (fun j hj => ?_) (fun j hj => ?_) (fun j hj => ?_)
 ·simp at hj; rw [Nat.add_assoc]; exact hf (q + j) (by omega)
 ·simp at hj; exact h1 (q + j) (by omega)
 ·simp at hj
  have := hr (q + j) (by omega)
  simpa [List.getD_eq_getElem?_getD, List.getElem?_drop] using this
theorem shift_rel {k q : Nat} {va : Value} {x r : GV} (hx : VRel w S μ k va x)
    (h : gmoved q x = some r) : ∃ a : Addr, va = .pointer (some a) ∧ a.spot = none ∧ VRel w S μ k (.pointer (some (a.add q))) r := by
  cases hx with
  | bptr nm off b h1 h2 =>
    simp only [gmoved, Option.some.injEq] at h; subst h
    exact ⟨_, rfl, rfl, by rw [add_none]; exact .bptr nm _ b h1 h2⟩
  | eptr nm es top i off b h1 h2 =>
    simp only [gmoved, Option.some.injEq] at h; subst h
    exact ⟨_, rfl, rfl, by rw [add_none, Nat.add_assoc]; exact .eptr nm es top i _ b h1 h2⟩
  | pptr b o cs f hS hf h1 hr =>
    simp only [gmoved] at h
    split at h
    · simp only [Option.some.injEq] at h; subst h
      exact ⟨_, rfl, rfl, by rw [add_none]; exact pptr_drop hS hf h1 hr⟩
    · cases h
  | lptr b o cs f hS hf h1 hr =>
    simp only [gmoved] at h
    split at h
    · simp only [Option.some.injEq] at h; subst h
      exact ⟨_, rfl, rfl, by rw [add_none]; exact lptr_drop hS hf h1 hr⟩
    · cases h
  | _ => cases h
theorem tarr_some {t n e : Nat} (h : tarr P t = some (n, e)) : P.underlying t = some (.array n e) := by
 unfold tarr at h
 split at h
 ·rename_i n' e' he; simp at h; obtain ⟨rfl, rfl⟩ := h; exact he
 ·cases h
theorem tfield_some {t f off ft : Nat} (h : tfield P t f = some (off, ft)) : ∃ fs x, P.underlying t = some (.struct fs) ∧ fs[f]? = some x ∧ x.offset = off ∧ x.type = ft := by
 unfold tfield at h
 split at h
 ·rename_i fs hfs
  split at h
  ·rename_i x hx; simp at h; exact ⟨fs, x, hfs, hx, h.1, h.2⟩
  ·cases h
 ·cases h
theorem fieldAddr_sound {k f off ft size : Nat} {st : TypeId} {va : Value} {x r : GV} (hx : VRel w S μ k va x) (hf : tfield P st f = some (off, ft)) (hs : tsize P ft = some size) (h0 : size ≠ 0)
  (h : gmoved off x = some r) : ∃ u, (Instr.fieldAt st va f).run P w = .ok u w ∧ VRel w S μ k u r := by
 obtain ⟨fs, y, hu, hy, rfl, rfl⟩ := tfield_some hf
 obtain ⟨a, rfl, _, hr⟩ := shift_rel hx h
 exact ⟨_, by simp [Instr.fieldAt, r_underlying w hu, hy, sure_ptr, fieldPlace, r_size w hs, h0], hr⟩
theorem indexAddr_sound (K : Ctx) {k : Nat} {t : TypeId} {va vi : Value} {x i r : GV} (hx : VRel w S μ k va x) (hi : VRel w S μ k vi i) (h : gindexAddr K t x i = some r) :
  ∃ u, (Instr.indexAt t va vi).run K.P w = .ok u w ∧ VRel w S μ k u r := by
 unfold gindexAddr at h
 split at h
 ·rename_i kd n
  obtain rfl := hi.int_inv
  split at h
  ·cases h
  ·rename_i hneg
   have h0 : 0 ≤ n := by omega
   split at h
   ·rename_i len e hta
    split at h
    ·rename_i size hs
     split at h
     ·cases h
     ·rename_i hlt
      have hlt' : n < (len : Int) := by omega
      obtain ⟨a, rfl, _, hr⟩ := shift_rel hx h
      refine ⟨_, ?_, hr⟩
      simp [Instr.indexAt, asIntOf, r_underlying w (tarr_some hta), sure_ptr, h0, hlt', r_size w hs]
    ·cases h
   ·split at h
    ·rename_i e he
     split at h
     ·rename_i size hs
      split at h
      ·
       rename_i nm es top lo len
       cases hx with
       | hdr _ _ _ _ _ cap b m ek h1 h2 h3 h4 h5 h6 =>
       split at h
       ·rename_i hc
        obtain ⟨rfl, hlt⟩ := hc
        simp only [Option.some.injEq] at h; subst h
        refine ⟨.pointer (some ⟨b, (lo + n.toNat) * es + 0, none⟩), ?_, .eptr nm es top (lo + n.toNat) 0 b h1 h2⟩
        have ea : (⟨b, lo * es, none⟩ : Addr).add (n.toNat * es) = ⟨b, (lo + n.toNat) * es + 0, none⟩ := by rw [add_none, Nat.add_mul]; simp
        simp [Instr.indexAt, asIntOf, r_underlying w (telem_some he), h0, hlt, r_size w hs, ea]
       ·cases h
      ·
       rename_i l
       split at h
       ·rename_i cs hcs
        split at h
        ·rename_i hlen
         simp only [Option.some.injEq] at h; subst h
         have := hx.pv
         cases this with
         | slice0 a cap => simp at hcs
         | slice b o cap es _ f hS hpos hes hf h1 hr hcp =>
         have hin : n.toNat < l.length := by rcases Nat.lt_or_ge n.toNat l.length with h | h; exact h; rw [List.getElem?_eq_none h] at hcs; cases hcs
         have hcl : cs.length = es := hes _ (List.mem_of_getElem? hcs)
         have hlt : n < (l.length : Int) := by omega
         have hgd : l.getD n.toNat [] = cs := by simp [List.getD_eq_getElem?_getD, hcs]
         have es' : es = size := by omega
         subst es'
         refine ⟨.pointer (some ⟨b, o + n.toNat * es, none⟩), ?_, .pptr b (o + n.toNat * es) cs (f n.toNat) (fun _ => hS) (fun j hj => ?_) (fun j hj => h1 _ _ hin (by omega)) (fun j hj => ?_)⟩
         ·simp [Instr.indexAt, asIntOf, r_underlying w (telem_some he), h0, hlt, r_size w hs, add_none]
         ·rw [Nat.add_assoc]; exact hf _ _ hin (by omega)
         ·have := hr n.toNat j hin (by omega); rwa [hgd] at this
        ·cases h
       ·cases h
      ·
       rename_i l
       split at h
       ·rename_i cs hcs
        split at h
        ·rename_i hlen
         simp only [Option.some.injEq] at h; subst h
         cases hx with
         | lits b o cap es _ f hS hpos hes hf h1 hr =>
         have hin : n.toNat < l.length := by rcases Nat.lt_or_ge n.toNat l.length with h | h; exact h; rw [List.getElem?_eq_none h] at hcs; cases hcs
         have hcl : cs.length = es := hes _ (List.mem_of_getElem? hcs)
         have hlt : n < (l.length : Int) := by omega
         have hgd : l.getD n.toNat [] = cs := by simp [List.getD_eq_getElem?_getD, hcs]
         have es' : es = size := by omega
         subst es'
         refine ⟨.pointer (some ⟨b, o + n.toNat * es, none⟩), ?_, .lptr b (o + n.toNat * es) cs (f n.toNat) (fun _ => hS) (fun j hj => ?_) (fun j hj => h1 _ _ hin (by omega)) (fun j hj => ?_)⟩
         ·simp [Instr.indexAt, asIntOf, r_underlying w (telem_some he), h0, hlt, r_size w hs, add_none]
         ·rw [Nat.add_assoc]; exact hf _ _ hin (by omega)
         ·have := hr n.toNat j hin (by omega); rwa [hgd] at this
        ·cases h
       ·cases h
      ·cases h
     ·cases h
    ·cases h
 ·cases h
theorem part_run {k off size : Nat} {ag : Bool} {t : TypeId} {vs : Array Value} {cs : List GV} {r : GV} (hc : CRel w S μ k vs.toList cs) (ha : tagg P t = some ag) (hs : tsize P t = some size)
    (hle : off + size ≤ cs.length) (h : (if ag then some (mkAgg ((cs.drop off).take size)) else cs[off]?) = some r) : ∃ u, (part t vs off).run P w = .ok u w ∧ VRel w S μ k u r := by
  cases ag with
  | true =>
    simp only [if_true, Option.some.injEq] at h; subst h
    refine ⟨.agg (vs.extract off (off + size)), by simp [part, r_agg w ha, r_size w hs], mkAgg_rel' ?_⟩
    have e : (vs.extract off (off + size)).toList = (vs.toList.drop off).take size := by simp
    rw [e]
    exact (hc.drop off).take size
  | false =>
    simp only [Bool.false_eq_true, if_false] at h
    obtain ⟨v, v1, v2, v3⟩ := hc.get off r h
    have v1' : vs[off]? = some v := by simpa using v1
    exact ⟨v, by simp [part, r_agg w ha, v1'], v3⟩
end
end
section
section
variable {w : World} {S : Nat → Prop} {μ : Mu} {H : Heap} {P : Program} {ℓ : Nat}
theorem part_pure {k off size : Nat} {ag : Bool} {t : TypeId} {vs : Array Value} {cs : List PV} {r : GV} (hc : CRel w S μ k vs.toList (cs.map .pure)) (ha : tagg P t = some ag) (hs : tsize P t = some size)
    (hle : off + size ≤ cs.length) (h : (if ag then some (.pure (.agg ((cs.drop off).take size))) else (match cs[off]? with | some p => some (.pure p) | none => none)) = some r) :
    ∃ u, (part t vs off).run P w = .ok u w ∧ VRel w S μ k u r := by
  refine part_run hc ha hs (by simpa using hle) ?_
  cases ag with
  | true =>
    simp only [if_true, Option.some.injEq] at h ⊢
    rw [← h, ← List.map_drop, ← List.map_take, mkAgg_map]
  | false =>
    simp only [Bool.false_eq_true, if_false, List.getElem?_map] at h ⊢
    split at h
    · rename_i p hp; rw [hp]; simpa using h
    · cases h
theorem index_sound (K : Ctx) {k : Nat} {t : TypeId} {va vi : Value} {x i r : GV} (hx : VRel w S μ k va x) (hi : VRel w S μ k vi i) (h : gindex K x i t = some r) :
  ∃ u, (Instr.index t va vi).run K.P w = .ok u w ∧ VRel w S μ k u r := by
 unfold gindex at h
 split at h
 ·rename_i kd n
  obtain rfl := hi.int_inv
  split at h
  ·cases h
  ·rename_i hneg
   have h0 : 0 ≤ n := by omega
   split at h
   ·rename_i len e hta
    split at h
    ·rename_i ag size ha hs
     split at h
     ·cases h
     ·rename_i hlt
      have hlt' : n < (len : Int) := by omega
      split at h
      ·rename_i cs
       obtain ⟨vs, rfl, hc⟩ := hx.cells
       split at h
       ·rename_i hle
        obtain ⟨u, u1, u2⟩ := part_run (P := K.P) hc ha hs hle h
        exact ⟨u, by simp [Instr.index, asIntOf, r_underlying w (tarr_some hta), h0, hlt', r_size w hs, u1], u2⟩
       ·cases h
      ·rename_i cs
       obtain ⟨vs, rfl, hc⟩ := hx.agg_inv
       split at h
       ·rename_i hle
        obtain ⟨u, u1, u2⟩ := part_pure (P := K.P) hc ha hs hle h
        exact ⟨u, by simp [Instr.index, asIntOf, r_underlying w (tarr_some hta), h0, hlt', r_size w hs, u1], u2⟩
       ·cases h
      ·cases h
    ·cases h
   ·split at h
    ·rename_i l hu
     obtain ⟨s, rfl, hs⟩ := hx.str_inv
     split at h
     ·rename_i b hb
      simp only [Option.some.injEq] at h; subst h
      have hb' : s[n.toNat]? = some b := by
       subst hs
       have hin : n.toNat < s.size := by
        rcases Nat.lt_or_ge n.toNat s.data.toList.length with h | h
        ·simpa using h
        ·rw [List.getElem?_eq_none h] at hb; cases hb
       rw [getElem?_pos s n.toNat hin]
       have hin2 : n.toNat < s.data.toList.length := by simpa using hin
       rw [List.getElem?_eq_getElem hin2] at hb
       have hb2 := Option.some.inj hb
       rw [Array.getElem_toList] at hb2
       exact congrArg some hb2
      exact ⟨.int .u8 b.toNat, by simp [Instr.index, asIntOf, r_underlying w hu, h0, hb'], .pure _ _ (.int _ _)⟩
     ·cases h
    ·cases h
 ·cases h
theorem field_sound {k f off ft size : Nat} {ag : Bool} {t : TypeId} {v : Value} {x r : GV} (hx : VRel w S μ k v x) (hf : tfield P t f = some (off, ft)) (ha : tagg P ft = some ag) (hs : tsize P ft = some size)
  (h : (match x with
   | .agg cs => if off + size ≤ cs.length then (if ag then some (mkAgg ((cs.drop off).take size)) else cs[off]?) else none
   | .pure (.agg cs) => if off + size ≤ cs.length then (if ag then some (.pure (.agg ((cs.drop off).take size))) else (match cs[off]? with | some p => some (.pure p) | none => none)) else none
   | _ => none) = some r) :
  ∃ u, (Instr.field t v f).run P w = .ok u w ∧ VRel w S μ k u r := by
 obtain ⟨fs, y, hu, hy, rfl, rfl⟩ := tfield_some hf
 split at h
 ·rename_i cs hx
  obtain ⟨vs, rfl, hc⟩ := hx.cells
  split at h
  ·rename_i hle
   obtain ⟨u, u1, u2⟩ := part_run (P := P) hc ha hs hle h
   exact ⟨u, by simp [Instr.field, r_underlying w hu, hy, asAgg, u1], u2⟩
  ·cases h
 ·rename_i cs hx
  obtain ⟨vs, rfl, hc⟩ := hx.agg_inv
  split at h
  ·rename_i hle
   obtain ⟨u, u1, u2⟩ := part_pure (P := P) hc ha hs hle h
   exact ⟨u, by simp [Instr.field, r_underlying w hu, hy, asAgg, u1], u2⟩
  ·cases h
 ·cases h
end
end
section
section
variable {w : World} {S : Nat → Prop} {μ : Mu} {H : Heap} {P : Program} {ℓ : Nat}
theorem bound_run {k : Nat} {v : Value} {g : GV} {a d y : Nat} {code : BoundsCode} (hv : VRel w S μ k v g) (h : gbound (some g) d = some a) (hy : a ≤ y) :
  (Instr.sliceBound v y code).run P w = .ok a w := by
 simp only [gbound] at h
 split at h
 ·rename_i h0; cases h0
 ·rename_i kd i heq
  simp only [Option.some.injEq] at heq; subst heq
  obtain rfl := hv.int_inv
  split at h
  ·cases h
  ·simp only [Option.some.injEq] at h; subst h
   have : 0 ≤ i ∧ i ≤ (y : Int) := by omega
   simp [Instr.sliceBound, asIntOf, this]
 ·cases h
theorem bounds_run {k : Nat} {is : Bool} {len cap a b : Nat} {act : Act} {s : Slots} (hs : ∀ t, VRel w S μ k (act.tmps.getD t undef) (look s t)) {lo hi : Option Operand}
    (h1 : gbound (lo.map (ev s)) 0 = some a) (h2 : gbound (hi.map (ev s)) len = some b) (hab : a ≤ b) (hbl : b ≤ len) (hlc : len ≤ cap) :
    (Instr.sliceBounds is len cap (lo.map act.eval) (hi.map act.eval) none).run P w = .ok (a, b, cap) w := by
  have e2 : ∀ code, (match hi.map act.eval, (none : Option Value) with
      | some v, some _ => Instr.sliceBound v cap .slice3B
      | some v, none => Instr.sliceBound v cap code
      | none, none => pure len
      | none, some _ => stuck "Slice: max without high").run P w = .ok b w := by
    intro code
    cases hi with
    | none => simp only [Option.map_none, gbound, Option.some.injEq] at h2; subst h2; simp
    | some x => exact bound_run (ev_rel hs x) h2 (by omega)
  have e1 : (match lo.map act.eval with
      | some v => Instr.sliceBound v b .sliceB
      | none => pure 0).run P w = .ok a w := by
    cases lo with
    | none => simp only [Option.map_none, gbound, Option.some.injEq] at h1; subst h1; simp
    | some x => exact bound_run (ev_rel hs x) h1 hab
  unfold Instr.sliceBounds
  cases lo with
  | none =>
    cases hi with
    | none => simp only [Option.map_none] at e1 e2 ⊢; simp [e1, e2] at *; simp [h1, h2, gbound] at *; omega
    | some x => simp only [Option.map_none, Option.map_some] at e1 e2 ⊢; simp [e1, e2]; simp [gbound] at h1; omega
  | some y =>
    cases hi with
    | none => simp only [Option.map_none, Option.map_some] at e1 e2 ⊢; simp [e1, e2]; simp [gbound] at h2; subst h2; simp [e1]
    | some x => simp only [Option.map_some] at e1 e2 ⊢; simp [e1, e2]
theorem bounds3_run {k : Nat} {len cap : Nat} {act : Act} {s : Slots} (hs : ∀ t, VRel w S μ k (act.tmps.getD t undef) (look s t)) {lo hi : Option Operand} {m : Operand} {k1 k2 : IntKind}
    (h1 : gbound (lo.map (ev s)) 0 = some 0) (h2 : hi.map (ev s) = some (.pure (.int k1 0))) (h3 : ev s m = .pure (.int k2 0)) :
    (Instr.sliceBounds true len cap (lo.map act.eval) (hi.map act.eval) (some (act.eval m))).run P w = .ok (0, 0, 0) w := by
  have e3 := ev_rel hs m
  rw [h3] at e3
  have em := e3.int_inv
  cases hi with
  | none => cases h2
  | some x =>
    have e2 := ev_rel hs x
    simp only [Option.map_some, Option.some.injEq] at h2
    rw [h2] at e2
    have ex := e2.int_inv
    cases lo with
    | none => simp [Instr.sliceBounds, em, ex, Instr.sliceBound, asIntOf]
    | some y =>
      have := bound_run (P := P) (y := 0) (code := .slice3C) (ev_rel hs y) h1 (Nat.le_refl 0)
      have hq : ∀ (kk : IntKind) (n : Nat) (code : BoundsCode), (Instr.sliceBound (.int kk 0) n code).run P w = .ok 0 w := fun kk n code => by simp [Instr.sliceBound, asIntOf]
      simp only [Option.map_some]
      simp [Instr.sliceBounds, em, ex, this, hq]
theorem slice_pure_rel {n cap : Nat} {base : Option Addr} {l : List (List PV)} {a b size : Nat} (h : PRep w S (.slice base n cap) (.slice l)) (hab : a ≤ b) (hb : b ≤ l.length)
    (hall : l.all (fun r => r.length == size) = true) :
    n = l.length ∧ PRep w S (.slice (if cap = a then base else base.map (·.add (a * size))) (b - a) (cap - a)) (.slice ((l.take b).drop a)) := by
  by_cases he : a = b
  · subst he
    have : (l.take a).drop a = [] := by simp
    rw [this, Nat.sub_self]
    refine ⟨?_, .slice0 _ _⟩
    cases h <;> rfl
  · cases h with
    | slice0 a cap => simp at hb; omega
    | slice b' o cap es l f hS hpos hes hf h1 hr hcp =>
      refine ⟨rfl, ?_⟩
      have hne : es = size := by
        have hm := List.getElem_mem (l := l) (n := 0) (by omega)
        rw [← hes _ hm]
        simp only [List.all_eq_true, beq_iff_eq] at hall
        exact hall _ hm
      subst hne
      have hca : cap ≠ a := by omega
      rw [if_neg hca]
      have hlen : ((l.take b).drop a).length = b - a := by simp; omega
      have hget : ∀ i, i < b - a → ((l.take b).drop a).getD i [] = l.getD (a + i) [] := fun i hi => by
        have : a + i < b := by omega
        simp [List.getD_eq_getElem?_getD, List.getElem?_drop, List.getElem?_take, this]
      have e0 : ∀ i j, o + a * es + (i * es + j) = o + ((a + i) * es + j) := fun i j => by rw [Nat.add_mul]; omega
      have := PRep.slice (w := w) (S := S) b' (o + a * es) (cap - a) es ((l.take b).drop a) (fun i j => f (a + i) j) hS hpos
        (fun r hr => hes r (List.mem_of_mem_take (List.mem_of_mem_drop hr)))
        (fun i j hi hj => by rw [hlen] at hi; rw [e0]; exact hf (a + i) j (by omega) hj)
        (fun i j hi hj => by rw [hlen] at hi; exact h1 (a + i) j (by omega) hj)
        (fun i j hi hj => by rw [hlen] at hi; rw [hget i hi]; exact hr (a + i) j (by omega) hj)
        (by rw [hlen]; omega)
      rw [hlen] at this
      simpa [add_none] using this
theorem PRep.slice_inv {v : Value} {l : List (List PV)} (h : PRep w S v (.slice l)) : ∃ base cap, v = .slice base l.length cap ∧ l.length ≤ cap := by
 cases h with
 | slice0 a cap => exact ⟨a, cap, rfl, by simp⟩
 | slice b o cap es l f hS hpos hes hf h1 hr hcp => exact ⟨_, _, rfl, hcp⟩
theorem slice_sound (K : Ctx) {k : Nat} {t : TypeId} {va : Value} {x r : GV} {lo hi mx : Option Operand} {act : Act} {s : Slots} (hs : ∀ t, VRel w S μ k (act.tmps.getD t undef) (look s t))
    (hx : VRel w S μ k va x) (h : gslice K t x (lo.map (ev s)) (hi.map (ev s)) (mx.map (ev s)) = some r) :
    ∃ u, (Instr.sliceAt t va (lo.map act.eval) (hi.map act.eval) (mx.map act.eval)).run K.P w = .ok u w ∧ VRel w S μ k u r := by
  unfold gslice at h
  cases mx with
  | some m =>
    simp only [Option.map_some, Option.isSome_some, if_true] at h ⊢
    split at h
    · rename_i k1 k2 e h1 h2 h3 hte
      simp only [Option.some.injEq] at h3
      have hu := telem_some hte
      have hb := fun len cap => bounds3_run (P := K.P) (len := len) (cap := cap) hs h1 h2 h3
      split at h
      · rename_i size hsz
        simp only [Option.some.injEq] at h; subst h
        cases hx with
        | nils base => exact ⟨.slice base 0 0, by simp [Instr.sliceAt, Instr.slice, r_underlying w hu, hb, r_size w hsz], .nils _⟩
      · rename_i size l hsz
        simp only [Option.some.injEq] at h; subst h
        obtain ⟨base, cap, rfl, hcp⟩ := hx.pv.slice_inv
        exact ⟨.slice base 0 0, by simp [Instr.sliceAt, Instr.slice, r_underlying w hu, hb, r_size w hsz], .nils _⟩
      · rename_i size nm es top lo0 len hsz
        simp only [Option.some.injEq] at h; subst h
        cases hx with
        | hdr _ _ _ _ _ cap b0 n e0 hl hm hcl ht hsh hn => exact ⟨.slice (some ⟨b0, lo0 * es, none⟩) 0 0, by simp [Instr.sliceAt, Instr.slice, r_underlying w hu, hb, r_size w hsz], .nils _⟩
      · cases h
    · cases h
  | none =>
  simp only [Option.map_none, Option.isSome_none, Bool.false_eq_true, if_false] at h ⊢
  split at h
  · rename_i cs
    split at h
    · rename_i n e h1 h2 hta
      have hu := tarr_some hta
      split at h
      · rename_i size hsz
        split at h
        · rename_i hc
          simp only [Option.some.injEq] at h; subst h
          obtain ⟨c1, c2, c3⟩ := hc
          cases lo with
          | some _ => cases h1
          | none =>
          cases hi with
          | some _ => cases h2
          | none =>
          cases hx with
          | pptr b o _ f hS hf h1 hr =>
          have hpos : 0 < n * size := Nat.mul_pos c2 c1
          have hne : cs ≠ [] := by intro e; subst e; simp at c3; omega
          refine ⟨.slice (some ⟨b, o, none⟩) n n, by simp [Instr.sliceAt, r_underlying w hu, r_size w hsz, Instr.sureAddr, Instr.sliceBounds, add_none], .pure _ _ ?_⟩
          have hlen : (chunks size n cs).length = n := chunks_length size n cs
          have hlt : ∀ i j, i < n → j < size → i * size + j < cs.length := fun i j hi hj => by
            have h1 : (i + 1) * size ≤ n * size := Nat.mul_le_mul_right _ hi
            rw [Nat.add_mul] at h1; omega
          have hq : ∀ i j, i < n → j < size → ((chunks size n cs).getD i []).getD j PV.dead = cs.getD (i * size + j) PV.dead := fun i j hi hj => chunks_cell PV.dead i j hi hj
          have := PRep.slice (w := w) (S := S) b o n size (chunks size n cs) (fun i j => f (i * size + j)) (hS hne) c1
            (fun r hr => by
              obtain ⟨i, hi, rfl⟩ := List.getElem_of_mem hr
              rw [hlen] at hi
              have := chunks_get size n cs i hi
              have hg : (chunks size n cs)[i]? = some (chunks size n cs)[i] := by simp
              rw [hg] at this
              simp only [Option.some.injEq] at this
              rw [this]
              have h1 : (i + 1) * size ≤ n * size := Nat.mul_le_mul_right _ hi
              rw [Nat.add_mul] at h1
              simp only [List.length_take, List.length_drop]; omega)
            (fun i j hi hj => hf _ (hlt i j (hlen ▸ hi) hj)) (fun i j hi hj => h1 _ (hlt i j (hlen ▸ hi) hj))
            (fun i j hi hj => by rw [hq i j (hlen ▸ hi) hj]; exact hr _ (hlt i j (hlen ▸ hi) hj)) (by rw [hlen]; exact Nat.le_refl _)
          rw [hlen] at this
          exact this
        · cases h
      · cases h
    · cases h
  · rename_i l
    obtain ⟨str, rfl, rfl⟩ := hx.str_inv
    split at h
    · rename_i a b h1 h2 hu
      split at h
      · rename_i hc
        simp only [Option.some.injEq] at h; subst h
        have hb := bounds_run (P := K.P) (is := false) (cap := str.size) hs h1 h2 hc.1 hc.2 (by simp)
        have hsz : str.data.toList.length = str.size := by simp
        rw [hsz] at hb
        refine ⟨.string (str.extract a b), by simp [Instr.sliceAt, Instr.slice, r_underlying w hu, hb], .pure _ _ ?_⟩
        have := PRep.str (w := w) (S := S) (str.extract a b)
        have e : (str.extract a b).data.toList = (str.data.toList.take b).drop a := by simp [List.drop_take]
        rw [e] at this; exact this
      · cases h
    · cases h
  · rename_i nm es top l0 len
    split at h
    · rename_i a b e h1 h2 hte
      have hu := telem_some hte
      split at h
      · rename_i hc
        obtain ⟨c1, c2, c3⟩ := hc
        cases hx with
        | hdr nm es top lo0 len cap b0 n e0 hl hm hcl ht hsh hn =>
        have hb := bounds_run (P := K.P) (is := true) (cap := cap) hs h1 h2 c1 c2 hcl
        refine ⟨.slice (if cap = a then some ⟨b0, l0 * es, none⟩ else (some ⟨b0, l0 * es, none⟩ : Option Addr).map (·.add (a * es))) (b - a) (cap - a),
          by simp [Instr.sliceAt, Instr.slice, r_underlying w hu, hb, r_size w c3], ?_⟩
        split at h
        · simp only [Option.some.injEq] at h; subst h
          rename_i hab; subst hab
          rw [Nat.sub_self]; exact .pure _ _ (.slice0 _ _)
        · simp only [Option.some.injEq] at h; subst h
          rw [if_neg (by omega)]
          have := VRel.hdr (w := w) (S := S) (μ := μ) (ℓ := k) nm es top (l0 + a) (b - a) (cap - a) b0 n e0 hl hm (by omega) (by omega) hsh
            (by have : l0 + a + (cap - a) = l0 + cap := by omega
                rw [this]; exact hn)
          simpa [add_none, Nat.add_mul] using this
      · cases h
    · cases h
  · rename_i l
    split at h
    · rename_i a b e h1 h2 hte
      have hu := telem_some hte
      split at h
      · rename_i hc
        split at h
        · rename_i es hes
          split at h
          · rename_i hall
            simp only [Option.some.injEq] at h; subst h
            obtain ⟨base, cap, rfl, hcp⟩ := hx.pv.slice_inv
            have hb := bounds_run (P := K.P) (is := true) (cap := cap) hs h1 h2 hc.1 hc.2 hcp
            obtain ⟨_, q2⟩ := slice_pure_rel (a := a) (b := b) hx.pv hc.1 hc.2 hall
            exact ⟨_, by simp [Instr.sliceAt, Instr.slice, r_underlying w hu, hb, r_size w hes], .pure _ _ q2⟩
          · cases h
        · cases h
      · cases h
    · cases h
  · split at h
    · rename_i e h1 h2 hte
      have hu := telem_some hte
      split at h
      · rename_i hsz
        simp only [Option.some.injEq] at h; subst h
        cases hx with
        | nils base =>
        obtain ⟨es, hes⟩ := Option.isSome_iff_exists.1 hsz
        have hb := bounds_run (P := K.P) (is := true) (len := 0) (cap := 0) hs h1 h2 (Nat.le_refl _) (Nat.le_refl _) (Nat.le_refl _)
        exact ⟨.slice base 0 0, by simp [Instr.sliceAt, Instr.slice, r_underlying w hu, hb, r_size w hes], .pure _ _ (.slice0 _ _)⟩
      · cases h
    · cases h
  · cases h
theorem len_sound (K : Ctx) (hH : HRel w S μ H) {k : Nat} {t ty : TypeId} {ats : Array TypeId} {va : Value} {x : GV} {n : Int} {args : Array Value} (hx : VRel w S μ k va x) (ht : ats[0]? = some t) (ha : args[0]? = some va)
  (h : glen K t H x = some n) : (Builtin.len_ ats ty args).run K.P w = .ok (.int .i64 n) w := by
 unfold glen at h
 split at h
 ·rename_i hu; simp only [Option.some.injEq] at h; subst h
  simp [Builtin.len_, ht, ha, r_underlying w hu, goInt]
 ·rename_i hu; simp only [Option.some.injEq] at h; subst h
  cases hx
  simp [Builtin.len_, ht, ha, r_underlying w hu, goInt]
 ·rename_i hu; simp only [Option.some.injEq] at h; subst h
  cases hx
  simp [Builtin.len_, ht, ha, r_underlying w hu, goInt]
 ·rename_i hu; simp only [Option.some.injEq] at h; subst h
  cases hx
  simp [Builtin.len_, ht, ha, r_underlying w hu, goInt]
 ·rename_i hu; simp only [Option.some.injEq] at h; subst h
  obtain ⟨base, cap, rfl, hcp⟩ := hx.pv.slice_inv
  simp [Builtin.len_, ht, ha, r_underlying w hu, goInt]
 ·rename_i hu; simp only [Option.some.injEq] at h; subst h
  obtain ⟨str, rfl, rfl⟩ := hx.str_inv
  simp [Builtin.len_, ht, ha, r_underlying w hu, goInt]
 ·rename_i hu; simp only [Option.some.injEq] at h; subst h
  have := hx.pv
  cases this
  simp [Builtin.len_, ht, ha, r_underlying w hu, goInt]
 ·rename_i nm hu
  split at h
  ·rename_i es hg
   simp only [Option.some.injEq] at h; subst h
   cases hx with
   | map nm b' hl hm =>
   obtain ⟨b, ms, clock, h1, h2, h3, h4, h5⟩ := hH.blk _ _ hg _ _ hm
   rw [hm] at h1; simp only [Option.some.injEq] at h1; subst h1
   have hgo : (getObj b').run K.P w = .ok (.map ms clock) w := by simp [getObj, Sem.run, h3]
   simp [Builtin.len_, ht, ha, r_underlying w hu, goInt, hgo, h4]
  ·cases h
 ·cases h
theorem minmax_sound {k : Nat} {mx : Bool} : ∀ (gs : List GV) (vs : List Value) (r : GV) , vs.length = gs.length → (∀ j, j < gs.length → VRel w S μ k (vs.getD j undef) (gs.getD j gdead)) → gminmax mx gs = some r →
    ∃ v0 rest kd n, vs = v0 :: rest ∧ r = .pure (.int kd n) ∧ (rest.foldlM (if mx then Builtin.max2 else Builtin.min2) v0).run P w = .ok (.int kd n) w
  | [], vs, r, _, _, h => by simp [gminmax] at h
  | [g], vs, r, hl, hr, h => by
    match vs, hl with
    | [v], _ =>
    have h0 := hr 0 (by simp)
    simp at h0
    unfold gminmax at h
    split at h
    · rename_i heq; simp at heq
    · rename_i kd a heq
      simp at heq; subst heq
      simp only [Option.some.injEq] at h; subst h
      obtain rfl := h0.int_inv
      exact ⟨_, _, _, _, rfl, rfl, by simp⟩
    · rename_i heq; simp at heq
    · cases h
  | g :: g' :: gs, vs, r, hl, hr, h => by
    match vs, hl with
    | v :: v' :: vs, hl =>
    have h0 := hr 0 (by simp)
    have h1 := hr 1 (by simp)
    simp at h0 h1
    unfold gminmax at h
    split at h
    · rename_i heq; simp at heq
    · rename_i heq; simp at heq
    · rename_i kd a kd' b rest heq
      simp at heq
      obtain ⟨rfl, rfl, rfl⟩ := heq
      split at h
      · rename_i hk; subst hk
        obtain rfl := h0.int_inv
        obtain rfl := h1.int_inv
        obtain ⟨v0, rest', kd', n', e1, e2, e3⟩ := minmax_sound (k := k) (mx := mx) _ (.int kd (if mx then (if a < b then b else a) else (if b < a then b else a)) :: vs) r (by simpa using hl)
          (fun j hj => by
            cases j with
            | zero => simp; exact .pure _ _ (.int _ _)
            | succ j => have := hr (j + 2) (by simpa using hj); simpa using this) h
        simp only [List.cons.injEq] at e1
        obtain ⟨rfl, rfl⟩ := e1
        refine ⟨_, _, kd', n', rfl, e2, ?_⟩
        rw [List.foldlM_cons]
        cases mx
        · simp only [Bool.false_eq_true, if_false, Builtin.min2] at e3 ⊢
          simpa using e3
        · simp only [if_true, Builtin.max2] at e3 ⊢
          simpa using e3
      · cases h
    · cases h
termination_by gs => gs.length
end
end
section
open Go.MapKept
section
variable {w : World} {S : Nat → Prop} {μ : Mu} {H : Heap} {P : Program} {ℓ : Nat}
theorem keyFits_is {kt : TypeId} {v : Value} {p : PV} (hv : PRep w S v p) (h : keyFits P kt p = true) : ∃ d, P.underlying kt = some d ∧ IsKey d v ∧ v = scalV p := by
 unfold keyFits at h
 split at h
 ·rename_i hu; cases hv; simp at h; exact ⟨_, hu, by simp [IsKey, h], rfl⟩
 ·rename_i hu; cases hv; exact ⟨_, hu, by simp [IsKey], by simp [scalV]⟩
 ·rename_i hu; cases hv; exact ⟨_, hu, by simp [IsKey], rfl⟩
 ·cases h
theorem rowEq_eq : ∀ {a b : List PV}, rowEq a b = some true → a = b
  | [], b, h => by cases b <;> simp_all [rowEq]
  | x :: a, b, h => by
    cases b with
    | nil => cases x <;> simp [rowEq] at h
    | cons y b =>
      cases x <;> cases y <;> simp only [rowEq] at h
      all_goals first | (cases h; done) | skip
      · split at h
        · rename_i hk; subst hk
          split at h
          · rename_i q hq
            simp only [Option.some.injEq, Bool.and_eq_true, beq_iff_eq] at h
            obtain ⟨rfl, rfl⟩ := h
            rw [rowEq_eq hq]
          · cases h
        · cases h
      · split at h
        · rename_i q hq
          simp only [Option.some.injEq, Bool.and_eq_true, beq_iff_eq] at h
          obtain ⟨rfl, rfl⟩ := h
          rw [rowEq_eq hq]
        · cases h
      · split at h
        · rename_i q hq
          simp only [Option.some.injEq, Bool.and_eq_true, beq_iff_eq] at h
          obtain ⟨rfl, rfl⟩ := h
          rw [rowEq_eq hq]
        · cases h
theorem keyEq_eq {a b : PV} (h : keyEq a b = some true) : a = b := by
 unfold keyEq at h
 split at h
 ·simp_all
 ·simp_all
 ·simp_all
 ·rw [rowEq_eq h]
 ·cases h
theorem sameNow_of {d : TypeDesc} {v u : Value} {p q : PV} {r : Bool} (hv : PRep w S v p) (hu : PRep w S u q) (hd : IsKey d v) (h : keyEq p q = some r) : Instr.sameNow d v u = some r := by
 unfold keyEq at h
 split at h
 ·cases hv; cases hu
  split at h
  ·rename_i hk; subst hk
   cases d <;> simp [IsKey] at hd
   simp only [Option.some.injEq] at h; subst h
   simp [Instr.sameNow]
  ·cases h
 ·cases hv; cases hu
  cases d <;> simp [IsKey] at hd
  simp only [Option.some.injEq] at h; subst h
  rename_i s1 s2
  have : (s1 == s2) = (s1.data.toList == s2.data.toList) := by
   rw [Bool.eq_iff_iff, bytes_beq]
   simp
   constructor
   ·intro h; rw [h]
   ·intro h; cases s1; cases s2; simp_all
  simp [Instr.sameNow, this]
 ·cases hv; cases hu
  cases d <;> simp [IsKey] at hd
  simp only [Option.some.injEq] at h; subst h
  simp [Instr.sameNow]
 ·cases hv
  cases d <;> simp [IsKey] at hd
 ·cases h
theorem keyEq_scal {d : TypeDesc} {v : Value} {p q : PV} {r : Bool} (hv : PRep w S v p) (hd : IsKey d v) (h : keyEq p q = some r) : (∃ k n, p = .int k n) ∨ (∃ b, p = .bool b) ∨ ∃ l, p = .str l := by
 unfold keyEq at h
 split at h
 ·exact .inl ⟨_, _, rfl⟩
 ·exact .inr (.inr ⟨_, rfl⟩)
 ·exact .inr (.inl ⟨_, rfl⟩)
 ·cases hv
  cases d <;> simp [IsKey] at hd
 ·cases h
def EntRel (w : World) (S : Nat → Prop) (μ : Mu) (k : Nat) (m : MapEntry) (e : PV × GV) : Prop := PRep w S m.key e.1 ∧ VRel w S μ k m.val e.2
theorem find_run {d : TypeDesc} {v : Value} {p : PV} {k : Nat} (hv : PRep w S v p) (hd : IsKey d v) : ∀ (ms : List MapEntry) (es : List (PV × GV)) (i : Nat) (r : Option (Nat × GV)), ms.length = es.length →
    (∀ (j : Nat) (m : MapEntry) (e : PV × GV), ms[j]? = some m → es[j]? = some e → EntRel w S μ k m e) → findEntry p es i = some r →
    ∃ r', Instr.findNow d v ms i = some r' ∧ (match r, r' with
      | none, none => True
      | some (n, g), some (n', u) => n = n' ∧ VRel w S μ k u g ∧ i ≤ n ∧ ∃ m, ms[n - i]? = some m ∧ m.key = v
      | _, _ => False)
  | [], es, i, r, hl, _, h => by
    have : es = [] := List.eq_nil_of_length_eq_zero (by simpa using hl.symm)
    subst this
    simp only [findEntry, Option.some.injEq] at h; subst h
    exact ⟨none, rfl, trivial⟩
  | m :: ms, es, i, r, hl, hr, h => by
    cases es with
    | nil => simp at hl
    | cons e es =>
    obtain ⟨q, g⟩ := e
    obtain ⟨h1, h2⟩ := hr 0 m (q, g) (by simp) (by simp)
    simp only [findEntry] at h
    split at h
    · rename_i hq
      simp only [Option.some.injEq] at h; subst h
      refine ⟨some (i, m.val), by simp [Instr.findNow, sameNow_of hv h1 hd hq], rfl, h2, Nat.le_refl _, m, by simp, ?_⟩
      have hsc := keyEq_scal hv hd hq
      have e := keyEq_eq hq
      subst e
      rw [scalV_of hv hsc]; exact scalV_of h1 hsc
    · rename_i hq
      obtain ⟨r', a1, a2⟩ := find_run hv hd ms es (i + 1) r (by simpa using hl) (fun j m' e' a b => hr (j + 1) m' e' (by simpa using a) (by simpa using b)) h
      refine ⟨r', by simp [Instr.findNow, sameNow_of hv h1 hd hq, a1], ?_⟩
      match r, r', a2 with
      | none, none, _ => trivial
      | some (n, g), some (n', u), a2 =>
        obtain ⟨b1, b2, b3, m', b4, b5⟩ := a2
        refine ⟨b1, b2, by omega, m', ?_, b5⟩
        have : n - i = (n - (i + 1)) + 1 := by omega
        rw [this]; simpa using b4
    · cases h
theorem rowEq_fits : ∀ {ks : List SK} {a b : List PV} {q : Bool}, fitsRow ks a = true → rowEq a b = some q → eqRow ks a b = some q
  | [], a, b, q, hf, h => by cases a <;> simp [fitsRow] at hf; cases b <;> simp_all [rowEq, eqRow]
  | s :: ks, [], b, q, hf, h => by cases s <;> simp [fitsRow] at hf
  | s :: ks, x :: a, [], q, hf, h => by cases x <;> simp [rowEq] at h
  | s :: ks, x :: a, y :: b, q, hf, h => by
    cases s <;> cases x <;> simp only [fitsRow, Bool.false_eq_true] at hf
    all_goals cases y <;> simp only [rowEq] at h
    all_goals first | (cases h; done) | skip
    · simp only [Bool.and_eq_true, decide_eq_true_eq] at hf
      obtain ⟨rfl, hf⟩ := hf
      split at h
      · rename_i hk; subst hk
        split at h
        · rename_i q' hq
          simp only [eqRow, and_self, if_true, rowEq_fits hf hq]; exact h
        · cases h
      · cases h
    · split at h
      · rename_i q' hq
        simp only [eqRow, rowEq_fits hf hq]; exact h
      · cases h
    · split at h
      · rename_i q' hq
        simp only [eqRow, rowEq_fits hf hq]; exact h
      · cases h
theorem rowEq_self : ∀ {ks : List SK} {a : List PV}, fitsRow ks a = true → rowEq a a = some true
  | [], a, hf => by cases a <;> simp_all [fitsRow, rowEq]
  | s :: ks, [], hf => by cases s <;> simp [fitsRow] at hf
  | s :: ks, x :: a, hf => by
    cases s <;> cases x <;> simp only [fitsRow, Bool.false_eq_true] at hf
    · simp only [Bool.and_eq_true] at hf
      simp [rowEq, rowEq_self hf.2]
    · simp [rowEq, rowEq_self hf]
    · simp [rowEq, rowEq_self hf]
theorem PRep.row_inv {v : Value} {a : List PV} (h : PRep w S v (.agg a)) (hp : ∀ p ∈ a, (∃ k n, p = .int k n) ∨ (∃ b, p = .bool b) ∨ ∃ l, p = .str l) : v = .agg (a.map scalV).toArray := by
 have h0 : VRel w S (fun _ _ => none) 0 v (.pure (.agg a)) := .pure _ _ h
 obtain ⟨vs, rfl, hc⟩ := h0.agg_inv
 have := scal_cells hc hp
 rw [← this]
theorem sameBits_self (a : List PV) (n : Nat) (hp : ∀ p ∈ a, (∃ k n, p = .int k n) ∨ (∃ b, p = .bool b) ∨ ∃ l, p = .str l) : Instr.sameBits (n + 1) (.agg (a.map scalV).toArray) (.agg (a.map scalV).toArray) = true := by
  have h1 : ∀ p ∈ a, Instr.sameBits n (scalV p) (scalV p) = true := fun p hp' => by
    rcases hp p hp' with ⟨k, m, rfl⟩ | ⟨b, rfl⟩ | ⟨l, rfl⟩
    · cases n <;> simp [scalV, Instr.sameBits]
    · cases n <;> simp [scalV, Instr.sameBits]
    · have : ((⟨l.toArray⟩ : ByteArray) == ⟨l.toArray⟩) = true := by rw [bytes_beq]
      cases n <;> simp [scalV, Instr.sameBits, this]
  simp only [Instr.sameBits, beq_self_eq_true, Bool.true_and, List.all_eq_true]
  intro x hx
  have : ∀ (l : List PV), (∀ p ∈ l, Instr.sameBits n (scalV p) (scalV p) = true) → ∀ x ∈ (l.map scalV).zip (l.map scalV), Instr.sameBits n x.1 x.2 = true := by
    intro l
    induction l with
    | nil => intro _ x hx; simp at hx
    | cons p l ih =>
      intro hl x hx
      simp only [List.map_cons, List.zip_cons_cons, List.mem_cons] at hx
      rcases hx with rfl | hx
      · exact hl p (by simp)
      · exact ih (fun q hq => hl q (by simp [hq])) x hx
  exact this a h1 x (by simpa using hx)
theorem key_run (K : Ctx) (hK : CtxOk K) {kt : TypeId} {v : Value} {p : PV} {k : Nat} (hv : PRep w S v p) (h : keyFitsK K kt p = true) :
    (∀ em, (Instr.checkKey em 10000 kt v).run K.P w = .ok () w) ∧
    (∀ (ms : List MapEntry) (es : List (PV × GV)) (r : Option (Nat × GV)), ms.length = es.length → (∀ (j : Nat) (m : MapEntry) (e : PV × GV), ms[j]? = some m → es[j]? = some e → EntRel w S μ k m e) → findEntry p es 0 = some r →
      ∃ r', (Instr.findKey kt v ms).run K.P w = .ok r' w ∧ (match r, r' with
        | none, none => True
        | some (n, g), some (n', u) => n = n' ∧ VRel w S μ k u g ∧ ∃ m, ms[n]? = some m ∧ m.key = v
        | _, _ => False)) ∧
    (Instr.keyThatStays v v).run K.P w = .ok v w := by
  unfold keyFitsK at h
  simp only [Bool.or_eq_true] at h
  rcases h with h | h
  · obtain ⟨d, d1, d2, d3⟩ := keyFits_is hv h
    refine ⟨fun em => run_checkKey d1 d2 em 9999, fun ms es r hl hr hf => ?_, by simpa using run_keyThatStays d2⟩
    obtain ⟨r', f1, f2⟩ := find_run hv d2 ms es 0 r hl hr hf
    refine ⟨r', run_findKey (w := w) d1 f1, ?_⟩
    match r, r', f2 with
    | none, none, _ => trivial
    | some (n, g), some (n', u), f2 =>
      obtain ⟨b1, b2, _, m, b4, b5⟩ := f2
      exact ⟨b1, b2, m, by simpa using b4, b5⟩
  · split at h
    · rename_i ks a d0 hks hund
      obtain ⟨e1, e2⟩ := hK.eqs kt ks hks
      have hself := rowEq_fits h (rowEq_self h)
      have hsc := (eqRow_scal ks a a true hself).1
      have hva := hv.row_inv hsc
      subst hva
      refine ⟨fun em => (e2 a a true hself w).2 em, ?_, ?_⟩
      · have ask : ∀ (ms : List MapEntry) (es : List (PV × GV)) (i : Nat) (r : Option (Nat × GV)), ms.length = es.length → (∀ (j : Nat) (m : MapEntry) (e : PV × GV), ms[j]? = some m → es[j]? = some e → EntRel w S μ k m e) →
            findEntry (.agg a) es i = some r → ∃ r', (Instr.findAsking kt (.agg (a.map scalV).toArray) ms i).run K.P w = .ok r' w ∧ (match r, r' with
              | none, none => True
              | some (n, g), some (n', u) => n = n' ∧ VRel w S μ k u g ∧ i ≤ n ∧ ∃ m, ms[n - i]? = some m ∧ m.key = .agg (a.map scalV).toArray
              | _, _ => False) := by
          intro ms
          induction ms with
          | nil =>
            intro es i r hl hr hf
            have : es = [] := List.eq_nil_of_length_eq_zero (by simpa using hl.symm)
            subst this
            simp only [findEntry, Option.some.injEq] at hf; subst hf
            exact ⟨none, by simp [Instr.findAsking], trivial⟩
          | cons m ms ih =>
            intro es i r hl hr hf
            cases es with
            | nil => simp at hl
            | cons e es =>
            obtain ⟨q, g⟩ := e
            obtain ⟨h1, h2⟩ := hr 0 m (q, g) (by simp) (by simp)
            simp only [findEntry] at hf
            have heq : ∀ bq, keyEq (.agg a) q = some bq → (Op.equal kt (.agg (a.map scalV).toArray) m.key).run K.P w = .ok bq w := fun bq hq => by
              cases q <;> simp only [keyEq] at hq
              all_goals first | (cases hq; done) | skip
              rename_i b
              have hr := rowEq_fits h hq
              have hb := (eqRow_scal ks a b bq hr).2
              rw [h1.row_inv hb]
              exact (e2 a b bq hr w).1
            split at hf
            · rename_i hq
              simp only [Option.some.injEq] at hf; subst hf
              refine ⟨some (i, m.val), by simp [Instr.findAsking, heq true hq], rfl, h2, Nat.le_refl _, m, by simp, ?_⟩
              cases q <;> simp only [keyEq] at hq
              all_goals first | (cases hq; done) | skip
              rename_i b
              obtain rfl := rowEq_eq hq
              exact PRep.row_inv h1 hsc
            · rename_i hq
              obtain ⟨r', a1, a2⟩ := ih es (i + 1) r (by simpa using hl) (fun j m' e' a b => hr (j + 1) m' e' (by simpa using a) (by simpa using b)) hf
              refine ⟨r', by simp [Instr.findAsking, heq false hq, a1], ?_⟩
              match r, r', a2 with
              | none, none, _ => trivial
              | some (n, g), some (n', u), a2 =>
                obtain ⟨b1, b2, b3, m', b4, b5⟩ := a2
                refine ⟨b1, b2, by omega, m', ?_, b5⟩
                have : n - i = (n - (i + 1)) + 1 := by omega
                rw [this]; simpa using b4
            · cases hf
        intro ms es r hl hr hf
        have hkey : (Instr.findKey kt (.agg (a.map scalV).toArray) ms).run K.P w = (match ms with | [] => .ok none w | ms => (Instr.findAsking kt (.agg (a.map scalV).toArray) ms).run K.P w) := by
          unfold Instr.findKey
          have hd : (underlying kt).run K.P w = .ok d0 w := r_underlying w hund
          cases ms with
          | nil => simp [hd, Instr.findNow]
          | cons m ms =>
            have : Instr.sameNow d0 (.agg (a.map scalV).toArray) m.key = none := by cases d0 <;> rfl
            simp [hd, Instr.findNow, this]
        cases ms with
        | nil =>
          have : es = [] := List.eq_nil_of_length_eq_zero (by simpa using hl.symm)
          subst this
          simp only [findEntry, Option.some.injEq] at hf; subst hf
          exact ⟨none, hkey, trivial⟩
        | cons m ms =>
          obtain ⟨r', a1, a2⟩ := ask (m :: ms) es 0 r hl hr hf
          refine ⟨r', hkey.trans a1, ?_⟩
          match r, r', a2 with
          | none, none, _ => trivial
          | some (n, g), some (n', u), a2 =>
            obtain ⟨b1, b2, _, m', b4, b5⟩ := a2
            exact ⟨b1, b2, m', by simpa using b4, b5⟩
      · have := sameBits_self a 9999 hsc
        unfold Instr.keyThatStays
        rw [this]
        rfl
    · cases h
theorem tmap_some {t kt e : TypeId} (h : tmap P t = some (kt, e)) : P.underlying t = some (.map kt e) := by
 unfold tmap at h
 split at h
 ·rename_i hu; simp at h; obtain ⟨rfl, rfl⟩ := h; exact hu
 ·cases h
theorem mapOf_run (hH : HRel w S μ H) {k : Nat} {v : Value} {x : GV} {es : List (PV × GV)} (hx : VRel w S μ k v x) (h : mapOf H x = some es) :
  ∃ ms : Array MapEntry, ((v = .map none ∧ ms = #[]) ∨ ∃ b clock, v = .map (some b) ∧ w.heap[b]? = some (.map ms clock)) ∧ ms.toList.length = es.length ∧
   ∀ (j : Nat) (m : MapEntry) (e : PV × GV), ms.toList[j]? = some m → es[j]? = some e → EntRel w S μ k m e := by
 unfold mapOf at h
 split at h
 ·simp only [Option.some.injEq] at h; subst h
  have := hx.pv
  cases this
  exact ⟨#[], .inl ⟨rfl, rfl⟩, rfl, fun j m e h => by simp at h⟩
 ·rename_i nm
  split at h
  ·rename_i es' hg
   simp only [Option.some.injEq] at h; subst h
   cases hx with
   | map nm b' hl hm =>
   obtain ⟨b, ms, clock, h1, h2, h3, h4, h5⟩ := hH.blk _ _ hg _ _ hm
   rw [hm] at h1; simp only [Option.some.injEq] at h1; subst h1
   refine ⟨ms, .inr ⟨b', clock, rfl, h3⟩, by simpa using h4, fun j m e a b => ?_⟩
   have hj : j < es'.length := by rcases Nat.lt_or_ge j es'.length with h | h; exact h; rw [List.getElem?_eq_none h] at b; cases b
   obtain ⟨m', m1, m2, m3⟩ := h5 j hj
   rw [List.getElem?_eq_getElem hj] at b
   simp only [Option.some.injEq] at b; subst b
   have : ms[j]? = some m := by simpa using a
   rw [this] at m1; simp only [Option.some.injEq] at m1; subst m1
   exact ⟨m2, m3.up hl⟩
  ·cases h
 ·cases h
theorem lookup_run {t kt e : TypeId} {vx vk : Value} {ok : Bool} {ms : Array MapEntry} {r : Option (Nat × Value)} {z : Value} (hu : P.underlying t = some (.map kt e))
  (hv : (vx = .map none ∧ ms = #[]) ∨ ∃ b clock, vx = .map (some b) ∧ w.heap[b]? = some (.map ms clock)) (hck : ∀ em, (Instr.checkKey em 10000 kt vk).run P w = .ok () w)
  (hf : (Instr.findKey kt vk ms.toList).run P w = .ok r w) (hz : r = none → (zeroValue e).run P w = .ok z w) :
  (Instr.lookup t vx vk ok).run P w = .ok (if ok then .tuple #[(match r with | some (_, v) => v | none => z), .bool r.isSome] else (match r with | some (_, v) => v | none => z)) w := by
 rcases hv with ⟨rfl, rfl⟩ | ⟨b, clock, rfl, hb⟩
 ·cases r with
  | none => have := hz rfl; cases ok <;> simp at hf <;> simp [Instr.lookup, r_underlying w hu, hck, hf, this]
  | some x => cases ok <;> simp at hf <;> simp [Instr.lookup, r_underlying w hu, hck, hf]
 ·have hg := Go.MapKept.run_getObj_map (P := P) hb
  cases r with
  | none => have := hz rfl; cases ok <;> simp [Instr.lookup, r_underlying w hu, hg, hck, hf, this]
  | some x => cases ok <;> simp [Instr.lookup, r_underlying w hu, hg, hck, hf]
theorem pair_rel {k : Nat} {v : Value} {g : GV} (h : VRel w S μ k v g) (b : Bool) : VRel w S μ k (.tuple #[v, .bool b]) (mkTuple [g, .pure (.bool b)]) :=
 mkTuple_rel (by simp) fun j hj => by
  simp at hj
  match j, hj with
  | 0, _ => simpa using h
  | 1, _ => simpa using VRel.pure _ _ (.bool b)
theorem lookup_sound (K : Ctx) (hK : CtxOk K) (hH : HRel w S μ H) {k : Nat} {t : TypeId} {vx vk : Value} {x y r : GV} {ok : Bool} (hx : VRel w S μ k vx x) (hy : VRel w S μ k vk y)
  (h : glookup K t H x y ok = some r) : ∃ u, (Instr.lookup t vx vk ok).run K.P w = .ok u w ∧ VRel w S μ k u r := by
 unfold glookup at h
 split at h
 ·rename_i kt e p es ht hes
  have hu := tmap_some ht
  split at h
  ·cases h
  ·rename_i hf
   obtain ⟨hck, hfind, _⟩ := key_run (μ := μ) (k := k) K hK hy.pv (by simpa using hf)
   obtain ⟨ms, m1, m2, m3⟩ := mapOf_run hH hx hes
   split at h
   ·rename_i i g hfe
    obtain ⟨r', hfk, f2⟩ := hfind _ _ _ m2 m3 hfe
    match r', f2 with
    | some (n', u), f2 =>
    obtain ⟨_, f3, _⟩ := f2
    simp only [Option.some.injEq] at h; subst h
    refine ⟨_, lookup_run (z := undef) hu m1 hck hfk (by simp), ?_⟩
    cases ok with
    | true => simpa using pair_rel f3 true
    | false => simpa using f3
   ·rename_i hfe
    obtain ⟨r', hfk, f2⟩ := hfind _ _ _ m2 m3 hfe
    match r', f2 with
    | none, _ =>
    split at h
    ·rename_i z hz
     simp only [Option.some.injEq] at h; subst h
     obtain ⟨v, z1, rfl⟩ := r_zero (P := K.P) w hz
     have hv : VRel w S μ k v (ofConst v) := ofConst_rel v
     refine ⟨_, lookup_run hu m1 hck hfk (fun _ => z1), ?_⟩
     cases ok with
     | true => simpa using pair_rel hv false
     | false => simpa using hv
    ·cases h
   ·cases h
 ·cases h
theorem HRel.mapTurn (hH : HRel w S μ H) {nm : Nm} {es es' : List (PV × GV)} {b : Nat} {ms ms' : Array MapEntry} {clock clock' : Nat} (hg : H.get nm = some (.map es)) (hm : μ nm 0 = some b) (hS : ¬ S b)
  (hb : w.heap[b]? = some (.map ms clock)) (hs : ms'.size = es'.length)
  (hr : ∀ (j : Nat) (m : MapEntry) (e : PV × GV), ms'[j]? = some m → es'[j]? = some e → EntRel w S μ nm.1 m e) :
  HRel { w with heap := w.heap.setIfInBounds b (.map ms' clock') } S μ (H.set nm (.map es')) ∧ Ev ℓ w S μ { w with heap := w.heap.setIfInBounds b (.map ms' clock') } S μ := by
 obtain ⟨e1, e2⟩ := heap_set (o' := .map ms' clock') hb
 have hne : ∀ b', S b' → b' ≠ b := fun b' h e => hS (e ▸ h)
 have hshp : ∀ b' y, w.shape? b' = some y → (({ w with heap := w.heap.setIfInBounds b (.map ms' clock') } : World)).shape? b' = some y := fun b' y h => by
  unfold World.shape? at h ⊢
  by_cases e : b' = b
  ·subst e; rw [hb] at h; simp at h
  ·show (match (w.heap.setIfInBounds b (.map ms' clock'))[b']? with | _ => _) = _
   simp only [e2 b' e]; exact h
 refine hH.turn ℓ (Heap.get_lt hg) rfl rfl rfl (by simp) (fun _ h => h) (fun b h => .inl h) (fun b' h => by simpa using hH.slt b' h) (fun k hk ho => ?_) hshp (fun b' r h => ?_)
  (fun n t _ => rfl) (fun t b h => h) (fun t b h => .inl ⟨t, h⟩) (fun t b' h => by simpa using hH.lt _ _ _ h) ⟨b, ms', clock', hm, hS, e1, hs, fun j hj => ?_⟩
 ·refine e2 k fun e => ?_
  subst e
  rcases ho with ho | ho
  ·exact hS ho
  ·exact ho 0 hm
 ·by_cases e : b' = b
  ·subst e; rw [hb] at h; cases h
  ·exact ⟨r, by show (w.heap.setIfInBounds b _)[b']? = _; rw [e2 b' e]; exact h⟩
 ·have hj' : j < ms'.size := by omega
  obtain ⟨q1, q2⟩ := hr j ms'[j] es'[j] (by simp [hj']) (by simp [hj])
  refine ⟨ms'[j], by simp [hj'], q1.mono (fun _ h => h) fun b' h => e2 b' (hne b' h), q2.mono (fun _ h => h) (fun b' h => e2 b' (hne b' h)) hshp (fun _ _ _ _ h => h) (Nat.le_refl _)⟩
theorem lowerVal_rel (ℓ : Nat) (hH : HRel w S μ H) {k l0 : Nat} {v : Value} {g g' : GV} {H1 : Heap} (hv : VRel w S μ k v g) (h : lowerVal H l0 g = some (g', H1)) :
  ∃ S', HRel w S' μ H1 ∧ Ev ℓ w S μ w S' μ ∧ VRel w S' μ l0 v g' ∧ SameBox H H1 := by
 unfold lowerVal at h
 split at h
 ·rename_i l
  obtain ⟨vs, rfl, hc⟩ := hv.cells
  simp only [Option.some.injEq, Prod.mk.injEq] at h
  obtain ⟨rfl, rfl⟩ := h
  obtain ⟨S', a1, a2, a3, a4⟩ := lowerCells_rel ℓ l0 hH hc
  exact ⟨S', a1, a2, mkAgg_rel' a3, a4⟩
 ·cases h
 ·cases h
 ·simp only [Option.some.injEq, Prod.mk.injEq] at h
  obtain ⟨rfl, rfl⟩ := h
  exact lowerCell_rel ℓ hH l0 hv
theorem mapUpdate_sound (K : Ctx) (hK : CtxOk K) (hH : HRel w S μ H) {k : Nat} {t : TypeId} {vm vk vv : Value} {m y v : GV} {H' : Heap} (hm : VRel w S μ k vm m) (hy : VRel w S μ k vk y) (hv : VRel w S μ k vv v)
  (h : gmapUpdate K t H m y v = some H') :
  OpOk ℓ w S μ H ((do Instr.mapUpdate t vm vk vv; pure Next.skip : Sem Next).run K.P w) gdead H' := by
 unfold gmapUpdate at h
 split at h
 ·rename_i kt e nm p ht
  have hu := tmap_some ht
  split at h
  ·rename_i v' H1 hlow
   obtain ⟨S1, a1, a2, a3, a4⟩ := lowerVal_rel ℓ hH hv hlow
   split at h
   ·rename_i es hg
    cases hm with
    | map nm b' hl hmm =>
    obtain ⟨b, ms, clock, h1, h2, h3, h4, h5⟩ := a1.blk _ _ hg _ _ hmm
    have hent : ∀ (j : Nat) (m : MapEntry) (e : PV × GV), ms.toList[j]? = some m → es[j]? = some e → EntRel w S1 μ nm.1 m e := fun j m e a b => by
     have hj : j < es.length := by rcases Nat.lt_or_ge j es.length with h | h; exact h; rw [List.getElem?_eq_none h] at b; cases b
     obtain ⟨m', m1, m2, m3⟩ := h5 j hj
     rw [List.getElem?_eq_getElem hj] at b
     simp only [Option.some.injEq] at b; subst b
     have : ms[j]? = some m := by simpa using a
     rw [this] at m1; simp only [Option.some.injEq] at m1; subst m1
     exact ⟨m2, m3⟩
    rw [hmm] at h1; simp only [Option.some.injEq] at h1; subst h1
    have hy1 : PRep w S1 vk p := hy.pv.mono a2.sub (fun _ _ => rfl)
    have hgo := Go.MapKept.run_getObj_map (P := K.P) h3
    split at h
    ·cases h
    ·rename_i hf
     obtain ⟨hck, hfind, hstay⟩ := key_run (μ := μ) (k := nm.1) K hK hy1 (by simpa using hf)
     split at h
     ·rename_i i g hfe
      simp only [Option.some.injEq] at h; subst h
      obtain ⟨r', f1, f2⟩ := hfind _ _ _ (by simpa using h4) hent hfe
      match r', f1, f2 with
      | some (n', u), hfk, f2 =>
      obtain ⟨f0, f3, m, f5, f6⟩ := f2
      subst f0
      have hmi : ms[i]? = some m := by simpa using f5
      obtain ⟨q1, q2⟩ := HRel.mapTurn (ℓ := ℓ) a1 hg hmm h2 h3 (ms' := ms.modify i fun e => { e with key := vk, val := vv }) (es' := es.set i (p, v')) (clock' := clock) (by simpa using h4)
       (fun j m e a b => by
        rw [Array.getElem?_modify] at a
        rw [List.getElem?_set] at b
        by_cases hij : i = j
        ·subst hij
         rw [if_pos rfl] at a b
         rw [hmi] at a
         simp only [Option.map_some, Option.some.injEq] at a; subst a
         split at b
         ·simp only [Option.some.injEq] at b; subst b
          exact ⟨hy1, a3⟩
         ·cases b
        ·rw [if_neg hij] at a b
         exact hent j m e (by simpa using a) b)
      refine ⟨.skip, undef, _, S1, μ, ?_, .inr ⟨rfl, rfl⟩, vdead _, q1, a2.trans q2, by rw [Heap.length_set]; exact a4.1⟩
      simp [Instr.mapUpdate, r_underlying w hu, hgo, hck, hfk, hmi, f6, hstay, run_setObj_map _ h3]
     ·rename_i hfe
      simp only [Option.some.injEq] at h; subst h
      obtain ⟨r', f1, f2⟩ := hfind _ _ _ (by simpa using h4) hent hfe
      match r', f1, f2 with
      | none, hfk, f2 =>
      obtain ⟨q1, q2⟩ := HRel.mapTurn (ℓ := ℓ) a1 hg hmm h2 h3 (ms' := ms.push { key := vk, val := vv, born := clock }) (es' := es ++ [(p, v')]) (clock' := clock + 1) (by simp [h4])
       (fun j m e a b => by
        rw [Array.getElem?_push] at a
        split at a
        ·rename_i hj
         simp only [Option.some.injEq] at a; subst a
         rw [hj, h4] at b
         simp at b; subst b
         exact ⟨hy1, a3⟩
        ·rename_i hj
         have hlt : j < ms.size := by rcases Nat.lt_or_ge j ms.size with h | h; exact h; rw [Array.getElem?_eq_none h] at a; cases a
         rw [List.getElem?_append_left (by omega)] at b
         exact hent j m e (by simpa using a) b)
      refine ⟨.skip, undef, _, S1, μ, ?_, .inr ⟨rfl, rfl⟩, vdead _, q1, a2.trans q2, by rw [Heap.length_set]; exact a4.1⟩
      simp [Instr.mapUpdate, r_underlying w hu, hgo, hck, hfk, run_setObj_map _ h3]
     ·cases h
   ·cases h
  ·cases h
 ·cases h
end
end
section
section
variable {w : World} {S : Nat → Prop} {μ : Mu} {H : Heap} {P : Program} {ℓ : Nat}
theorem OpOk.ofRun {k : Nat} {s : Sem Value} {v : GV} (hH : HRel w S μ H) (hk : k ≤ H.length - 1) (h : ∃ u, s.run P w = .ok u w ∧ VRel w S μ k u v) :
  OpOk ℓ w S μ H ((do pure (Next.value (← s)) : Sem Next).run P w) v H := by
 obtain ⟨u, h1, h2⟩ := h
 exact .of hH (h2.up hk) (by simp [h1])
theorem mkFunc_rel {k : Nat} {f : FuncId} {a c : Array Value} {la lc : List GV} (h1 : a.size = la.length) (h2 : c.size = lc.length) (hr1 : ∀ j, j < la.length → VRel w S μ k (a.getD j undef) (la.getD j gdead))
  (hr2 : ∀ j, j < lc.length → VRel w S μ k (c.getD j undef) (lc.getD j gdead)) : VRel w S μ k (.func (.func f) a c) (mkFunc f la lc) := by
 unfold mkFunc
 split
 ·rename_i he
  simp only [Bool.and_eq_true, List.isEmpty_iff] at he
  obtain ⟨rfl, rfl⟩ := he
  have ea : a = #[] := by simpa using h1
  have ec : c = #[] := by simpa using h2
  subst ea; subst ec
  exact .pure _ _ (.fn f)
 ·exact .func f a c la lc h1 h2 hr1 hr2
theorem evs_rel {k : Nat} {a : Act} {s : Slots} (hs : ∀ t, VRel w S μ k (a.tmps.getD t undef) (look s t)) (xs : Array Operand) :
  (xs.map a.eval).size = (xs.toList.map (ev s)).length ∧ ∀ j, j < (xs.toList.map (ev s)).length → VRel w S μ k ((xs.map a.eval).getD j undef) ((xs.toList.map (ev s)).getD j gdead) := by
 refine ⟨by simp, fun j hj => ?_⟩
 have hj' : j < xs.size := by simpa using hj
 have := ev_rel hs xs[j]
 simpa [Array.getD_eq_getD_getElem?, List.getD_eq_getElem?_getD, hj'] using this
theorem tuple_inv {k : Nat} {v : Value} {l : List GV} (h : VRel w S μ k v (.tuple l)) : ∃ vs : Array Value, v = .tuple vs ∧ vs.size = l.length ∧ ∀ j, j < l.length → VRel w S μ k (vs.getD j undef) (l.getD j gdead) := by
 cases h with
 | tuple vs l h hr => exact ⟨vs, rfl, h, hr⟩
theorem tuple_pure_inv {k : Nat} {v : Value} {l : List PV} (h : VRel w S μ k v (.pure (.tuple l))) : ∃ vs : Array Value, v = .tuple vs ∧ vs.size = l.length ∧ ∀ j, j < l.length → PRep w S (vs.getD j undef) (l.getD j .dead) := by
 have := h.pv
 cases this with
 | tuple vs l h hr => exact ⟨vs, rfl, h, hr⟩
theorem gop_sound (K : Ctx) (hK : CtxOk K) {fn : FuncId} {o : Oper} {a : Act} {s : Slots} {v : GV} {H' : Heap} (hH : HRel w S μ H)
    (hs : ∀ t, VRel w S μ (H.length - 1) (a.tmps.getD t undef) (look s t)) (h : gop K fn o s H = some (v, H')) : OpOk ℓ w S μ H ((execOp a.eval o).run K.P w) v H' := by
  obtain ⟨dst, op, type, pos, after, guard⟩ := o
  have hev := fun x => ev_rel hs x
  unfold gop at h
  unfold execOp
  cases op with
  | move x =>
    simp only [Option.some.injEq, Prod.mk.injEq] at h ⊢
    obtain ⟨rfl, rfl⟩ := h
    exact .same hH (hev x)
  | assign x =>
    simp only [Option.some.injEq, Prod.mk.injEq] at h ⊢
    obtain ⟨rfl, rfl⟩ := h
    exact .same hH (hev x)
  | pick c x y =>
    simp only at h ⊢
    split at h
    · rename_i b hb
      have hc := hev c
      rw [hb] at hc
      simp only [Option.some.injEq, Prod.mk.injEq] at h
      obtain ⟨rfl, rfl⟩ := h
      rw [hc.bool_inv]
      cases b with
      | true => exact .of hH (by simpa using hev x) (by simp [asBool])
      | false => exact .of hH (by simpa using hev y) (by simp [asBool])
    · cases h
  | alloc t =>
    simp only at h ⊢
    split at h
    · rename_i d z hz
      split at h
      · rename_i cs hcs
        split at h
        · rename_i nm H1 hnew
          simp only [Option.some.injEq, Prod.mk.injEq] at h
          obtain ⟨rfl, rfl⟩ := h
          exact alloc_sound hH hz hcs hnew
        · cases h
      · cases h
    · cases h
  | box t x =>
    simp only at h ⊢
    split at h
    · rename_i d cs hcs
      split at h
      · rename_i nm H1 hnew
        simp only [Option.some.injEq, Prod.mk.injEq] at h
        obtain ⟨rfl, rfl⟩ := h
        exact box_sound hH (hev x) hcs hnew
      · cases h
    · cases h
  | build t parts =>
    simp only at h ⊢
    split at h
    · rename_i z hz
      split at h
      · rename_i zs hzs
        split at h
        · rename_i cs hcs
          simp only [Option.some.injEq, Prod.mk.injEq] at h
          obtain ⟨rfl, rfl⟩ := h
          exact build_sound hH hs hz hzs hcs
        · cases h
      · cases h
    · cases h
  | buildSlice t len parts =>
    simp only at h ⊢
    split at h
    · rename_i e hu
      split at h
      · rename_i size z hsz hz
        split at h
        · rename_i zs hzs
          split at h
          · rename_i hc
            split at h
            · rename_i cs hcs
              split at h
              · rename_i h0
                simp only [Option.some.injEq, Prod.mk.injEq] at h
                obtain ⟨rfl, rfl⟩ := h
                have := lits_sound (ℓ := ℓ) hH hs hu hsz hz hzs hc.1 hc.2.1 hc.2.2 hcs
                rwa [if_pos h0] at this
              · rename_i h0
                split at h
                · rename_i ps hps
                  split at h
                  · rename_i d
                    split at h
                    · split at h
                      · rename_i nm H1 hnew
                        simp only [Option.some.injEq, Prod.mk.injEq] at h
                        obtain ⟨rfl, rfl⟩ := h
                        exact ownLit_sound hH hs hu hsz hz hzs hc.1 hc.2.1 hc.2.2 hcs hps hnew
                      · cases h
                    · simp only [Option.some.injEq, Prod.mk.injEq] at h
                      obtain ⟨rfl, rfl⟩ := h
                      exact lit_sound hH hs hu hsz hz hzs hc.1 hc.2.1 hc.2.2 hcs hps h0
                  · cases h
                · split at h
                  · rename_i d
                    split at h
                    · split at h
                      · rename_i nm H1 hnew
                        simp only [Option.some.injEq, Prod.mk.injEq] at h
                        obtain ⟨rfl, rfl⟩ := h
                        exact ownLits_sound hH hs hu hsz hz hzs hc.1 hc.2.1 hc.2.2 hcs hnew
                      · cases h
                    · simp only [Option.some.injEq, Prod.mk.injEq] at h
                      obtain ⟨rfl, rfl⟩ := h
                      have := lits_sound (ℓ := ℓ) hH hs hu hsz hz hzs hc.1 hc.2.1 hc.2.2 hcs
                      rwa [if_neg h0] at this
                  · simp only [Option.some.injEq, Prod.mk.injEq] at h
                    obtain ⟨rfl, rfl⟩ := h
                    have := lits_sound (ℓ := ℓ) hH hs hu hsz hz hzs hc.1 hc.2.1 hc.2.2 hcs
                    rwa [if_neg h0] at this
            · cases h
          · cases h
        · cases h
      · cases h
    · cases h
  | load t x =>
    simp only at h ⊢
    split at h
    · rename_i r hr
      simp only [Option.some.injEq, Prod.mk.injEq] at h
      obtain ⟨rfl, rfl⟩ := h
      exact .ofRun hH (Nat.le_refl _) (gload_sound hH (hev x) hr)
    · cases h
  | store t x y =>
    simp only at h ⊢
    split at h
    · rename_i H1 hr
      simp only [Option.some.injEq, Prod.mk.injEq] at h
      obtain ⟨rfl, rfl⟩ := h
      obtain ⟨w', S', μ', h1, h2, h3, h4⟩ := gstore_sound ℓ hH (hev x) (hev y) hr
      exact ⟨.skip, undef, w', S', μ', by simp [h1], .inr ⟨rfl, rfl⟩, vdead _, h2, h3, h4⟩
    · cases h
  | nilCheck x =>
    simp only at h ⊢
    have hx := hev x
    split at h
    all_goals first | (cases h; done) | skip
    all_goals
      rename_i he
      simp only [Option.some.injEq, Prod.mk.injEq] at h
      obtain ⟨rfl, rfl⟩ := h
      rw [he] at hx
      refine .of hH hx ?_
    all_goals generalize a.eval x = y at hx ⊢
    all_goals first | (cases hx; rfl; done) | (have hp := hx.pv; cases hp; rfl)
  | binOp op t x y z =>
    simp only at h ⊢
    split at h
    · rename_i p hp
      simp only [Option.some.injEq, Prod.mk.injEq] at h
      obtain ⟨rfl, rfl⟩ := h
      have hb : ∃ u, (eqGuard op t x y (a.eval x) (a.eval y)).run K.P w = .ok () w ∧ (binOp op t (a.eval x) (a.eval y)).run K.P w = .ok u w ∧ PRep w S u p := by
        unfold gbinN at hp
        split at hp
        · rename_i hn
          obtain rfl := isNilC_eq hn
          exact gnilEq_sound K (hev x) hp
        · exact gbin_sound K hK (x := x) (y := y) (hev x) (hev y) hp
      obtain ⟨u, h1, h2, h3⟩ := hb
      exact .of hH (.pure _ _ h3) (by simp [h1, h2])
    · cases h
  | unOp op t x =>
    simp only at h ⊢
    have hx := hev x
    split at h
    · rename_i b he
      simp only [Option.some.injEq, Prod.mk.injEq] at h
      obtain ⟨rfl, rfl⟩ := h
      rw [he] at hx; rw [hx.bool_inv]
      exact .of hH (.pure _ _ (.bool _)) (by simp [Op.unary])
    · rename_i k n he
      simp only [Option.some.injEq, Prod.mk.injEq] at h
      obtain ⟨rfl, rfl⟩ := h
      rw [he] at hx; rw [hx.int_inv]
      exact .of hH (.pure _ _ (.int k (k.wrap (-n)))) (by simp [Op.unary, Op.intArith])
    · cases h
  | convert src d x =>
    simp only at h ⊢
    have hx := hev x
    split at h
    · rename_i k k' n h1 h2 he
      simp only [Option.some.injEq, Prod.mk.injEq] at h
      obtain ⟨rfl, rfl⟩ := h
      rw [he] at hx; rw [hx.int_inv]
      exact .of hH (.pure _ _ (.int _ _)) (by simp [convert, r_underlying w h1, r_underlying w h2, Conv.intToInt])
    · rename_i k l h1 h2 he
      simp only [Option.some.injEq, Prod.mk.injEq] at h
      obtain ⟨rfl, rfl⟩ := h
      rw [he] at hx
      obtain ⟨str, e1, e2⟩ := hx.str_inv
      rw [e1] at hx ⊢
      exact .of hH hx (by simp [convert, r_underlying w h1, r_underlying w h2])
    · cases h
  | makeFunc f first cap =>
    cases f with
    | func f =>
      simp only [Option.some.injEq, Prod.mk.injEq] at h ⊢
      obtain ⟨rfl, rfl⟩ := h
      exact .of hH (mkFunc_rel (evs_rel hs first).1 (evs_rel hs cap).1 (evs_rel hs first).2 (evs_rel hs cap).2) (by simp [Instr.makeFunc])
    | _ => cases h
  | makeMap t r =>
    cases r with
    | some r => cases h
    | none =>
    simp only at h ⊢
    split at h
    · rename_i d
      split at h
      · rename_i nm H1 hnew
        simp only [Option.some.injEq, Prod.mk.injEq] at h
        obtain ⟨rfl, rfl⟩ := h
        obtain ⟨rfl, hl, hg, rfl⟩ := gnewAt_some hnew
        obtain ⟨h1, h2⟩ := hH.new ℓ hg hl (.map #[] 0) 0 (.map []) (by
          refine ⟨w.heap.size, #[], 0, Mu.upd_self _ _ _ _, fun h => ?_, alloc_new w _, rfl, fun j hj => by simp at hj⟩
          have := hH.slt _ h; omega)
        exact ⟨.value (.map (some w.heap.size)), _, _, S, _, by simp [Instr.makeMap], .inl rfl, .map _ _ (by simp [Heap.length_set]) (Mu.upd_self _ _ _ _), h1, h2, Heap.length_set _ _ _⟩
      · cases h
    · cases h
  | makeSlice t l c =>
    simp only at h ⊢
    split at h
    · rename_i e hu
      split at h
      · rename_i size bytes z kl l' kc c' d hsz hby hz hl hc
        split at h
        · rename_i zs hzs
          split at h
          · rename_i ps hps
            split at h
            · rename_i hcond
              obtain ⟨c1, c2, c3, c4, c5, c6⟩ := hcond
              split at h
              · rename_i nm H1 hnew
                simp only [Option.some.injEq, Prod.mk.injEq] at h
                obtain ⟨rfl, rfl⟩ := h
                have h1 := hev l
                have h2 := hev c
                rw [hl] at h1; rw [hc] at h2
                rw [h1.int_inv, h2.int_inv]
                exact makeSlice_sound hH hu hsz hby hz hzs hps c1 c2 c3 c4 c5 c6 hnew
              · cases h
            · cases h
          · cases h
        · cases h
      · cases h
    · cases h
  | slice t x lo hi mx =>
    simp only at h ⊢
    split at h
    · rename_i r hr
      simp only [Option.some.injEq, Prod.mk.injEq] at h
      obtain ⟨rfl, rfl⟩ := h
      exact .ofRun hH (Nat.le_refl _) (slice_sound K hs (hev x) hr)
    · cases h
  | fieldAddr st x f =>
    simp only at h ⊢
    split at h
    · rename_i off ft hf
      split at h
      · rename_i size hsz
        split at h
        · cases h
        · rename_i h0
          split at h
          · rename_i r hr
            simp only [Option.some.injEq, Prod.mk.injEq] at h
            obtain ⟨rfl, rfl⟩ := h
            exact .ofRun hH (Nat.le_refl _) (fieldAddr_sound (hev x) hf hsz h0 hr)
          · cases h
      · cases h
    · cases h
  | field t x f =>
    simp only at h ⊢
    split at h
    · rename_i off ft hf
      have hx := hev x
      split at h
      · rename_i ag size cs ha hsz he
        rw [he] at hx
        split at h
        · rename_i hle
          have key : ∃ r, (if off + size ≤ cs.length then (if ag then some (mkAgg ((cs.drop off).take size)) else cs[off]?) else none) = some r ∧ (r, H) = (v, H') := by
            rw [if_pos hle]
            cases ag with
            | true => simp at h ⊢; exact h
            | false =>
              simp at h ⊢
              split at h
              · rename_i q hq; simp at h; exact ⟨q, hq, h⟩
              · cases h
          obtain ⟨r, k1, k2⟩ := key
          simp only [Prod.mk.injEq] at k2
          obtain ⟨rfl, rfl⟩ := k2
          exact .ofRun hH (Nat.le_refl _) (field_sound hx hf ha hsz k1)
        · cases h
      · rename_i ag size cs ha hsz he
        rw [he] at hx
        split at h
        · rename_i hle
          have key : ∃ r, (if off + size ≤ cs.length then (if ag then some (GV.pure (.agg ((cs.drop off).take size))) else (match cs[off]? with | some p => some (.pure p) | none => none)) else none) = some r ∧ (r, H) = (v, H') := by
            rw [if_pos hle]
            cases ag with
            | true => simp at h ⊢; exact h
            | false =>
              simp at h ⊢
              split at h
              · rename_i q hq; simp at h; simp [hq]; exact h
              · cases h
          obtain ⟨r, k1, k2⟩ := key
          simp only [Prod.mk.injEq] at k2
          obtain ⟨rfl, rfl⟩ := k2
          exact .ofRun hH (Nat.le_refl _) (field_sound hx hf ha hsz k1)
        · cases h
      · cases h
    · cases h
  | indexAddr t x i =>
    simp only at h ⊢
    split at h
    · rename_i r hr
      simp only [Option.some.injEq, Prod.mk.injEq] at h
      obtain ⟨rfl, rfl⟩ := h
      exact .ofRun hH (Nat.le_refl _) (indexAddr_sound K (hev x) (hev i) hr)
    · cases h
  | index t x i =>
    simp only at h ⊢
    split at h
    · rename_i r hr
      simp only [Option.some.injEq, Prod.mk.injEq] at h
      obtain ⟨rfl, rfl⟩ := h
      exact .ofRun hH (Nat.le_refl _) (index_sound K (hev x) (hev i) hr)
    · cases h
  | lookup t x k ok =>
    simp only at h ⊢
    split at h
    · rename_i r hr
      simp only [Option.some.injEq, Prod.mk.injEq] at h
      obtain ⟨rfl, rfl⟩ := h
      exact .ofRun hH (Nat.le_refl _) (lookup_sound K hK hH (hev x) (hev k) hr)
    · cases h
  | mapUpdate t m k x =>
    simp only at h ⊢
    split at h
    · rename_i H1 hr
      simp only [Option.some.injEq, Prod.mk.injEq] at h
      obtain ⟨rfl, rfl⟩ := h
      exact mapUpdate_sound K hK hH (hev m) (hev k) (hev x) hr
    · cases h
  | extract t ix =>
    simp only at h ⊢
    have hx := hev t
    split at h
    · rename_i l he
      rw [he] at hx
      obtain ⟨vs, e1, e2, e3⟩ := tuple_inv hx
      split at h
      · rename_i q hq
        simp only [Option.some.injEq, Prod.mk.injEq] at h
        obtain ⟨rfl, rfl⟩ := h
        have hlt : ix < l.length := by rcases Nat.lt_or_ge ix l.length with h | h; exact h; rw [List.getElem?_eq_none h] at hq; cases hq
        have := e3 ix hlt
        rw [List.getD_eq_getElem?_getD, hq] at this
        have hv : vs[ix]? = some (vs.getD ix undef) := by simp [Array.getD_eq_getD_getElem?, show ix < vs.size by omega]
        rw [e1]
        exact .of hH this (by simp only [Instr.extract, hv]; rfl)
      · cases h
    · rename_i l he
      rw [he] at hx
      obtain ⟨vs, e1, e2, e3⟩ := tuple_pure_inv hx
      split at h
      · rename_i q hq
        simp only [Option.some.injEq, Prod.mk.injEq] at h
        obtain ⟨rfl, rfl⟩ := h
        have hlt : ix < l.length := by rcases Nat.lt_or_ge ix l.length with h | h; exact h; rw [List.getElem?_eq_none h] at hq; cases hq
        have := e3 ix hlt
        rw [List.getD_eq_getElem?_getD, hq] at this
        have hv : vs[ix]? = some (vs.getD ix undef) := by simp [Array.getD_eq_getD_getElem?, show ix < vs.size by omega]
        rw [e1]
        exact .of hH (.pure _ _ this) (by simp only [Instr.extract, hv]; rfl)
      · cases h
    · cases h
  | call c =>
    obtain ⟨callee, args, argTypes⟩ := c
    have hargs : ∀ (j : Nat) (x : Operand), args[j]? = some x → (args.map a.eval)[j]? = some (a.eval x) := fun j x h => by simp [h]
    cases callee with
    | value f => cases h
    | invoke r n => cases h
    | builtin b =>
      cases b with
      | len =>
        simp only at h ⊢
        split at h
        · rename_i t x ht hx
          split at h
          · rename_i n hn
            simp only [Option.some.injEq, Prod.mk.injEq] at h
            obtain ⟨rfl, rfl⟩ := h
            have := len_sound K hH (ty := type) (hev x) ht (hargs 0 x hx) hn
            refine .of hH (.pure _ _ (.int .i64 n)) ?_
            simp [resolve, invoke, builtin, this]
          · cases h
        · cases h
      | append =>
        simp only at h ⊢
        split at h
        · rename_i t x y d ht hx hy
          split at h
          · rename_i hsp
            split at h
            · rename_i l hl
              have h1 := hargs 0 x hx
              have h2 := hargs 1 y hy
              have := gappend_sound (ℓ := ℓ) K (ty := type) hH (hev x) (hev y) rfl ht hsp h
              have e : Builtin.append_ argTypes type (args.map a.eval) = Builtin.append_ argTypes type #[a.eval x, a.eval y] := by
                unfold Builtin.append_
                rw [h1, h2]; rfl
              simpa [resolve, invoke, builtin, e] using this
            · cases h
          · cases h
        · cases h
      | min =>
        simp only at h ⊢
        split at h
        · rename_i r hr
          simp only [Option.some.injEq, Prod.mk.injEq] at h
          obtain ⟨rfl, rfl⟩ := h
          obtain ⟨e1, e2⟩ := evs_rel hs args
          obtain ⟨v0, rest, kd, n, f1, f2, f3⟩ := minmax_sound (P := K.P) (w := w) (mx := false) (args.toList.map (ev s)) (args.map a.eval).toList _ (by simp) (fun j hj => by rw [← agetD]; exact e2 j hj) hr
          subst f2
          refine .of hH (.pure _ _ (.int kd n)) ?_
          have : (Builtin.min_ argTypes type (args.map a.eval)).run K.P w = .ok (.int kd n) w := by simp only [Builtin.min_, f1]; simpa using f3
          simp [resolve, invoke, builtin, this]
        · cases h
      | max =>
        simp only at h ⊢
        split at h
        · rename_i r hr
          simp only [Option.some.injEq, Prod.mk.injEq] at h
          obtain ⟨rfl, rfl⟩ := h
          obtain ⟨e1, e2⟩ := evs_rel hs args
          obtain ⟨v0, rest, kd, n, f1, f2, f3⟩ := minmax_sound (P := K.P) (w := w) (mx := true) (args.toList.map (ev s)) (args.map a.eval).toList _ (by simp) (fun j hj => by rw [← agetD]; exact e2 j hj) hr
          subst f2
          refine .of hH (.pure _ _ (.int kd n)) ?_
          have : (Builtin.max_ argTypes type (args.map a.eval)).run K.P w = .ok (.int kd n) w := by simp only [Builtin.max_, f1]; simpa using f3
          simp [resolve, invoke, builtin, this]
        · cases h
      | _ => cases h
  | _ => cases h
end
end
end Go.Gh
