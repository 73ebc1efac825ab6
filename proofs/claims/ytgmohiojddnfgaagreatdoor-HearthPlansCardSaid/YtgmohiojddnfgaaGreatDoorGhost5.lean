/- One name's block turned: the heap, the world; headers told as pure slices. -/
import Derived.Test.YtgmohiojddnfgaaGreatDoorGhost4
namespace Go.Gh
set_option linter.unusedSimpArgs false
set_option linter.unusedVariables false

section
variable {w w' : World} {S S' : Nat → Prop} {μ μ' : Mu} {H : Heap}

theorem HRel.turn (ℓ : Nat) {nm : Nm} {x : Blk} (hH : HRel w S μ H) (hl : nm.1 < H.length)
    (ho : w'.os = w.os) (ht : w'.tape = w.tape) (hout : w'.output = w.output) (hsz : w.heap.size ≤ w'.heap.size)
    (hsub : ∀ b, S b → S' b) (hsn : ∀ b, S' b → S b ∨ w.heap.size ≤ b ∨ ∃ t, μ nm t = some b) (hsl : ∀ b, S' b → b < w'.heap.size)
    (hh : ∀ k, k < w.heap.size → (S k ∨ ∀ t, μ nm t ≠ some k) → w'.heap[k]? = w.heap[k]?)
    (hsh : ∀ b y, w.shape? b = some y → w'.shape? b = some y)
    (hlp : ∀ (b : Nat) (r : Loop), w.heap[b]? = some (Obj.loop r) → ∃ r' : Loop, w'.heap[b]? = some (Obj.loop r'))
    (hmo : ∀ n t, n ≠ nm → μ' n t = μ n t) (hmu : ∀ t b, μ nm t = some b → μ' nm t = some b)
    (hmn : ∀ t b, μ' nm t = some b → (∃ t', μ nm t' = some b) ∨ w.heap.size ≤ b) (hml : ∀ t b, μ' nm t = some b → b < w'.heap.size)
    (hx : BlkRel w' S' μ' nm x) : HRel w' S' μ' (H.set nm x) ∧ Ev ℓ w S μ w' S' μ' := by
  have hw : ∀ b, S b → w'.heap[b]? = w.heap[b]? := fun b hb => hh b (hH.slt b hb) (.inl hb)
  have hmm : ∀ n t b, μ n t = some b → μ' n t = some b := fun n t b h => by
    by_cases e : n = nm
    · subst e; exact hmu t b h
    · rw [hmo n t e]; exact h
  constructor
  · constructor
    · intro n b hb t0 b0 hb0
      by_cases e : n = nm
      · subst e
        rw [Heap.get_set _ hl] at hb
        cases hb; exact hx
      · rw [Heap.get_set_other _ e] at hb
        rw [hmo n t0 e] at hb0
        refine (hH.blk n b hb t0 b0 hb0).mono hsub hw hsh (fun n t b _ h => hmm n t b h) (fun t => hmo n t e) (fun t b' hb' => ?_) (fun t b' hb' hs => ?_)
        · exact hh b' (hH.lt _ _ _ hb') (.inr fun t' h' => e (hH.disj _ _ _ _ _ hb' h'))
        · rcases hsn b' hs with h | h | ⟨t', h⟩
          · exact h
          · have := hH.lt _ _ _ hb'; omega
          · exact absurd (hH.disj _ _ _ _ _ hb' h) e
    · intro n t b hb
      by_cases e : n = nm
      · subst e; exact ⟨x, Heap.get_set _ hl⟩
      · rw [hmo n t e] at hb
        obtain ⟨y, hy⟩ := hH.bnd n t b hb
        exact ⟨y, by rw [Heap.get_set_other _ e]; exact hy⟩
    · intro n n' t t' b h h'
      have key : ∀ n n' t t' b, n = nm → n' ≠ nm → μ' n t = some b → μ' n' t' = some b → False := by
        intro n n' t t' b e e' h h'
        subst e
        rw [hmo n' t' e'] at h'
        rcases hmn t b h with ⟨t2, h2⟩ | h2
        · exact e' (hH.disj _ _ _ _ _ h' h2)
        · have := hH.lt _ _ _ h'; omega
      by_cases e : n = nm
      · by_cases e' : n' = nm
        · rw [e, e']
        · exact (key n n' t t' b e e' h h').elim
      · by_cases e' : n' = nm
        · exact (key n' n t' t b e' e h' h).elim
        · rw [hmo n t e] at h; rw [hmo n' t' e'] at h'
          exact hH.disj _ _ _ _ _ h h'
    · intro n t b h
      by_cases e : n = nm
      · subst e; exact hml t b h
      · rw [hmo n t e] at h; exact Nat.lt_of_lt_of_le (hH.lt _ _ _ h) hsz
    · exact hsl
    · exact hH.glb.mono hsub hw
  · refine ⟨ho, ht, hout, hsz, hsub, fun b hb h => ?_, hsh, hlp, fun n t b _ h => hmm n t b h, fun n t b h hb => ?_, fun b h hb => ?_⟩
    · rcases h with h | h
      · exact hw b h
      · exact hh b hb (.inr fun t => h nm t)
    · by_cases e : n = nm
      · subst e
        rcases hmn t b h with ⟨t', h'⟩ | h'
        · exact ⟨_, t', h'⟩
        · omega
      · rw [hmo n t e] at h; exact ⟨n, t, h⟩
    · rcases hsn b h with h | h | ⟨t, h⟩
      · exact .inl h
      · omega
      · exact .inr ⟨nm, t, h⟩

def Mu.upd (μ : Mu) (nm : Nm) (top b : Nat) : Mu := fun n t => if n = nm ∧ t = top then some b else μ n t

theorem Mu.upd_self (μ : Mu) (nm : Nm) (top b : Nat) : μ.upd nm top b nm top = some b := by simp [Mu.upd]
theorem Mu.upd_other (μ : Mu) {nm n : Nm} (top b t : Nat) (h : n ≠ nm) : μ.upd nm top b n t = μ n t := by simp [Mu.upd, h]
theorem Mu.upd_top (μ : Mu) (nm : Nm) {top t : Nat} (b : Nat) (h : t ≠ top) : μ.upd nm top b nm t = μ nm t := by simp [Mu.upd, h]

theorem alloc_size (w : World) (o : Obj) : (w.alloc o).heap.size = w.heap.size + 1 := by show (w.heap.push o).size = _; simp

theorem alloc_heap (w : World) (o : Obj) (k : Nat) (h : k < w.heap.size) : (w.alloc o).heap[k]? = w.heap[k]? := by
  show (w.heap.push o)[k]? = _
  rw [Array.getElem?_push, if_neg (by omega)]

theorem alloc_new (w : World) (o : Obj) : (w.alloc o).heap[w.heap.size]? = some o := by
  show (w.heap.push o)[w.heap.size]? = _
  simp

theorem alloc_shp (w : World) (o : Obj) (b : Nat) (y : TypeId × Nat) (h : w.shape? b = some y) : (w.alloc o).shape? b = some y := by
  have hb : b < w.heap.size := by
    rcases Nat.lt_or_ge b w.heap.size with h' | h'
    · exact h'
    · simp [World.shape?, Array.getElem?_eq_none h'] at h
  unfold World.shape? at h ⊢
  rw [alloc_heap w o b hb]; exact h

theorem alloc_lp (w : World) (o : Obj) (b : Nat) (r : Loop) (h : w.heap[b]? = some (Obj.loop r)) : ∃ r' : Loop, (w.alloc o).heap[b]? = some (Obj.loop r') := by
  have hb : b < w.heap.size := by
    rcases Nat.lt_or_ge b w.heap.size with h' | h'
    · exact h'
    · simp [Array.getElem?_eq_none h'] at h
  exact ⟨r, by rw [alloc_heap w o b hb]; exact h⟩

/-- A new name, a new object. -/
theorem HRel.new (ℓ : Nat) (hH : HRel w S μ H) {nm : Nm} (hg : H.get nm = none) (hl : nm.1 < H.length) (o : Obj) (top : Nat) (x : Blk)
    (hx : BlkRel (w.alloc o) S (μ.upd nm top w.heap.size) nm x) :
    HRel (w.alloc o) S (μ.upd nm top w.heap.size) (H.set nm x) ∧ Ev ℓ w S μ (w.alloc o) S (μ.upd nm top w.heap.size) := by
  have hno : ∀ t b, μ nm t ≠ some b := fun t b h => by obtain ⟨y, hy⟩ := hH.bnd _ _ _ h; rw [hg] at hy; cases hy
  refine hH.turn ℓ hl rfl rfl rfl (by rw [alloc_size]; omega) (fun _ h => h) (fun b h => .inl h) (fun b h => by have := hH.slt b h; rw [alloc_size]; omega)
    (fun k hk _ => alloc_heap w o k hk) (alloc_shp w o) (alloc_lp w o) (fun n t h => Mu.upd_other μ _ _ _ h) (fun t b h => absurd h (hno t b)) (fun t b h => ?_) (fun t b h => ?_) hx
  · by_cases e : t = top
    · subst e; rw [Mu.upd_self] at h; cases h; exact .inr (Nat.le_refl _)
    · rw [Mu.upd_top μ nm _ e] at h; exact absurd h (hno t b)
  · by_cases e : t = top
    · subst e; rw [Mu.upd_self] at h; cases h; rw [alloc_size]; omega
    · rw [Mu.upd_top μ nm _ e] at h; exact absurd h (hno t b)

/-- A new object of which no name is kept: it is never written again. -/
theorem HRel.lit (ℓ : Nat) (hH : HRel w S μ H) (o : Obj) :
    HRel (w.alloc o) (fun b => S b ∨ b = w.heap.size) μ H ∧ Ev ℓ w S μ (w.alloc o) (fun b => S b ∨ b = w.heap.size) μ := by
  have hw : ∀ b, S b → (w.alloc o).heap[b]? = w.heap[b]? := fun b hb => alloc_heap w o b (hH.slt b hb)
  constructor
  · refine ⟨fun n b hb t0 b0 hb0 => ?_, hH.bnd, hH.disj, fun n t b h => ?_, fun b h => ?_, hH.glb.mono (fun b h => .inl h) hw⟩
    · refine (hH.blk n b hb t0 b0 hb0).mono (fun b h => .inl h) hw (alloc_shp w o) (fun _ _ _ _ h => h) (fun _ => rfl) (fun t b' h' => alloc_heap w o b' (hH.lt _ _ _ h')) (fun t b' h' hs => ?_)
      rcases hs with hs | hs
      · exact hs
      · have := hH.lt _ _ _ h'; omega
    · have := hH.lt n t b h; rw [alloc_size]; omega
    · rcases h with h | h
      · have := hH.slt b h; rw [alloc_size]; omega
      · subst h; rw [alloc_size]; omega
  · exact ⟨rfl, rfl, rfl, by rw [alloc_size]; omega, fun b h => .inl h, fun b hb _ => alloc_heap w o b hb, alloc_shp w o, alloc_lp w o, fun _ _ _ _ h => h, fun n t b h _ => ⟨n, t, h⟩,
      fun b h hb => by rcases h with h | h; exact .inl h; omega⟩

theorem setRow_shp (w : World) (g : Nat) (c c' : Array Value) (e : TypeId) (fr : Nat × Nat) (hg : w.heap[g]? = some (.cells c e fr)) (hs : c'.size = c.size) (b : Nat) (y : TypeId × Nat)
    (h : w.shape? b = some y) : (w.setRow g c').shape? b = some y := by
  unfold World.shape? at h ⊢
  by_cases e' : b = g
  · subst e'; rw [setRow_heap w b c c' e fr hg]; rw [hg] at h; simpa [hs] using h
  · rw [setRow_other w g b c' e']; exact h

theorem setRow_lp (w : World) (g : Nat) (c c' : Array Value) (e : TypeId) (fr : Nat × Nat) (hg : w.heap[g]? = some (.cells c e fr)) (b : Nat) (r : Loop)
    (h : w.heap[b]? = some (Obj.loop r)) : ∃ r' : Loop, (w.setRow g c').heap[b]? = some (Obj.loop r') := by
  by_cases e' : b = g
  · subst e'; rw [hg] at h; cases h
  · exact ⟨r, by rw [setRow_other w g b c' e']; exact h⟩

/-- A row of a name's own, written. -/
theorem HRel.row (ℓ : Nat) (hH : HRel w S μ H) {nm : Nm} {x : Blk} (hl : nm.1 < H.length) {t b : Nat} (hm : μ nm t = some b) (hS : ¬ S b) {c c' : Array Value} {e : TypeId} {fr : Nat × Nat}
    (hg : w.heap[b]? = some (.cells c e fr)) (hs : c'.size = c.size) (top : Nat) (hx : BlkRel (w.setRow b c') S (μ.upd nm top b) nm x)
    (hold : ∀ b', μ nm top = some b' → b' = b) :
    HRel (w.setRow b c') S (μ.upd nm top b) (H.set nm x) ∧ Ev ℓ w S μ (w.setRow b c') S (μ.upd nm top b) := by
  refine hH.turn ℓ hl rfl rfl rfl (by simp) (fun _ h => h) (fun b h => .inl h) (fun b h => by simpa using hH.slt b h) (fun k hk ho => ?_) (setRow_shp w b c c' e fr hg hs)
    (setRow_lp w b c c' e fr hg) (fun n t h => Mu.upd_other μ _ _ _ h) (fun t' b' h => ?_) (fun t' b' h => ?_) (fun t' b' h => ?_) hx
  · refine setRow_other w b k c' fun e' => ?_
    subst e'
    rcases ho with ho | ho
    · exact hS ho
    · exact ho t hm
  · by_cases e' : t' = top
    · subst e'; rw [Mu.upd_self, hold b' h]
    · rw [Mu.upd_top μ nm _ e']; exact h
  · by_cases e' : t' = top
    · subst e'; rw [Mu.upd_self] at h; cases h; exact .inl ⟨t, hm⟩
    · rw [Mu.upd_top μ nm _ e'] at h; exact .inl ⟨t', h⟩
  · by_cases e' : t' = top
    · subst e'; rw [Mu.upd_self] at h; cases h; simpa using hH.lt _ _ _ hm
    · rw [Mu.upd_top μ nm _ e'] at h; simpa using hH.lt _ _ _ h

/-- A row's block is not written any more. -/
theorem HRel.freeze (ℓ : Nat) (hH : HRel w S μ H) {nm : Nm} {es : Nat} {elems : List (List PV)} {vf : Nat} {ro : Bool} (hg : H.get nm = some (.arr es elems vf ro)) {t0 b0 : Nat} (hb0 : μ nm t0 = some b0) :
    HRel w (fun b => S b ∨ ∃ t, μ nm t = some b) μ (H.set nm (.arr es elems vf true)) ∧ Ev ℓ w S μ w (fun b => S b ∨ ∃ t, μ nm t = some b) μ := by
  refine hH.turn ℓ (Heap.get_lt hg) rfl rfl rfl (Nat.le_refl _) (fun b h => .inl h) (fun b h => h.imp id .inr) (fun b h => ?_) (fun _ _ _ => rfl) (fun _ _ h => h) (fun b r h => ⟨r, h⟩)
    (fun _ _ _ => rfl) (fun _ _ h => h) (fun t b h => .inl ⟨t, h⟩) (fun t b h => hH.lt _ _ _ h) ?_
  · rcases h with h | ⟨t, h⟩
    · exact hH.slt b h
    · exact hH.lt _ _ _ h
  · obtain ⟨h0, h1, h2, h3, h4⟩ := hH.blk _ _ hg _ _ hb0
    refine ⟨h0, h1, h2, h3, fun top b hb => ?_⟩
    obtain ⟨g1, g2, g3, g4⟩ := h4 top b hb
    refine ⟨g1, g2, fun h => by simp at h, fun hv => ⟨fun _ => .inr ⟨top, hb⟩, fun i j hi hj => ?_⟩⟩
    obtain ⟨u, u1, u2, u3⟩ := (g4 hv).2 i j hi hj
    exact ⟨u, u1, u2, u3.mono (fun b h => .inl h) (fun _ _ => rfl)⟩

/-- What a header tells, as a pure slice, where its block's generations are never written again. -/
theorem hdr_pure (hH : HRel w S μ H) {ℓ : Nat} {v : Value} {nm : Nm} {es top lo len : Nat} (hv : VRel w S μ ℓ v (.hdr nm es top lo len)) (hS' : ∀ b, S b → S' b)
    (hall : ∀ t b, μ nm t = some b → S' b) : PRep w S' v (sliceOf H nm es top lo len) := by
  unfold sliceOf
  split
  · rename_i es' elems vf ro hg
    split
    · rename_i hc
      obtain ⟨rfl, hvf, hlen, htop⟩ := hc
      cases hv with
      | hdr _ _ _ _ _ cap b n e h1 h2 h3 h4 h5 h6 =>
      obtain ⟨h0, k1, k2, k3, k4⟩ := hH.blk _ _ hg _ _ h2
      obtain ⟨g1, g2, g3, g4⟩ := k4 top b h2
      obtain ⟨_, g5⟩ := g4 hvf
      by_cases hz : len = 0
      · subst hz; simp; exact .slice0 _ _
      · have hlen2 : ((elems.drop lo).take len).length = len := by simp; omega
        have hget : ∀ i, i < len → (((elems.drop lo).take len).getD i []) = elems.getD (lo + i) [] := fun i hi => by
          simp [List.getD_eq_getElem?_getD, List.getElem?_take, hi, List.getElem?_drop]
        have := PRep.slice (w := w) (S := S') b (lo * es') cap es' ((elems.drop lo).take len) (fun i j => (w.cell? ⟨b, (lo + i) * es' + j, none⟩).getD undef) (hall _ _ h2) h0
          (fun r hr => k1 r (List.mem_of_mem_drop (List.mem_of_mem_take hr)))
          (fun i j hi hj => by
            rw [hlen2] at hi
            obtain ⟨u, u1, u2, u3⟩ := g5 (lo + i) j (by omega) hj
            have e : lo * es' + (i * es' + j) = (lo + i) * es' + j := by rw [Nat.add_mul]; omega
            rw [e, u1]; rfl)
          (fun i j hi hj => by
            rw [hlen2] at hi
            obtain ⟨u, u1, u2, u3⟩ := g5 (lo + i) j (by omega) hj
            simp only [u1, Option.getD_some]; exact u2)
          (fun i j hi hj => by
            rw [hlen2] at hi
            obtain ⟨u, u1, u2, u3⟩ := g5 (lo + i) j (by omega) hj
            simp only [u1, Option.getD_some, hget i hi]
            exact u3.mono hS' (fun _ _ => rfl))
          (by rw [hlen2]; omega)
        rw [hlen2] at this
        exact this
    · exact .dead _
  · exact .dead _

theorem row_pure {b es : Nat} {r : List (List PV)} {cap : Nat} (hr : RowRel w S b es r) (hpos : 0 < es) (hw : ∀ x ∈ r, x.length = es) (hc : r.length ≤ cap) (hS' : ∀ b, S b → S' b) (hb : S' b) :
    PRep w S' (.slice (some ⟨b, 0, none⟩) r.length cap) (.slice r) := by
  obtain ⟨_, _, h3⟩ := hr
  refine PRep.slice (w := w) (S := S') b 0 cap es r (fun i j => (w.cell? ⟨b, i * es + j, none⟩).getD undef) hb hpos hw (fun i j hi hj => ?_) (fun i j hi hj => ?_) (fun i j hi hj => ?_) hc
  · obtain ⟨u, u1, u2, u3⟩ := h3 i j hi hj
    rw [Nat.zero_add, u1]; rfl
  · obtain ⟨u, u1, u2, u3⟩ := h3 i j hi hj
    simp only [u1, Option.getD_some]; exact u2
  · obtain ⟨u, u1, u2, u3⟩ := h3 i j hi hj
    simp only [u1, Option.getD_some]; exact u3.mono hS' (fun _ _ => rfl)

/-- What a header tells, a table's too. -/
theorem hdr_pureM (hH : HRel w S μ H) {ℓ : Nat} {v : Value} {nm : Nm} {es top lo len : Nat} (hv : VRel w S μ ℓ v (.hdr nm es top lo len)) (hS' : ∀ b, S b → S' b)
    (hall : ∀ t b, μ nm t = some b → S' b) : PRep w S' v (sliceOfM H nm es top lo len) := by
  unfold sliceOfM
  split
  · rename_i es' rows n hg
    split
    · rename_i hc
      obtain ⟨rfl, hlen, htop⟩ := hc
      cases hv with
      | hdr _ _ _ _ _ cap b n e h1 h2 h3 h4 h5 h6 =>
      have m : MatRel w S μ nm es' rows _ := hH.blk _ _ hg _ _ h2
      have hml := m.le
      obtain ⟨g1, g2, g3, g4, g5⟩ := m.top top b (by have := m.lim; omega) h2
      by_cases hz : len = 0
      · subst hz; simp; exact .slice0 _ _
      · have hlen2 : (((rows.drop lo).take len).map fun r => [PV.slice r]).length = len := by simp; omega
        have hget : ∀ i, i < len → ((((rows.drop lo).take len).map fun r => [PV.slice r]).getD i []) = [.slice (rows.getD (lo + i) [])] := fun i hi => by
          have : lo + i < rows.length := by omega
          simp [List.getD_eq_getElem?_getD, List.getElem?_take, hi, List.getElem?_drop, this]
        have := PRep.slice (w := w) (S := S') b (lo * 1) cap 1 (((rows.drop lo).take len).map fun r => [PV.slice r]) (fun i j => (w.cell? ⟨b, lo + i, none⟩).getD undef) (hall _ _ h2) (by omega)
          (fun r hr => by obtain ⟨x, _, rfl⟩ := List.mem_map.1 hr; rfl)
          (fun i j hi hj => by
            rw [hlen2] at hi
            obtain ⟨bi, cp, u1, u2, u3⟩ := g5 (lo + i) (by omega)
            obtain rfl : j = 0 := by omega
            have e : lo * 1 + (i * 1 + 0) = lo + i := by omega
            rw [e, u1]; rfl)
          (fun i j hi hj => by
            rw [hlen2] at hi
            obtain ⟨bi, cp, u1, u2, u3⟩ := g5 (lo + i) (by omega)
            simp only [u1, Option.getD_some]; rfl)
          (fun i j hi hj => by
            rw [hlen2] at hi
            obtain ⟨bi, cp, u1, u2, u3⟩ := g5 (lo + i) (by omega)
            obtain rfl : j = 0 := by omega
            rw [hget i hi]
            simp only [u1, Option.getD_some, List.getD_cons_zero]
            obtain ⟨b', k1, k2⟩ := m.row (lo + i) (by omega)
            rw [u2] at k1; cases k1
            refine row_pure k2 m.pos (fun x hx => ?_) u3 hS' (hall _ _ u2)
            have hlt : lo + i < rows.length := by omega
            rw [List.getD_eq_getElem?_getD, List.getElem?_eq_getElem hlt] at hx
            exact m.wid _ (List.getElem_mem hlt) x hx)
          (by rw [hlen2]; omega)
        rw [hlen2] at this
        exact this
    · exact .dead _
  · exact hdr_pure hH hv hS' hall

theorem pureCell_hdr_get {nm : Nm} {es top lo len : Nat} : (pureCell H (.hdr nm es top lo len)) =
    match H.get nm with
    | some (.arr es' elems vf _) => if es' = es ∧ vf ≤ top ∧ lo + len ≤ top ∧ top ≤ elems.length then (.slice ((elems.drop lo).take len), H.set nm (.arr es' elems vf true)) else (.dead, H)
    | _ => (.dead, H) := rfl

/-- A heap that differs at most in what may be written. -/
def SameBox (H H1 : Heap) : Prop := H1.length = H.length ∧ (∀ nm cs, H.get nm = some (.box cs) → H1.get nm = some (.box cs)) ∧ (∀ nm, (H.get nm).isSome → (H1.get nm).isSome)

theorem SameBox.refl (H : Heap) : SameBox H H := ⟨rfl, fun _ _ h => h, fun _ h => h⟩
theorem SameBox.trans {H1 H2 H3 : Heap} (h : SameBox H1 H2) (k : SameBox H2 H3) : SameBox H1 H3 :=
  ⟨k.1.trans h.1, fun nm cs hg => k.2.1 nm cs (h.2.1 nm cs hg), fun nm hg => k.2.2 nm (h.2.2 nm hg)⟩

theorem pureCell_rel (ℓ : Nat) (hH : HRel w S μ H) {k : Nat} {v : Value} {g : GV} (hv : VRel w S μ k v g) :
    ∃ S', HRel w S' μ (pureCell H g).2 ∧ Ev ℓ w S μ w S' μ ∧ PRep w S' v (pureCell H g).1 ∧ SameBox H (pureCell H g).2 := by
  have triv : ∀ p, PRep w S v p → ∃ S', HRel w S' μ H ∧ Ev ℓ w S μ w S' μ ∧ PRep w S' v p ∧ SameBox H H := fun p hp => ⟨S, hH, .refl _ _ _ _, hp, .refl H⟩
  cases g with
  | pure p => exact triv p hv.pv
  | nils => cases hv with | nils a => exact triv _ (.slice0 a 0)
  | hdr nm es top lo len =>
    rw [pureCell_hdr_get]
    have hs := hdr_pure (S' := fun b => S b ∨ ∃ t, μ nm t = some b) hH hv (fun b h => .inl h) (fun t b h => .inr ⟨t, h⟩)
    unfold sliceOf at hs
    split
    · rename_i es' elems vf ro hg
      rw [hg] at hs
      simp only at hs
      split
      · rename_i hc
        rw [if_pos hc] at hs
        obtain ⟨tb, bb, hbb⟩ : ∃ t b, μ nm t = some b := by cases hv with | hdr _ _ _ _ _ cap b n e h1 h2 h3 h4 h5 h6 => exact ⟨_, _, h2⟩
        obtain ⟨h1, h2⟩ := hH.freeze ℓ hg hbb
        refine ⟨_, h1, h2, hs, Heap.length_set _ _ _, fun n cs hn => ?_, fun n hn => ?_⟩
        · rw [Heap.get_set_other]; exact hn
          intro e; subst e; rw [hg] at hn; cases hn
        · by_cases e : n = nm
          · subst e; rw [Heap.get_set _ (Heap.get_lt hg)]; rfl
          · rw [Heap.get_set_other _ e]; exact hn
      · exact triv _ (.dead v)
    · exact triv _ (.dead v)
  | _ => exact triv _ (.dead v)

theorem pureCells_rel (ℓ : Nat) : ∀ {gs : List GV} {vs : List Value} {S : Nat → Prop} {H : Heap} {k : Nat}, HRel w S μ H → CRel w S μ k vs gs →
    ∃ S', HRel w S' μ (pureCells H gs).2 ∧ Ev ℓ w S μ w S' μ ∧ CRel w S' μ k vs ((pureCells H gs).1.map .pure) ∧ SameBox H (pureCells H gs).2
  | [], vs, S, H, k, hH, hc => by cases hc; exact ⟨S, hH, .refl _ _ _ _, .nil, .refl H⟩
  | g :: gs, vs, S, H, k, hH, hc => by
    cases hc with
    | cons h1 h2 h3 =>
    obtain ⟨S1, a1, a2, a3, a4⟩ := pureCell_rel ℓ hH h2
    have h3' : CRel w S1 μ k _ gs := h3.mono a2.sub (fun _ _ => rfl) (fun _ _ h => h) (fun _ _ _ _ h => h) (Nat.le_refl _)
    obtain ⟨S2, b1, b2, b3, b4⟩ := pureCells_rel ℓ a1 h3'
    refine ⟨S2, b1, a2.trans b2, ?_, a4.trans b4⟩
    exact .cons h1 (.pure _ _ (a3.mono b2.sub (fun _ _ => rfl))) b3

theorem allLe_rel {l0 : Nat} {k : Nat} : ∀ {gs : List GV} {f : Nat → Value}, allLe l0 gs = true → (∀ j, j < gs.length → VRel w S μ k (f j) (gs.getD j gdead)) →
    ∀ j, j < gs.length → VRel w S μ l0 (f j) (gs.getD j gdead)
  | [], f, _, h => by simp
  | g :: gs, f, ha, h => by
    have hrec : allLe l0 gs = true → ∀ j, j < gs.length → VRel w S μ l0 (f (j + 1)) (gs.getD j gdead) := fun ha' =>
      allLe_rel (f := fun j => f (j + 1)) ha' (fun j hj => by simpa using h (j + 1) (by simpa using hj))
    have h0 : VRel w S μ k (f 0) g := by simpa using h 0 (by simp)
    have main : VRel w S μ l0 (f 0) g ∧ allLe l0 gs = true := by
      generalize f 0 = v at h0
      cases h0 with
      | pure _ p hp => exact ⟨.pure _ _ hp, by simpa [allLe] using ha⟩
      | pptr b o cs f' hS hf h1 hr => exact ⟨.pptr b o cs f' hS hf h1 hr, by simpa [allLe] using ha⟩
      | nils a => exact ⟨.nils a, by simpa [allLe] using ha⟩
      | bptr nm off b h1 h2 => simp [allLe] at ha; exact ⟨.bptr nm off b ha.1 h2, ha.2⟩
      | eptr nm es top i off b h1 h2 => simp [allLe] at ha; exact ⟨.eptr nm es top i off b ha.1 h2, ha.2⟩
      | hdr nm es top lo len cap b n e h1 h2 h3 h4 h5 h6 => simp [allLe] at ha; exact ⟨.hdr nm es top lo len cap b n e ha.1 h2 h3 h4 h5 h6, ha.2⟩
      | yield nm b h1 h2 => simp [allLe] at ha; exact ⟨.yield nm b ha.1 h2, ha.2⟩
      | map nm b h1 h2 => simp [allLe] at ha; exact ⟨.map nm b ha.1 h2, ha.2⟩
      | _ => simp [allLe] at ha
    intro j hj
    cases j with
    | zero => simpa using main.1
    | succ j => simpa using hrec main.2 j (by simpa using hj)

/-- A scalar told for a lower level: the header's case apart. -/
theorem clean1_gen {k l0 : Nat} {v : Value} {g : GV} (hv : VRel w S μ k v g) (hS' : ∀ b, S b → S' b)
    (hall : ∀ nm es top lo len, g = .hdr nm es top lo len → ¬ nm.1 ≤ l0 → PRep w S' v (sliceOfM H nm es top lo len)) :
    VRel w S' μ l0 v (clean1 H l0 g) := by
  have up : ∀ {v g}, VRel w S μ l0 v g → VRel w S' μ l0 v g := fun h => h.mono hS' (fun _ _ => rfl) (fun _ _ h => h) (fun _ _ _ _ h => h) (Nat.le_refl _)
  cases hv with
  | pure _ p hp => exact up (.pure _ _ hp)
  | pptr b o cs f hS hf h1 hr => exact up (.pptr b o cs f hS hf h1 hr)
  | lptr b o cs f hS hf h1 hr =>
    simp only [clean1]
    split
    · rename_i ha
      exact up (.lptr b o cs f hS hf h1 (allLe_rel ha hr))
    · exact vdead _
  | nils a => exact up (.nils a)
  | lits b o cap es l f hS he hes hf h1 hr hcap =>
    simp only [clean1]
    split
    · rename_i ha
      refine up (.lits b o cap es l f hS he hes hf h1 (fun i j hi hj => ?_) hcap)
      have hi' : l[i] ∈ l := List.getElem_mem hi
      have e : l.getD i [] = l[i] := by simp [List.getD_eq_getElem?_getD, hi]
      have hl : (l[i]).length = es := hes _ hi'
      rw [e]
      refine allLe_rel (k := k) (f := f i) (List.all_eq_true.1 ha _ hi') (fun j hj => ?_) j (by omega)
      have := hr i j hi (by omega)
      rwa [e] at this
    · exact vdead _
  | bptr nm off b h1 h2 => simp only [clean1]; split; exact up (.bptr nm off b ‹_› h2); exact vdead _
  | eptr nm es top i off b h1 h2 => simp only [clean1]; split; exact up (.eptr nm es top i off b ‹_› h2); exact vdead _
  | hdr nm es top lo len cap b n e h1 h2 h3 h4 h5 h6 =>
    simp only [clean1]
    split
    · exact up (.hdr nm es top lo len cap b n e ‹_› h2 h3 h4 h5 h6)
    · rename_i hl
      exact .pure _ _ (hall nm es top lo len rfl hl)
  | agg vs l h h1 hr => exact vdead _
  | tuple vs l h hr => exact vdead _
  | func f a c la lc h1 h2 hr1 hr2 =>
    simp only [clean1]
    split
    · rename_i ha
      simp only [Bool.and_eq_true] at ha
      exact up (.func f a c la lc h1 h2 (allLe_rel ha.1 hr1) (allLe_rel ha.2 hr2))
    · exact vdead _
  | yield nm b h1 h2 => simp only [clean1]; split; exact up (.yield nm b ‹_› h2); exact vdead _
  | map nm b h1 h2 => simp only [clean1]; split; exact up (.map nm b ‹_› h2); exact vdead _
  | rhdr nm es i len cap b h1 h2 h3 => simp only [clean1]; split; exact up (.rhdr nm es i len cap b ‹_› h2 h3); exact vdead _
  | rptr nm es i j off b h1 h2 => simp only [clean1]; split; exact up (.rptr nm es i j off b ‹_› h2); exact vdead _

theorem clean1_rel (hH : HRel w S μ H) {k l0 : Nat} {v : Value} {g : GV} (hv : VRel w S μ k v g) (hS' : ∀ b, S b → S' b) (hall : ∀ nm t b, l0 < nm.1 → μ nm t = some b → S' b) :
    VRel w S' μ l0 v (clean1 H l0 g) :=
  clean1_gen hv hS' fun nm es top lo len e hl => by subst e; exact hdr_pureM hH hv hS' (fun t b h => hall nm t b (by omega) h)

theorem clean1_cells (hH : HRel w S μ H) {k l0 : Nat} (hS' : ∀ b, S b → S' b) (hall : ∀ nm t b, l0 < nm.1 → μ nm t = some b → S' b) {vs : List Value} {gs : List GV}
    (h : CRel w S μ k vs gs) : CRel w S' μ l0 vs (gs.map (clean1 H l0)) := by
  induction h with
  | nil => exact .nil
  | cons h1 h2 _ ih => exact .cons h1 (clean1_rel hH h2 hS' hall) ih

theorem VRel.cells {k : Nat} {v : Value} {l : List GV} (h : VRel w S μ k v (.agg l)) : ∃ vs : Array Value, v = .agg vs ∧ CRel w S μ k vs.toList l := by
  cases h with
  | agg vs _ h1 h2 h3 =>
    exact ⟨vs, rfl, .of_get _ _ (by simpa using h1) fun j hj => by
      have a := h2 j hj; have b := h3 j hj
      rw [agetD] at a b; exact ⟨a, b⟩⟩

theorem capP_rel (hH : HRel w S μ H) {k l0 : Nat} {v : Value} {g g' : GV} (hv : VRel w S μ k v g) (hS' : ∀ b, S b → S' b) (hall : ∀ nm t b, l0 < nm.1 → μ nm t = some b → S' b)
    (h : capP H l0 g = some g') : VRel w S' μ l0 v g' := by
  have up : ∀ {v g}, VRel w S μ l0 v g → VRel w S' μ l0 v g := fun h => h.mono hS' (fun _ _ => rfl) (fun _ _ h => h) (fun _ _ _ _ h => h) (Nat.le_refl _)
  cases hv with
  | pure _ p hp => simp only [capP, Option.some.injEq] at h; subst h; exact up (.pure _ _ hp)
  | pptr b o cs f hS hf h1 hr => simp only [capP, Option.some.injEq] at h; subst h; exact up (.pptr b o cs f hS hf h1 hr)
  | nils a => simp only [capP, Option.some.injEq] at h; subst h; exact up (.nils a)
  | bptr nm off b h1 h2 =>
    simp only [capP] at h
    split at h
    · simp only [Option.some.injEq] at h; subst h; exact up (.bptr nm off b ‹_› h2)
    · rename_i hl
      split at h
      · rename_i cs hg
        split at h
        · rename_i ps hps
          split at h
          · rename_i ho
            simp only [Option.some.injEq] at h
            subst h
            obtain ⟨b', c, e, q1, _, q3, q4⟩ := hH.blk nm _ hg 0 b h2
            rw [h2] at q1
            cases q1
            rw [allPure_some hps] at q4
            obtain ⟨z1, z2⟩ := CRel.pures _ _ q4
            refine .pptr b off (ps.drop off) (fun j => c.toList.getD (off + j) undef) (fun _ => hall nm 0 b (by omega) h2) (fun j hj => ?_) (fun j hj => ?_) (fun j hj => ?_)
            · have hj' : off + j < c.toList.length := by rw [z1]; simp at hj; omega
              have this : c.toList[off + j]? = some (c.toList.getD (off + j) undef) := by rw [List.getD_eq_getElem?_getD, List.getElem?_eq_getElem hj']; rfl
              simp only [World.cell?, q3]
              simpa using this
            · exact (z2 (off + j) (by simp at hj; omega)).1
            · have := (z2 (off + j) (by simp at hj; omega)).2
              have e : (ps.drop off).getD j .dead = ps.getD (off + j) .dead := by simp [List.getD_eq_getElem?_getD, List.getElem?_drop]
              rw [e]
              exact this.mono hS' (fun _ _ => rfl)
          · cases h
        · cases h
      · cases h
  | _ => simp [capP] at h

theorem capsP_rel (hH : HRel w S μ H) {k l0 : Nat} (hS' : ∀ b, S b → S' b) (hall : ∀ nm t b, l0 < nm.1 → μ nm t = some b → S' b) :
    ∀ {gs gs' : List GV} {f : Nat → Value}, capsP H l0 gs = some gs' → (∀ j, j < gs.length → VRel w S μ k (f j) (gs.getD j gdead)) → gs'.length = gs.length ∧ ∀ j, j < gs'.length → VRel w S' μ l0 (f j) (gs'.getD j gdead)
  | [], gs', f, h, _ => by
    simp only [capsP, Option.some.injEq] at h
    subst h
    exact ⟨rfl, fun j hj => absurd hj (Nat.not_lt_zero _)⟩
  | g :: gs, gs', f, h, hr => by
    simp only [capsP] at h
    split at h
    · rename_i g1 r1 e1 e2
      simp only [Option.some.injEq] at h
      subst h
      obtain ⟨a, b⟩ := capsP_rel hH hS' hall (f := fun j => f (j + 1)) e2 (fun j hj => by simpa using hr (j + 1) (by simpa using hj))
      refine ⟨by simp [a], fun j hj => ?_⟩
      cases j with
      | zero => simpa using capP_rel hH (by simpa using hr 0 (by simp)) hS' hall e1
      | succ j => simpa using b j (by simpa using hj)
    · cases h

theorem clean2_rel (hH : HRel w S μ H) {k l0 : Nat} {v : Value} {g : GV} (hv : VRel w S μ k v g) (hS' : ∀ b, S b → S' b) (hall : ∀ nm t b, l0 < nm.1 → μ nm t = some b → S' b) :
    VRel w S' μ l0 v (clean2 H l0 g) := by
  cases g with
  | agg l =>
    obtain ⟨vs, rfl, hc⟩ := hv.cells
    exact mkAgg_rel' (clean1_cells hH hS' hall hc)
  | func f la lc =>
    simp only [clean2]
    split
    · rename_i ha
      have := clean1_rel (l0 := l0) hH hv hS' hall
      simpa only [clean1, ha, if_true] using this
    · split
      · rename_i hf
        split
        · rename_i cap' hc
          cases hv with
          | func _ a c _ _ h1 h2 hr1 hr2 =>
            obtain ⟨e1, e2⟩ := capsP_rel hH hS' hall hc hr2
            exact .func f a c la cap' h1 (by rw [e1]; exact h2) (fun j hj => (allLe_rel hf hr1 j hj).mono hS' (fun _ _ => rfl) (fun _ _ h => h) (fun _ _ _ _ h => h) (Nat.le_refl _)) e2
        · exact vdead _
      · exact vdead _
  | _ => exact clean1_rel hH hv hS' hall

theorem clean_rel (hH : HRel w S μ H) {k l0 : Nat} {v : Value} {g : GV} (hv : VRel w S μ k v g) (hS' : ∀ b, S b → S' b) (hall : ∀ nm t b, l0 < nm.1 → μ nm t = some b → S' b) :
    VRel w S' μ l0 v (clean H l0 g) := by
  cases g with
  | tuple l =>
    cases hv with
    | tuple vs _ h1 h2 =>
      refine mkTuple_rel (by simpa using h1) fun j hj => ?_
      have hj' : j < l.length := by simpa using hj
      have e : (l.map (clean2 H l0)).getD j gdead = clean2 H l0 (l.getD j gdead) := by simp [List.getD_eq_getElem?_getD, hj']
      rw [e]
      exact clean2_rel hH (h2 j hj') hS' hall
  | _ => exact clean2_rel hH hv hS' hall

theorem lowerCell_rel (ℓ : Nat) (hH : HRel w S μ H) {k : Nat} {v : Value} {g : GV} (l0 : Nat) (hv : VRel w S μ k v g) :
    ∃ S', HRel w S' μ (lowerCell H l0 g).2 ∧ Ev ℓ w S μ w S' μ ∧ VRel w S' μ l0 v (lowerCell H l0 g).1 ∧ SameBox H (lowerCell H l0 g).2 := by
  cases g with
  | hdr nm es top lo len =>
    simp only [lowerCell]
    split
    · rename_i hl
      refine ⟨S, hH, .refl _ _ _ _, ?_, .refl H⟩
      cases hv with
      | hdr _ _ _ _ _ cap b n e h1 h2 h3 h4 h5 h6 => exact .hdr nm es top lo len cap b n e hl h2 h3 h4 h5 h6
    · obtain ⟨S', a1, a2, a3, a4⟩ := pureCell_rel ℓ hH hv
      exact ⟨S', a1, a2, .pure _ _ a3, a4⟩
  | _ => exact ⟨S, hH, .refl _ _ _ _, clean1_gen (H := H) hv (fun _ h => h) (fun nm es top lo len e _ => by cases e), .refl H⟩

theorem lowerCells_rel (ℓ l0 : Nat) : ∀ {gs : List GV} {vs : List Value} {S : Nat → Prop} {H : Heap} {k : Nat}, HRel w S μ H → CRel w S μ k vs gs →
    ∃ S', HRel w S' μ (lowerCells H l0 gs).2 ∧ Ev ℓ w S μ w S' μ ∧ CRel w S' μ l0 vs (lowerCells H l0 gs).1 ∧ SameBox H (lowerCells H l0 gs).2
  | [], vs, S, H, k, hH, hc => by cases hc; exact ⟨S, hH, .refl _ _ _ _, .nil, .refl H⟩
  | g :: gs, vs, S, H, k, hH, hc => by
    cases hc with
    | cons h1 h2 h3 =>
    obtain ⟨S1, a1, a2, a3, a4⟩ := lowerCell_rel ℓ hH l0 h2
    have h3' : CRel w S1 μ k _ gs := h3.mono a2.sub (fun _ _ => rfl) (fun _ _ h => h) (fun _ _ _ _ h => h) (Nat.le_refl _)
    obtain ⟨S2, b1, b2, b3, b4⟩ := lowerCells_rel ℓ l0 a1 h3'
    exact ⟨S2, b1, a2.trans b2, .cons h1 (a3.mono b2.sub (fun _ _ => rfl) (fun _ _ h => h) (fun _ _ _ _ h => h) (Nat.le_refl _)) b3, a4.trans b4⟩

end
end Go.Gh
