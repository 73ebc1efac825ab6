/- append, second part; make. -/
import Derived.Test.YtgmohiojddnfgaaGreatDoorGhost9
namespace Go.Gh
set_option linter.unusedSimpArgs false
set_option linter.unusedVariables false

section
variable {w : World} {S : Nat → Prop} {μ : Mu} {H : Heap} {P : Program} {ℓ : Nat}

/-- What is left of append where there is room. -/
theorem append_fits_run {ats : Array TypeId} {ty t e : TypeId} {base : Option Addr} {len cap size : Nat} {vx : Value} {n : Nat} {cells : Array Value} {r : Result Unit}
    (h0 : ats[0]? = some t) (h1 : spreads P ats[1]? = true) (hu : P.underlying t = some (.slice e)) (hs : tsize P e = some size) (hn : (Builtin.lenOf vx).run P w = .ok n w)
    (hc : (Builtin.firstCells size n vx).run P w = .ok cells w) (hfit : len + n ≤ cap) {w' : World}
    (hst : (match base with | some a => storeCells (a.add (len * size)) cells.toList | none => pure ()).run P w = .ok () w') :
    (Builtin.append_ ats ty #[.slice base len cap, vx]).run P w = .ok (.slice base (len + n) cap) w' := by
  obtain ⟨t', h1', h1''⟩ := spreads_some h1
  rcases h1'' with ⟨e', he⟩ | he
  all_goals
    cases base with
    | none =>
      simp at hst; subst hst
      simp [Builtin.append_, h0, h1', r_underlying w hu, r_underlying w he, r_size w hs, hn, hfit, hc]
    | some a =>
      simp only at hst
      simp [Builtin.append_, h0, h1', r_underlying w hu, r_underlying w he, r_size w hs, hn, hfit, hc, hst]

theorem append_grows_run {ats : Array TypeId} {ty t e : TypeId} {base : Option Addr} {len cap size bytes : Nat} {vx : Value} {n : Nat} {old cells : Array Value} {z : Value}
    (h0 : ats[0]? = some t) (h1 : spreads P ats[1]? = true) (hu : P.underlying t = some (.slice e)) (hs : tsize P e = some size) (hb : tbytes P e = some bytes) (hb0 : 0 < bytes) (hb1 : bytes ≤ 1048576)
    (hmax : (len + n) * bytes ≤ 1099511627776) (hn : (Builtin.lenOf vx).run P w = .ok n w)
    (ho : (Builtin.firstCells size len (.slice base len cap)).run P w.drew = .ok old w.drew) (hc : (Builtin.firstCells size n vx).run P w.drew = .ok cells w.drew)
    (hz : (zeroValue e).run P w.drew = .ok z w.drew) (hfit : ¬ len + n ≤ cap) :
    ∃ newCap, len + n ≤ newCap ∧ (Builtin.append_ ats ty #[.slice base len cap, vx]).run P w =
      .ok (.slice (some ⟨w.heap.size, 0, none⟩) (len + n) newCap) (w.drew.alloc (.cells (old ++ cells ++ Builtin.zeroCells z.cells (newCap - (len + n))) e)) := by
  obtain ⟨t', h1', h1''⟩ := spreads_some h1
  obtain ⟨i, hi, rfl⟩ := r_bytes (P := P) w hb
  obtain ⟨i2, hi2, hi2'⟩ := r_bytes (P := P) w.drew hb
  refine ⟨(Question.appendCap (len + n) cap e).cut (w.tape w.drawn (.appendCap (len + n) cap e)), ?_, ?_⟩
  · simp [Question.cut]
  · have hbz : i.bytes ≠ 0 := by omega
    have hcap : ¬ Builtin.nextslicecap (len + n) cap * i.bytes > 2 ^ 48 := cap_ok (by omega) hb1 hmax
    have hlim : ¬ ((((len + n : Nat) : Int) > IntKind.i64.max) ∧ (False ∨ i.bytes = 0)) := fun h => by rcases h.2 with h | h; exact h; exact hbz h
    have hdr : ({ w with drawn := w.drawn + 1 } : World) = w.drew := rfl
    rcases h1'' with ⟨e', he⟩ | he
    all_goals
      simp only [Builtin.append_]
      simp [h0, h1', r_underlying w hu, r_underlying w he, r_size w hs, hn, hfit, hi, hbz, hcap, Question.forced, hdr, hi2, ho, hc, hz, newRow]


theorem zeroCells_size (z : Array Value) (n : Nat) : (Builtin.zeroCells z n).size = n * z.size := by simp [Builtin.zeroCells]

theorem HRel.drew (hH : HRel w S μ H) : HRel w.drew S μ H ∧ Ev ℓ w S μ w.drew S μ := by
  have hw : ∀ b : Nat, w.drew.heap[b]? = w.heap[b]? := fun _ => rfl
  refine ⟨⟨fun n b hb t0 b0 hb0 => (hH.blk n b hb t0 b0 hb0).mono (fun _ h => h) (fun b _ => hw b) (fun _ _ h => h) (fun _ _ _ _ h => h) (fun _ => rfl) (fun _ b _ => hw b) (fun _ _ _ h => h), hH.bnd, hH.disj, hH.lt, hH.slt, hH.glb.mono (fun _ h => h) (fun b _ => hw b)⟩, ?_⟩
  exact ⟨rfl, rfl, rfl, Nat.le_refl _, fun _ h => h, fun b _ _ => hw b, fun _ _ h => h, fun b r h => ⟨r, h⟩, fun _ _ _ _ h => h, fun n t b h _ => ⟨n, t, h⟩, fun _ h _ => .inl h⟩

theorem getD_append_left {α : Type} (a b : Array α) (i : Nat) (d : α) (h : i < a.size) : (a ++ b).getD i d = a.getD i d := by
  simp [Array.getD_eq_getD_getElem?, Array.getElem?_append, h]

theorem getD_append_right {α : Type} (a b : Array α) (i : Nat) (d : α) (h : a.size ≤ i) : (a ++ b).getD i d = b.getD (i - a.size) d := by
  simp [Array.getD_eq_getD_getElem?, Array.getElem?_append, Nat.not_lt.2 h]

/-- A new block, the old generations as they were: append's new array. -/
theorem append_new {nm : Nm} {es vf n cap : Nat} {elems xs : List (List PV)} {c : Array Value} {e : TypeId} (hH : HRel w S μ H) (ht : tyE nm e = e) (hg : H.get nm = some (.arr es elems vf false)) {t0 b0 : Nat} (hb0 : μ nm t0 = some b0) (hvf : vf ≤ elems.length)
    (hrows : ∀ r ∈ xs, r.length = es) (hn : elems.length + xs.length = n) (hx : 0 < xs.length) (hcap : n ≤ cap) (hsz : cap * es ≤ c.size)
    (hc : ∀ i j, i < n → j < es → (c.getD (i * es + j) undef).oneCell' = true ∧ PRep w S (c.getD (i * es + j) undef) (((elems ++ xs).getD i []).getD j .dead)) :
    ∃ μ', VRel (w.alloc (.cells c e)) S μ' nm.1 (.slice (some ⟨w.heap.size, 0, none⟩) n cap) (.hdr nm es n 0 n) ∧ HRel (w.alloc (.cells c e)) S μ' (H.set nm (.arr es (elems ++ xs) vf false)) ∧
      Ev ℓ w S μ (w.alloc (.cells c e)) S μ' := by
  obtain ⟨h0, k1, k2, k3, k4⟩ := hH.blk _ _ hg _ _ hb0
  have hno : ∀ b, μ nm n ≠ some b := fun b hb => by have := (k4 n b hb).1; omega
  obtain ⟨h1, h2⟩ := hH.turn ℓ (Heap.get_lt hg) (w' := w.alloc (.cells c e)) (S' := S) (μ' := μ.upd nm n w.heap.size) (x := .arr es (elems ++ xs) vf false) rfl rfl rfl (by rw [alloc_size]; omega)
    (fun _ h => h) (fun b h => .inl h) (fun b h => by have := hH.slt b h; rw [alloc_size]; omega) (fun k hk _ => alloc_heap w _ k hk) (alloc_shp w _) (alloc_lp w _) (fun q t h => Mu.upd_other μ _ _ _ h)
    (fun t b h => by
      by_cases et : t = n
      · subst et; exact absurd h (hno b)
      · rw [Mu.upd_top μ _ _ et]; exact h)
    (fun t b h => by
      by_cases et : t = n
      · subst et; rw [Mu.upd_self] at h; cases h; exact .inr (Nat.le_refl _)
      · rw [Mu.upd_top μ _ _ et] at h; exact .inl ⟨t, h⟩)
    (fun t b h => by
      by_cases et : t = n
      · subst et; rw [Mu.upd_self] at h; cases h; rw [alloc_size]; omega
      · rw [Mu.upd_top μ _ _ et] at h; have := hH.lt _ _ _ h; rw [alloc_size]; omega)
    (by
      refine ⟨h0, fun r hr => ?_, by simp; omega, ⟨w.heap.size, by rw [List.length_append, hn]; exact Mu.upd_self _ _ _ _⟩, fun top b hb => ?_⟩
      · rcases List.mem_append.1 hr with hr | hr
        · exact k1 r hr
        · exact hrows r hr
      · by_cases et : top = n
        · subst et
          rw [Mu.upd_self] at hb; cases hb
          refine ⟨by rw [List.length_append]; omega, ⟨c, e, by rw [ht]; exact alloc_new w _⟩, fun _ hS => ?_, fun _ => ⟨fun h => (by cases h), fun i j hi hj => ?_⟩⟩
          · have := hH.slt _ hS; omega
          · obtain ⟨z1, z2⟩ := hc i j hi hj
            have hlt : i * es + j < c.size := by have := rows_lt (n := cap) (show i < cap by omega) hj; omega
            refine ⟨c.getD (i * es + j) undef, ?_, z1, z2.mono (fun _ h => h) (fun b hb => alloc_heap w _ b (hH.slt b hb))⟩
            simp only [World.cell?, alloc_new]
            simp [Array.getD_eq_getD_getElem?, hlt]
        · rw [Mu.upd_top μ _ _ et] at hb
          obtain ⟨g1, ⟨c2, e2, g2⟩, g3, g4⟩ := k4 top b hb
          refine ⟨by rw [List.length_append]; omega, ⟨c2, e2, by rw [alloc_heap w _ b (hH.lt _ _ _ hb)]; exact g2⟩, g3, fun hv => ⟨fun h => (by cases h), fun i j hi hj => ?_⟩⟩
          obtain ⟨u, u1, u2, u3⟩ := (g4 hv).2 i j hi hj
          have e3 : (elems ++ xs).getD i [] = elems.getD i [] := by
            simp [List.getD_eq_getElem?_getD, List.getElem?_append_left (show i < elems.length by omega)]
          exact ⟨u, by rw [cell_of_heap (alloc_heap w _ b (hH.lt _ _ _ hb))]; exact u1, u2, by rw [e3]; exact u3.mono (fun _ h => h) (fun b hb => alloc_heap w _ b (hH.slt b hb))⟩)
  refine ⟨_, ?_, h1, h2⟩
  have := VRel.hdr (w := w.alloc (.cells c e)) (S := S) (μ := μ.upd nm n w.heap.size) (ℓ := nm.1) nm es n 0 n cap w.heap.size c.size e
    (Nat.le_refl _) (Mu.upd_self _ _ _ _) (by omega) (by omega) (by unfold World.shape?; rw [alloc_new]) (by rw [Nat.zero_add]; exact hsz)
  rw [Nat.zero_mul] at this
  exact this

/-- Into the room behind a row of one's own. -/
theorem append_room {nm : Nm} {es vf cap b sz : Nat} {ek : TypeId} {elems xs : List (List PV)} {cells : Array Value} (hH : HRel w S μ H) (hg : H.get nm = some (.arr es elems vf false)) (hvf : vf ≤ elems.length)
    (hrows : ∀ r ∈ xs, r.length = es) (hx : 0 < xs.length) (hm : μ nm elems.length = some b) (hcap : elems.length + xs.length ≤ cap) (hsh : w.shape? b = some (ek, sz)) (hsz : cap * es ≤ sz)
    (hc : RowsAt w S cells xs es) :
    ∃ w' μ', (storeCells (⟨b, elems.length * es, none⟩ : Addr) cells.toList).run P w = .ok () w' ∧
      VRel w' S μ' nm.1 (.slice (some ⟨b, 0, none⟩) (elems.length + xs.length) cap) (.hdr nm es (elems.length + xs.length) 0 (elems.length + xs.length)) ∧
      HRel w' S μ' (H.set nm (.arr es (elems ++ xs) vf false)) ∧ Ev ℓ w S μ w' S μ' := by
  obtain ⟨h0, k1, k2, k3, k4⟩ := hH.blk _ _ hg _ _ hm
  obtain ⟨g1, ⟨c, e, g2⟩, g3, g4⟩ := k4 _ b hm
  have hnS := g3 rfl
  have hcs : c.size = sz := by unfold World.shape? at hsh; rw [g2] at hsh; simp at hsh; exact hsh.2
  have hbnd : elems.length * es + cells.toList.length ≤ c.toList.length := by
    have h1 := hc.1
    have h2 : (elems.length + xs.length) * es ≤ cap * es := Nat.mul_le_mul_right _ hcap
    rw [Nat.add_mul] at h2
    simp; omega
  have hone : ∀ v ∈ cells.toList, v.oneCell' = true := by
    intro v hv
    obtain ⟨q, hq, rfl⟩ := List.getElem_of_mem hv
    have hq' : q < xs.length * es := by have := hc.1; simp at hq; omega
    have h1 : q / es < xs.length := by rw [Nat.div_lt_iff_lt_mul h0]; exact hq'
    have := (hc.2 _ _ h1 (Nat.mod_lt q h0)).1
    rw [Nat.div_add_mod' q es, agetD, List.getD_eq_getElem?_getD, List.getElem?_eq_getElem hq] at this
    exact this
  have hst := run_storeCells_at (P := P) b (elems.length * es) _ cells.toList 0 c w g2 (by simpa using hbnd) hone
  simp only [Nat.add_zero] at hst
  have hsize : (splice c.toList (elems.length * es) cells.toList).toArray.size = c.size := by
    simp only [List.size_toArray]; rw [splice_length _ _ _ hbnd]; simp
  have hno : ∀ b', μ nm (elems.length + xs.length) = some b' → b' = b := fun b' hb => by have := (k4 _ b' hb).1; omega
  have := hH.row ℓ (x := .arr es (elems ++ xs) vf false) (Heap.get_lt hg) hm hnS g2 hsize (elems.length + xs.length) (by
    have cellc : ∀ o, (w.setRow b (splice c.toList (elems.length * es) cells.toList).toArray).cell? ⟨b, o, none⟩ = (splice c.toList (elems.length * es) cells.toList)[o]? := fun o => by
      rw [cell_setRow_same w b _ c _ _ (0, 0) g2]; simp
    -- an old generation's cell
    have old : ∀ top b', μ nm top = some b' → vf ≤ top → ∀ i j, i < top → j < es → ∃ u, (w.setRow b (splice c.toList (elems.length * es) cells.toList).toArray).cell? ⟨b', i * es + j, none⟩ = some u ∧ u.oneCell' = true ∧
        PRep (w.setRow b (splice c.toList (elems.length * es) cells.toList).toArray) S u (((elems ++ xs).getD i []).getD j .dead) := by
      intro top b' hb' hv i j hi hj
      obtain ⟨q1, q2, q3, q4⟩ := k4 top b' hb'
      obtain ⟨u, u1, u2, u3⟩ := (q4 hv).2 i j hi hj
      have e3 : (elems ++ xs).getD i [] = elems.getD i [] := by
        simp [List.getD_eq_getElem?_getD, List.getElem?_append_left (show i < elems.length by omega)]
      rw [e3]
      refine ⟨u, ?_, u2, u3.setRow hnS _⟩
      by_cases eb : b' = b
      · subst eb
        have hlt : i * es + j < elems.length * es := rows_lt (by omega) hj
        rw [cellc, splice_get _ _ _ _ hbnd, if_pos hlt]
        simpa [World.cell?, g2] using u1
      · rw [cell_setRow_other w b _ _ (by exact eb)]; exact u1
    refine ⟨h0, fun r hr => ?_, by simp; omega, ⟨b, by rw [List.length_append]; exact Mu.upd_self _ _ _ _⟩, fun top b' hb' => ?_⟩
    · rcases List.mem_append.1 hr with hr | hr
      · exact k1 r hr
      · exact hrows r hr
    · by_cases et : top = elems.length + xs.length
      · subst et
        rw [Mu.upd_self] at hb'; cases hb'
        refine ⟨by rw [List.length_append]; exact Nat.le_refl _, ⟨_, e, setRow_heap w b c _ _ _ g2⟩, fun _ => hnS, fun _ => ⟨fun h => (by cases h), fun i j hi hj => ?_⟩⟩
        by_cases hio : i < elems.length
        · exact old _ b hm hvf i j hio hj
        · have hix : i - elems.length < xs.length := by omega
          obtain ⟨z1, z2⟩ := hc.2 (i - elems.length) j hix hj
          have e3 : (elems ++ xs).getD i [] = xs.getD (i - elems.length) [] := by
            simp [List.getD_eq_getElem?_getD, List.getElem?_append_right (show elems.length ≤ i by omega)]
          have hidx : i * es + j = elems.length * es + ((i - elems.length) * es + j) := by
            have : i = elems.length + (i - elems.length) := by omega
            rw [this, Nat.add_mul]
            simp; omega
          have hlt := rows_lt (n := xs.length) hix hj
          have hq : (i - elems.length) * es + j < cells.toList.length := by have := hc.1; simp; omega
          rw [e3, cellc, splice_get _ _ _ _ hbnd, if_neg (by omega), if_pos (by omega)]
          have e4 : i * es + j - elems.length * es = (i - elems.length) * es + j := by omega
          rw [e4]
          rw [agetD, List.getD_eq_getElem?_getD, List.getElem?_eq_getElem hq] at z1 z2
          exact ⟨_, List.getElem?_eq_getElem hq, z1, z2.setRow hnS _⟩
      · rw [Mu.upd_top μ _ _ et] at hb'
        obtain ⟨q1, ⟨c2, e2, q2⟩, q3, q4⟩ := k4 top b' hb'
        refine ⟨by rw [List.length_append]; omega, ?_, q3, fun hv => ⟨fun h => (by cases h), old top b' hb' hv⟩⟩
        by_cases eb : b' = b
        · subst eb; exact ⟨_, e, setRow_heap w b' c _ _ _ g2⟩
        · exact ⟨c2, e2, by rw [setRow_other w b b' _ eb]; exact q2⟩) hno
  refine ⟨_, _, by simpa [splice] using hst, ?_, this.1, this.2⟩
  have hv := VRel.hdr (w := w.setRow b (splice c.toList (elems.length * es) cells.toList).toArray) (S := S) (μ := μ.upd nm (elems.length + xs.length) b) (ℓ := nm.1) nm es (elems.length + xs.length) 0 (elems.length + xs.length) cap b sz ek
    (Nat.le_refl _) (Mu.upd_self _ _ _ _) (by omega) (by omega) (setRow_shp w b c _ _ (0, 0) g2 hsize b _ hsh) (by rw [Nat.zero_add]; exact hsz)
  rw [Nat.zero_mul] at hv
  simpa [splice] using hv

/-- Over elements of a row of one's own. -/
theorem write_room {nm : Nm} {es vf b sz p : Nat} {ek : TypeId} {elems xs : List (List PV)} {cells : Array Value} (hH : HRel w S μ H) (hg : H.get nm = some (.arr es elems vf false)) (hvf : vf ≤ elems.length)
    (hrows : ∀ r ∈ xs, r.length = es) (hm : μ nm elems.length = some b) (hp : p + xs.length ≤ elems.length) (hsh : w.shape? b = some (ek, sz)) (hsz : elems.length * es ≤ sz)
    (hc : RowsAt w S cells xs es) :
    ∃ w', (storeCells (⟨b, p * es, none⟩ : Addr) cells.toList).run P w = .ok () w' ∧ HRel w' S μ (H.set nm (.arr es (splice elems p xs) elems.length false)) ∧ Ev ℓ w S μ w' S μ := by
  obtain ⟨h0, k1, k2, k3, k4⟩ := hH.blk _ _ hg _ _ hm
  obtain ⟨g1, ⟨c, e, g2⟩, g3, g4⟩ := k4 _ b hm
  obtain ⟨_, g5⟩ := g4 hvf
  have hnS := g3 rfl
  have hcs : c.size = sz := by unfold World.shape? at hsh; rw [g2] at hsh; simp at hsh; exact hsh.2
  have hbnd : p * es + cells.toList.length ≤ c.toList.length := by
    have h1 := hc.1
    have h2 : (p + xs.length) * es ≤ elems.length * es := Nat.mul_le_mul_right _ hp
    rw [Nat.add_mul] at h2
    simp; omega
  have hone : ∀ v ∈ cells.toList, v.oneCell' = true := by
    intro v hv
    obtain ⟨q, hq, rfl⟩ := List.getElem_of_mem hv
    have hq' : q < xs.length * es := by have := hc.1; simp at hq; omega
    have h1 : q / es < xs.length := by rw [Nat.div_lt_iff_lt_mul h0]; exact hq'
    have := (hc.2 _ _ h1 (Nat.mod_lt q h0)).1
    rw [Nat.div_add_mod' q es, agetD, List.getD_eq_getElem?_getD, List.getElem?_eq_getElem hq] at this
    exact this
  have hst := run_storeCells_at (P := P) b (p * es) _ cells.toList 0 c w g2 (by simpa using hbnd) hone
  simp only [Nat.add_zero] at hst
  have hsize : (splice c.toList (p * es) cells.toList).toArray.size = c.size := by
    simp only [List.size_toArray]; rw [splice_length _ _ _ hbnd]; simp
  have hsl : (splice elems p xs).length = elems.length := splice_length _ _ _ hp
  have hcl : cells.toList.length = xs.length * es := by have := hc.1; simpa using this
  have := hH.row ℓ (x := .arr es (splice elems p xs) elems.length false) (Heap.get_lt hg) hm hnS g2 hsize elems.length (by
    rw [Mu.upd_eq hm]
    refine ⟨h0, fun r hr => ?_, by omega, ⟨b, by rw [hsl]; exact hm⟩, fun top b' hb' => ?_⟩
    · unfold splice at hr
      rcases List.mem_append.1 hr with hr | hr
      · rcases List.mem_append.1 hr with hr | hr
        · exact k1 r (List.mem_of_mem_take hr)
        · exact hrows r hr
      · exact k1 r (List.mem_of_mem_drop hr)
    · obtain ⟨q1, ⟨c2, e2, q2⟩, q3, q4⟩ := k4 top b' hb'
      refine ⟨by omega, ?_, fun _ => q3 rfl, fun hv => ⟨fun hro => (by cases hro), fun i j hi hj => ?_⟩⟩
      · by_cases e' : b' = b
        · subst e'; exact ⟨_, e, setRow_heap w b' c _ _ _ g2⟩
        · exact ⟨c2, e2, by rw [setRow_other w b b' _ e']; exact q2⟩
      · obtain rfl : top = elems.length := by omega
        rw [hm] at hb'; cases hb'
        have hcell : (w.setRow b (splice c.toList (p * es) cells.toList).toArray).cell? ⟨b, i * es + j, none⟩ = (splice c.toList (p * es) cells.toList)[i * es + j]? := by
          rw [cell_setRow_same w b _ c _ _ (0, 0) g2]; simp
        rw [hcell, splice_get _ _ _ _ hbnd]
        obtain ⟨u, u1, u2, u3⟩ := g5 i j hi hj
        have u1' : c.toList[i * es + j]? = some u := by simpa [World.cell?, g2] using u1
        have egd : (splice elems p xs).getD i [] = if i < p then elems.getD i [] else if i < p + xs.length then xs.getD (i - p) [] else elems.getD i [] := by
          simp only [List.getD_eq_getElem?_getD]
          rw [splice_get _ _ _ _ hp]
          split
          · rfl
          · split <;> rfl
        rw [egd]
        by_cases c1 : i < p
        · have : (i + 1) * es ≤ p * es := Nat.mul_le_mul_right _ c1
          rw [Nat.add_mul] at this
          rw [if_pos (by omega), if_pos c1]
          exact ⟨u, u1', u2, u3.setRow hnS _⟩
        · have a1 : p * es ≤ i * es := Nat.mul_le_mul_right _ (by omega)
          by_cases c2 : i < p + xs.length
          · have hix : i - p < xs.length := by omega
            obtain ⟨z1, z2⟩ := hc.2 (i - p) j hix hj
            have hidx : i * es + j = p * es + ((i - p) * es + j) := by
              have : i = p + (i - p) := by omega
              rw [this, Nat.add_mul]
              simp; omega
            have hlt := rows_lt (n := xs.length) hix hj
            have hq : (i - p) * es + j < cells.toList.length := by omega
            rw [if_neg (by omega), if_pos (by omega), if_neg c1, if_pos c2]
            have e4 : i * es + j - p * es = (i - p) * es + j := by omega
            rw [e4]
            rw [agetD, List.getD_eq_getElem?_getD, List.getElem?_eq_getElem hq] at z1 z2
            exact ⟨_, List.getElem?_eq_getElem hq, z1, z2.setRow hnS _⟩
          · have a2 : (p + xs.length) * es ≤ i * es := Nat.mul_le_mul_right _ (by omega)
            rw [Nat.add_mul] at a2
            rw [if_neg (by omega), if_neg (by omega), if_neg c1, if_neg c2]
            exact ⟨u, u1', u2, u3.setRow hnS _⟩) (fun b' hb' => by rw [hm] at hb'; cases hb'; rfl)
  rw [Mu.upd_eq hm] at this
  exact ⟨_, by simpa [splice] using hst, this.1, this.2⟩

end
end Go.Gh
