/- append. -/
import Derived.Test.YtgmohiojddnfgaaGreatDoorGhost8
namespace Go.Gh
set_option linter.unusedSimpArgs false
set_option linter.unusedVariables false

section
variable {w : World} {S : Nat → Prop} {μ : Mu} {H : Heap} {P : Program} {ℓ : Nat}

def RowsAt (w : World) (S : Nat → Prop) (cells : Array Value) (xs : List (List PV)) (size : Nat) : Prop :=
  cells.size = xs.length * size ∧ ∀ i j, i < xs.length → j < size → (cells.getD (i * size + j) undef).oneCell' = true ∧ PRep w S (cells.getD (i * size + j) undef) ((xs.getD i []).getD j .dead)

theorem rows_lt {n size i j : Nat} (hi : i < n) (hj : j < size) : i * size + j < n * size := by
  have : (i + 1) * size ≤ n * size := Nat.mul_le_mul_right _ hi
  rw [Nat.add_mul] at this; omega

theorem div_row {size i j : Nat} (hj : j < size) : (i * size + j) / size = i ∧ (i * size + j) % size = j := by
  constructor
  · rw [Nat.mul_comm, Nat.mul_add_div (by omega), Nat.div_eq_of_lt hj]; omega
  · rw [Nat.mul_comm, Nat.mul_add_mod, Nat.mod_eq_of_lt hj]

/-- Rows read out of memory. -/
theorem load_rows {w2 : World} (hw : w2.heap = w.heap) {b o n size : Nat} (hpos : 0 < size) (f : Nat → Nat → Value) (hf : ∀ i j, i < n → j < size → w.cell? ⟨b, o + (i * size + j), none⟩ = some (f i j)) :
    ∃ cells : Array Value, (loadCells ⟨b, o, none⟩ (n * size)).run P w2 = .ok cells w2 ∧ cells.size = n * size ∧ ∀ i j, i < n → j < size → cells.getD (i * size + j) undef = f i j := by
  have hlen : ((List.range (n * size)).map fun q => f (q / size) (q % size)).length = n * size := by simp
  have hc : CellsAt w2 b o ((List.range (n * size)).map fun q => f (q / size) (q % size)) := by
    have : CellsAt w b o ((List.range (n * size)).map fun q => f (q / size) (q % size)) := cellsAt_map fun q hq => by
      have h1 : q / size < n := by rw [Nat.div_lt_iff_lt_mul hpos]; exact hq
      have h2 : q % size < size := Nat.mod_lt _ hpos
      have := hf _ _ h1 h2
      rwa [Nat.div_add_mod' q size] at this
    intro j v hv
    have := this j v hv
    unfold World.cell? at this ⊢; rw [hw]; exact this
  have := r_loadCells (P := P) w2 hc
  rw [hlen] at this
  refine ⟨_, this, by simp, fun i j hi hj => ?_⟩
  obtain ⟨d1, d2⟩ := div_row (i := i) hj
  rw [agetD]
  simp [List.getD_eq_getElem?_getD, rows_lt hi hj, d1, d2]

theorem pureRows_rel (ℓ : Nat) {size : Nat} : ∀ (l : List (List GV)) (f : Nat → Nat → Value) (S : Nat → Prop) (H : Heap) (k : Nat), HRel w S μ H → (∀ r ∈ l, r.length = size) →
    (∀ i j, i < l.length → j < size → (f i j).oneCell' = true ∧ VRel w S μ k (f i j) ((l.getD i []).getD j gdead)) →
    ∃ S', HRel w S' μ (pureRows H l).2 ∧ Ev ℓ w S μ w S' μ ∧ SameBox H (pureRows H l).2 ∧ (pureRows H l).1.length = l.length ∧ (∀ r ∈ (pureRows H l).1, r.length = size) ∧
      ∀ i j, i < l.length → j < size → PRep w S' (f i j) (((pureRows H l).1.getD i []).getD j .dead)
  | [], f, S, H, k, hH, _, _ => ⟨S, hH, .refl _ _ _ _, .refl H, rfl, by simp [pureRows], by simp⟩
  | r :: l, f, S, H, k, hH, hl, hr => by
    have hrl : r.length = size := hl r (by simp)
    have hc : CRel w S μ k ((List.range r.length).map (f 0)) r := crel_map fun j hj => by simpa using hr 0 j (by simp) (by omega)
    obtain ⟨S1, a1, a2, a3, a4⟩ := pureCells_rel ℓ hH hc
    obtain ⟨S2, b1, b2, b3, b4, b6, b5⟩ := pureRows_rel ℓ l (fun i => f (i + 1)) S1 _ k a1 (fun x hx => hl x (by simp [hx])) (fun i j hi hj => by
      have := hr (i + 1) j (by simpa using hi) hj
      exact ⟨this.1, by simpa using this.2.mono a2.sub (fun _ _ => rfl) (fun _ _ h => h) (fun _ _ _ _ h => h) (Nat.le_refl _)⟩)
    have hpl : (pureCells H r).1.length = size := by have := a3.length; simp at this; omega
    refine ⟨S2, b1, a2.trans b2, a4.trans b3, by simp [pureRows, b4], fun x hx => ?_, fun i j hi hj => ?_⟩
    · simp only [pureRows, List.mem_cons] at hx
      rcases hx with rfl | hx
      · exact hpl
      · exact b6 x hx
    · cases i with
      | zero =>
        obtain ⟨q1, q2⟩ := CRel.pures _ _ a3
        have := (q2 j (by omega)).2
        simp only [pureRows, List.getD_cons_zero]
        have e : ((List.range r.length).map (f 0)).getD j undef = f 0 j := by simp [List.getD_eq_getElem?_getD, hrl, hj]
        rw [e] at this
        exact this.mono b2.sub (fun _ _ => rfl)
      | succ i => simp only [pureRows, List.getD_cons_succ]; exact b5 i j (by simpa using hi) hj

theorem gelems_sound (ℓ : Nat) {k : Nat} {v : Value} {x : GV} {xs : List (List PV)} {H1 : Heap} {size : Nat} (hH : HRel w S μ H) (hv : VRel w S μ k v x) (h : gelems H x = some (xs, H1))
    (hpos : 0 < size) (hsz : ∀ r ∈ xs, r.length = size) :
    ∃ S1, HRel w S1 μ H1 ∧ Ev ℓ w S μ w S1 μ ∧ SameBox H H1 ∧ (∀ w2 : World, (Builtin.lenOf v).run P w2 = .ok xs.length w2) ∧
      ∀ w2 : World, w2.heap = w.heap → ∃ cells, (Builtin.firstCells size xs.length v).run P w2 = .ok cells w2 ∧ RowsAt w S1 cells xs size := by
  have rowlen : ∀ (l : List (List PV)) (es : Nat), l ≠ [] → (∀ r ∈ l, r.length = es) → (∀ r ∈ l, r.length = size) → es = size := by
    intro l es hne h1 h2
    cases l with
    | nil => exact absurd rfl hne
    | cons r l => have a := h1 r (by simp); have b := h2 r (by simp); omega
  cases x with
  | nils =>
    simp only [gelems, Option.some.injEq, Prod.mk.injEq] at h
    obtain ⟨rfl, rfl⟩ := h
    cases hv with | nils a =>
    refine ⟨S, hH, .refl _ _ _ _, .refl H, fun w2 => rfl, fun w2 _ => ⟨#[], ?_, by simp, by simp⟩⟩
    cases a <;> simp [Builtin.firstCells, loadCells, loadCellsFrom]
  | pure p =>
    cases p with
    | slice l =>
      simp only [gelems, Option.some.injEq, Prod.mk.injEq] at h
      obtain ⟨rfl, rfl⟩ := h
      refine ⟨S, hH, .refl _ _ _ _, .refl H, ?_⟩
      have := hv.pv
      cases this with
      | slice0 a cap =>
        refine ⟨fun w2 => rfl, fun w2 _ => ⟨#[], ?_, by simp, by simp⟩⟩
        cases a <;> simp [Builtin.firstCells, loadCells, loadCellsFrom]
      | slice b o cap es _ f hS he hes hf h1 hr hcp =>
        refine ⟨fun w2 => rfl, fun w2 hw => ?_⟩
        by_cases hne : l = []
        · subst hne
          exact ⟨#[], by simp [Builtin.firstCells, loadCells, loadCellsFrom], by simp, by simp⟩
        · obtain rfl : es = size := rowlen l es hne hes hsz
          obtain ⟨cells, c1, c2, c3⟩ := load_rows (P := P) hw he f hf
          exact ⟨cells, by simpa [Builtin.firstCells] using c1, c2, fun i j hi hj => by rw [c3 i j hi hj]; exact ⟨h1 i j hi hj, hr i j hi hj⟩⟩
    | str l =>
      simp only [gelems, Option.some.injEq, Prod.mk.injEq] at h
      obtain ⟨rfl, rfl⟩ := h
      obtain ⟨s, rfl, hs⟩ := hv.str_inv
      refine ⟨S, hH, .refl _ _ _ _, .refl H, fun w2 => ?_, fun w2 _ => ?_⟩
      · subst hs; simp [Builtin.lenOf]
      · by_cases hne : l = []
        · subst hne
          refine ⟨#[], ?_, by simp, by simp⟩
          have : s.extract 0 0 = ByteArray.empty := by ext1; simp
          simp [Builtin.firstCells, this]
        · have hs1 : size = 1 := by
            cases l with
            | nil => exact absurd rfl hne
            | cons b r => have := hsz [.int .u8 b.toNat] (by simp); simpa using this.symm
          subst hs1
          have hex : s.extract 0 l.length = s := by
            have : l.length = s.size := by subst hs; simp
            rw [this]; ext1; simp
          refine ⟨s.data.map fun b => .int .u8 b.toNat, ?_, ?_, fun i j hi hj => ?_⟩
          · simp only [List.length_map]
            simp [Builtin.firstCells, hex]
          · subst hs; simp
          · obtain rfl : j = 0 := by omega
            have hi' : i < l.length := by simpa using hi
            have hi2 : i < s.data.size := by subst hs; simpa using hi'
            rw [agetD]
            have e : (s.data.map fun b => Value.int .u8 b.toNat).toList.getD (i * 1 + 0) undef = .int .u8 (l[i]).toNat := by
              subst hs; simp [List.getD_eq_getElem?_getD, Array.getElem?_eq_getElem hi2]
            have e2 : ((l.map fun b => [PV.int .u8 b.toNat]).getD i []).getD 0 .dead = .int .u8 (l[i]).toNat := by
              simp [List.getD_eq_getElem?_getD, hi']
            rw [e, e2]; exact ⟨rfl, .int _ _⟩
    | _ => simp [gelems] at h
  | lits l =>
    simp only [gelems, Option.some.injEq] at h
    cases hv with
    | lits b o cap es _ f hS he hes hf h1 hr =>
    by_cases hne : l = []
    · subst hne
      simp only [pureRows, Prod.mk.injEq] at h
      obtain ⟨rfl, rfl⟩ := h
      exact ⟨S, hH, .refl _ _ _ _, .refl H, fun w2 => rfl, fun w2 _ => ⟨#[], by simp [Builtin.firstCells, loadCells, loadCellsFrom], by simp, by simp⟩⟩
    · obtain ⟨S1, b1, b2, b3, b4, b6, b5⟩ := pureRows_rel ℓ l f S H k hH hes (fun i j hi hj => ⟨h1 i j hi hj, hr i j hi hj⟩)
      rw [h] at b1 b3 b4 b5 b6
      simp only at b1 b3 b4 b5 b6
      have hxne : xs ≠ [] := by intro e; subst e; exact hne (List.eq_nil_of_length_eq_zero (by simpa using b4.symm))
      obtain rfl : es = size := rowlen xs es hxne b6 hsz
      refine ⟨S1, b1, b2, b3, fun w2 => by simp [Builtin.lenOf, b4], fun w2 hw => ?_⟩
      obtain ⟨cells, c1, c2, c3⟩ := load_rows (P := P) hw he f hf
      refine ⟨cells, by rw [b4]; simpa [Builtin.firstCells] using c1, by rw [b4]; exact c2, fun i j hi hj => ?_⟩
      rw [b4] at hi
      rw [c3 i j hi hj]; exact ⟨h1 i j hi hj, b5 i j hi hj⟩
  | hdr nm es top lo len =>
    simp only [gelems, sliceOf] at h
    split at h
    · rename_i l hl
      simp only [Option.some.injEq, Prod.mk.injEq] at h
      obtain ⟨rfl, rfl⟩ := h
      split at hl
      · rename_i es' elems vf ro hg
        split at hl
        · rename_i hc
          obtain ⟨rfl, hvf, hlen, htop⟩ := hc
          simp only [PV.slice.injEq] at hl; subst hl
          cases hv with
          | hdr _ _ _ _ _ cap b n e h1 h2 h3 h4 h5 h6 =>
          obtain ⟨h0, k1, k2, k3, k4⟩ := hH.blk _ _ hg _ _ h2
          obtain ⟨g1, g2, g3, g4⟩ := k4 top b h2
          obtain ⟨_, g5⟩ := g4 hvf
          have hlen2 : ((elems.drop lo).take len).length = len := by simp; omega
          refine ⟨S, hH, .refl _ _ _ _, .refl H, fun w2 => by rw [hlen2]; rfl, fun w2 hw => ?_⟩
          rw [hlen2]
          by_cases hz : len = 0
          · subst hz
            exact ⟨#[], by simp [Builtin.firstCells, loadCells, loadCellsFrom], by simp, by simp⟩
          · have hne : (elems.drop lo).take len ≠ [] := by intro e; rw [e] at hlen2; simp at hlen2; omega
            obtain rfl : es' = size := rowlen _ es' hne (fun r hr => k1 r (List.mem_of_mem_drop (List.mem_of_mem_take hr))) hsz
            obtain ⟨cells, c1, c2, c3⟩ := load_rows (P := P) (b := b) (o := lo * es') (n := len) hw h0 (fun i j => (w.cell? ⟨b, (lo + i) * es' + j, none⟩).getD undef) (fun i j hi hj => by
              obtain ⟨u, u1, u2, u3⟩ := g5 (lo + i) j (by omega) hj
              have e : lo * es' + (i * es' + j) = (lo + i) * es' + j := by rw [Nat.add_mul]; omega
              rw [e, u1]; rfl)
            refine ⟨cells, by simpa [Builtin.firstCells] using c1, by rw [hlen2]; exact c2, fun i j hi hj => ?_⟩
            rw [hlen2] at hi
            obtain ⟨u, u1, u2, u3⟩ := g5 (lo + i) j (by omega) hj
            have hget : (((elems.drop lo).take len).getD i []) = elems.getD (lo + i) [] := by
              simp [List.getD_eq_getElem?_getD, List.getElem?_take, hi, List.getElem?_drop]
            rw [c3 i j hi hj, u1, hget]
            exact ⟨u2, u3⟩
        · cases hl
      · cases hl
    · cases h
  | _ => simp [gelems] at h

theorem growBy_le (n : Nat) : ∀ (r c : Nat), Builtin.growBy n r c ≤ (c + 768) * 2 ^ r
  | 0, c => by simp [Builtin.growBy]
  | r + 1, c => by
    unfold Builtin.growBy
    split
    · have : 1 ≤ 2 ^ (r + 1) := Nat.one_le_two_pow
      calc c ≤ (c + 768) * 1 := by omega
        _ ≤ _ := Nat.mul_le_mul_left _ this
    · have h1 := growBy_le n r (c + (c + 768) / 4)
      have h2 : c + (c + 768) / 4 + 768 ≤ (c + 768) * 2 := by omega
      calc _ ≤ (c + (c + 768) / 4 + 768) * 2 ^ r := h1
        _ ≤ (c + 768) * 2 * 2 ^ r := Nat.mul_le_mul_right _ h2
        _ = (c + 768) * 2 ^ (r + 1) := by rw [Nat.pow_succ]; rw [Nat.mul_assoc, Nat.mul_comm 2]

theorem slicecap_le (need cap : Nat) (h : cap < need) : Builtin.nextslicecap need cap ≤ 16 * (need + 768) := by
  unfold Builtin.nextslicecap
  split
  · omega
  · split
    · omega
    · refine Nat.le_trans (growBy_le need 4 cap) ?_
      have e : (2 : Nat) ^ 4 = 16 := by decide
      rw [e]; omega

theorem cap_ok {need cap bytes : Nat} (h : cap < need) (hb : bytes ≤ 1048576) (hn : need * bytes ≤ 1099511627776) : ¬ Builtin.nextslicecap need cap * bytes > 2 ^ 48 := by
  have h1 := Nat.mul_le_mul_right bytes (slicecap_le need cap h)
  have h2 : 16 * (need + 768) * bytes = 16 * (need * bytes) + 16 * 768 * bytes := by rw [Nat.mul_assoc, Nat.add_mul]; omega
  omega

theorem zsize_run {e : TypeId} {size : Nat} (h : zsize P e = some size) (w : World) : ∃ v, (zeroValue e).run P w = .ok v w ∧ v.cells.size = size := by
  unfold zsize at h
  split at h
  · rename_i z hz
    split at h
    · rename_i zs hzs
      simp only [Option.some.injEq] at h
      obtain ⟨v, h1, rfl⟩ := r_zero (P := P) w hz
      have := (cellsO_rel (ofConst_rel (w := w) (S := fun _ => False) (μ := fun _ _ => none) (ℓ := 0) v) hzs).length
      simp at this
      exact ⟨v, h1, by omega⟩
    · cases h
  · cases h

theorem spreads_some {t : Option TypeId} (h : spreads P t = true) : ∃ t', t = some t' ∧ ((∃ e, P.underlying t' = some (.slice e)) ∨ P.underlying t' = some .string) := by
  unfold spreads at h
  split at h
  · rename_i t'
    split at h
    · exact ⟨t', rfl, .inl ⟨_, ‹_›⟩⟩
    · exact ⟨t', rfl, .inr ‹_›⟩
    · cases h
  · cases h

end
end Go.Gh
