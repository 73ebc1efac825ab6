/- Slices of slices, lengths, least and greatest. -/
import Derived.Test.YtgmohiojddnfgaaGreatDoorGhost14
namespace Go.Gh
set_option linter.unusedSimpArgs false
set_option linter.unusedVariables false

section
variable {w : World} {S : Nat → Prop} {μ : Mu} {H : Heap} {P : Program} {ℓ : Nat}

theorem bound_run {k : Nat} {v : Value} {g : GV} {a d y : Nat} {code : BoundsCode} (hv : VRel w S μ k v g) (h : gbound (some g) d = some a) (hy : a ≤ y) :
    (Instr.sliceBound v y code).run P w = .ok a w := by
  simp only [gbound] at h
  split at h
  · rename_i h0; cases h0
  · rename_i kd i heq
    simp only [Option.some.injEq] at heq; subst heq
    obtain rfl := hv.int_inv
    split at h
    · cases h
    · simp only [Option.some.injEq] at h; subst h
      have : 0 ≤ i ∧ i ≤ (y : Int) := by omega
      simp [Instr.sliceBound, asIntOf, this]
  · cases h

theorem bounds_run (hG : GlbRel w S) {k : Nat} {is : Bool} {len cap a b : Nat} {act : Act} {s : Slots} (hs : ∀ t, VRel w S μ k (act.tmps.getD t undef) (look s t)) {lo hi : Option Operand}
    (h1 : gbound (lo.map (ev s)) 0 = some a) (h2 : gbound (hi.map (ev s)) len = some b) (hab : a ≤ b) (hbc : b ≤ cap) :
    (Instr.sliceBounds is len cap (lo.map act.eval) (hi.map act.eval) none).run P w = .ok (a, b, cap) w := by
  have e2 : ∀ code, (match hi.map act.eval, (none : Option Value) with
      | some v, some _ => Instr.sliceBound v cap .slice3B
      | some v, none => Instr.sliceBound v cap code
      | none, none => pure len
      | none, some _ => stuck "Slice: max without high").run P w = .ok b w := by
    intro code
    cases hi with
    | none => simp only [Option.map_none, gbound, Option.some.injEq] at h2; subst h2; simp
    | some x => exact bound_run (ev_rel hG hs x) h2 (by omega)
  have e1 : (match lo.map act.eval with
      | some v => Instr.sliceBound v b .sliceB
      | none => pure 0).run P w = .ok a w := by
    cases lo with
    | none => simp only [Option.map_none, gbound, Option.some.injEq] at h1; subst h1; simp
    | some x => exact bound_run (ev_rel hG hs x) h1 hab
  unfold Instr.sliceBounds
  cases lo with
  | none =>
    cases hi with
    | none => simp only [Option.map_none] at e1 e2 ⊢; simp [e1, e2] at *; simp [h1, h2, gbound] at *; omega
    | some x => simp only [Option.map_none, Option.map_some] at e1 e2 ⊢; simp [e1, e2]; simp [gbound] at h1; omega
  | some y =>
    cases hi with
    | none => simp only [Option.map_none, Option.map_some] at e1 e2 ⊢; simp [e1, e2]; simp [gbound] at h2; subst h2; simp [e1]
    | some x => simp only [Option.map_some] at e1 e2 ⊢; simp [e1, e2]

theorem bounds3_run (hG : GlbRel w S) {k : Nat} {len cap a b m' : Nat} {act : Act} {s : Slots} (hs : ∀ t, VRel w S μ k (act.tmps.getD t undef) (look s t)) {lo hi : Option Operand} {m : Operand} {k1 k2 : IntKind} {bi mi : Int}
    (h1 : gbound (lo.map (ev s)) 0 = some a) (h2 : hi.map (ev s) = some (.pure (.int k1 bi))) (h3 : ev s m = .pure (.int k2 mi)) (eb : bi = (b : Int)) (em' : mi = (m' : Int)) (hab : a ≤ b) (hbm : b ≤ m') (hmc : m' ≤ cap) :
    (Instr.sliceBounds true len cap (lo.map act.eval) (hi.map act.eval) (some (act.eval m))).run P w = .ok (a, b, m') w := by
  subst eb em'
  have e3 := ev_rel hG hs m
  rw [h3] at e3
  have em := e3.int_inv
  cases hi with
  | none => cases h2
  | some x =>
    have e2 := ev_rel hG hs x
    simp only [Option.map_some, Option.some.injEq] at h2
    rw [h2] at e2
    have ex := e2.int_inv
    have hbi : (b : Int) ≤ (m' : Int) := by omega
    have hmi : (m' : Int) ≤ (cap : Int) := by omega
    have q1 : ∀ code, (Instr.sliceBound (.int k2 (m' : Int)) cap code).run P w = .ok m' w := fun code => by simp [Instr.sliceBound, asIntOf, hmi]
    have q2 : ∀ code, (Instr.sliceBound (.int k1 (b : Int)) m' code).run P w = .ok b w := fun code => by simp [Instr.sliceBound, asIntOf, hbi]
    cases lo with
    | none =>
      simp only [Option.map_none, gbound, Option.some.injEq] at h1
      subst h1
      simp [Instr.sliceBounds, em, ex, q1, q2]
    | some y =>
      have := fun code => bound_run (P := P) (y := b) (code := code) (ev_rel hG hs y) h1 hab
      simp only [Option.map_some]
      simp [Instr.sliceBounds, em, ex, this, q1, q2]

theorem slice_pure_rel {n cap : Nat} {base : Option Addr} {l : List (List PV)} {a b size : Nat} (h : PRep w S (.slice base n cap) (.slice l)) (hab : a ≤ b) (hb : b ≤ l.length)
    (hall : l.all (fun r => r.length == size) = true) :
    n = l.length ∧ PRep w S (.slice (if cap = a then base else base.map (·.add (a * size))) (b - a) (cap - a)) (.slice ((l.take b).drop a)) := by
  by_cases he : a = b
  · subst he
    have : (l.take a).drop a = [] := by simp
    rw [this, Nat.sub_self]
    refine ⟨?_, .slice0 _ _⟩
    cases h <;> rfl
  · cases h with
    | slice0 a cap => simp at hb; omega
    | slice b' o cap es l f hS hpos hes hf h1 hr hcp =>
      refine ⟨rfl, ?_⟩
      have hne : es = size := by
        have hm := List.getElem_mem (l := l) (n := 0) (by omega)
        rw [← hes _ hm]
        simp only [List.all_eq_true, beq_iff_eq] at hall
        exact hall _ hm
      subst hne
      have hca : cap ≠ a := by omega
      rw [if_neg hca]
      have hlen : ((l.take b).drop a).length = b - a := by simp; omega
      have hget : ∀ i, i < b - a → ((l.take b).drop a).getD i [] = l.getD (a + i) [] := fun i hi => by
        have : a + i < b := by omega
        simp [List.getD_eq_getElem?_getD, List.getElem?_drop, List.getElem?_take, this]
      have e0 : ∀ i j, o + a * es + (i * es + j) = o + ((a + i) * es + j) := fun i j => by rw [Nat.add_mul]; omega
      have := PRep.slice (w := w) (S := S) b' (o + a * es) (cap - a) es ((l.take b).drop a) (fun i j => f (a + i) j) hS hpos
        (fun r hr => hes r (List.mem_of_mem_take (List.mem_of_mem_drop hr)))
        (fun i j hi hj => by rw [hlen] at hi; rw [e0]; exact hf (a + i) j (by omega) hj)
        (fun i j hi hj => by rw [hlen] at hi; exact h1 (a + i) j (by omega) hj)
        (fun i j hi hj => by rw [hlen] at hi; rw [hget i hi]; exact hr (a + i) j (by omega) hj)
        (by rw [hlen]; omega)
      rw [hlen] at this
      simpa [add_none] using this

theorem PRep.slice_inv {v : Value} {l : List (List PV)} (h : PRep w S v (.slice l)) : ∃ base cap, v = .slice base l.length cap ∧ l.length ≤ cap := by
  cases h with
  | slice0 a cap => exact ⟨a, cap, rfl, by simp⟩
  | slice b o cap es l f hS hpos hes hf h1 hr hcp => exact ⟨_, _, rfl, hcp⟩

theorem slice_sound (K : Ctx) (hG : GlbRel w S) {k : Nat} {t : TypeId} {va : Value} {x r : GV} {lo hi mx : Option Operand} {act : Act} {s : Slots} (hs : ∀ t, VRel w S μ k (act.tmps.getD t undef) (look s t))
    (hx : VRel w S μ k va x) (h : gslice K t x (lo.map (ev s)) (hi.map (ev s)) (mx.map (ev s)) = some r) :
    ∃ u, (Instr.sliceAt t va (lo.map act.eval) (hi.map act.eval) (mx.map act.eval)).run K.P w = .ok u w ∧ VRel w S μ k u r := by
  unfold gslice at h
  cases mx with
  | some m =>
    simp only [Option.map_some, Option.isSome_some, if_true] at h ⊢
    split at h
    · rename_i a0 k1 bi k2 mi e h1 h2 h3 hte
      simp only [Option.some.injEq] at h3
      have hu := telem_some hte
      have hb := fun len cap (e1 : a0 = 0) (e2 : bi = 0) (e3 : mi = 0) => bounds3_run (P := K.P) (len := len) (cap := cap) (b := 0) (m' := 0) hG hs (by rw [h1, e1]) h2 h3 e2 e3 (Nat.le_refl _) (Nat.le_refl _) (Nat.zero_le _)
      split at h
      · rename_i size hsz
        split at h
        · rename_i hc
          have hb := fun len cap => hb len cap hc.1 hc.2.1 hc.2.2
          simp only [Option.some.injEq] at h; subst h
          cases hx with
          | nils base => exact ⟨.slice base 0 0, by simp [Instr.sliceAt, Instr.slice, r_underlying w hu, hb, r_size w hsz], .nils _⟩
        · cases h
      · rename_i size l hsz
        split at h
        · rename_i hc
          have hb := fun len cap => hb len cap hc.1 hc.2.1 hc.2.2
          simp only [Option.some.injEq] at h; subst h
          obtain ⟨base, cap, rfl, hcp⟩ := hx.pv.slice_inv
          exact ⟨.slice base 0 0, by simp [Instr.sliceAt, Instr.slice, r_underlying w hu, hb, r_size w hsz], .nils _⟩
        · cases h
      · rename_i size nm es top lo0 len hsz
        split at h
        · rename_i hc
          have hb := fun len cap => hb len cap hc.1 hc.2.1 hc.2.2
          simp only [Option.some.injEq] at h; subst h
          cases hx with
          | hdr _ _ _ _ _ cap b0 n e0 hl hm hcl ht hsh hn => exact ⟨.slice (some ⟨b0, lo0 * es, none⟩) 0 0, by simp [Instr.sliceAt, Instr.slice, r_underlying w hu, hb, r_size w hsz], .nils _⟩
        · split at h
          · rename_i hc
            obtain ⟨c1, c2, c3, c4, rfl⟩ := hc
            simp only [Option.some.injEq] at h; subst h
            cases hx with
            | hdr _ _ _ _ _ cap b0 n e0 hl hm hcl ht hsh hn =>
            have hb := bounds3_run (P := K.P) (len := len) (cap := cap) (b := bi.toNat) (m' := len) hG hs h1 h2 h3 (by omega) c3 (by omega) (by omega) (by omega)
            refine ⟨.slice (if len = a0 then some ⟨b0, lo0 * size, none⟩ else (some ⟨b0, lo0 * size, none⟩ : Option Addr).map (·.add (a0 * size))) (bi.toNat - a0) (len - a0),
              by simp [Instr.sliceAt, Instr.slice, r_underlying w hu, hb, r_size w hsz], ?_⟩
            rw [if_neg (by omega)]
            have := VRel.hdr (w := w) (S := S) (μ := μ) (ℓ := k) nm size top (lo0 + a0) (bi.toNat - a0) (len - a0) b0 n e0 hl hm (by omega) (by omega) hsh
              (by have : (lo0 + a0 + (len - a0)) * size ≤ (lo0 + cap) * size := Nat.mul_le_mul_right _ (by omega)
                  omega)
            simpa [add_none, Nat.add_mul] using this
          · cases h
      · cases h
    · cases h
  | none =>
  simp only [Option.map_none, Option.isSome_none, Bool.false_eq_true, if_false] at h ⊢
  split at h
  · rename_i cs
    split at h
    · rename_i n e h1 h2 hta
      have hu := tarr_some hta
      split at h
      · rename_i size hsz
        split at h
        · rename_i hc
          simp only [Option.some.injEq] at h; subst h
          obtain ⟨c1, c2, c3⟩ := hc
          cases lo with
          | some _ => cases h1
          | none =>
          cases hi with
          | some _ => cases h2
          | none =>
          cases hx with
          | pptr b o _ f hS hf h1 hr =>
          have hpos : 0 < n * size := Nat.mul_pos c2 c1
          have hne : cs ≠ [] := by intro e; subst e; simp at c3; omega
          refine ⟨.slice (some ⟨b, o, none⟩) n n, by simp [Instr.sliceAt, r_underlying w hu, r_size w hsz, Instr.sureAddr, Instr.sliceBounds, add_none], .pure _ _ ?_⟩
          have hlen : (chunks size n cs).length = n := chunks_length size n cs
          have hlt : ∀ i j, i < n → j < size → i * size + j < cs.length := fun i j hi hj => by
            have h1 : (i + 1) * size ≤ n * size := Nat.mul_le_mul_right _ hi
            rw [Nat.add_mul] at h1; omega
          have hq : ∀ i j, i < n → j < size → ((chunks size n cs).getD i []).getD j PV.dead = cs.getD (i * size + j) PV.dead := fun i j hi hj => chunks_cell PV.dead i j hi hj
          have := PRep.slice (w := w) (S := S) b o n size (chunks size n cs) (fun i j => f (i * size + j)) (hS hne) c1
            (fun r hr => by
              obtain ⟨i, hi, rfl⟩ := List.getElem_of_mem hr
              rw [hlen] at hi
              have := chunks_get size n cs i hi
              have hg : (chunks size n cs)[i]? = some (chunks size n cs)[i] := by simp
              rw [hg] at this
              simp only [Option.some.injEq] at this
              rw [this]
              have h1 : (i + 1) * size ≤ n * size := Nat.mul_le_mul_right _ hi
              rw [Nat.add_mul] at h1
              simp only [List.length_take, List.length_drop]; omega)
            (fun i j hi hj => hf _ (hlt i j (hlen ▸ hi) hj)) (fun i j hi hj => h1 _ (hlt i j (hlen ▸ hi) hj))
            (fun i j hi hj => by rw [hq i j (hlen ▸ hi) hj]; exact hr _ (hlt i j (hlen ▸ hi) hj)) (by rw [hlen]; exact Nat.le_refl _)
          rw [hlen] at this
          exact this
        · cases h
      · cases h
    · cases h
  · rename_i l
    obtain ⟨str, rfl, rfl⟩ := hx.str_inv
    split at h
    · rename_i a b h1 h2 hu
      split at h
      · rename_i hc
        simp only [Option.some.injEq] at h; subst h
        have hb := bounds_run (P := K.P) (is := false) (cap := str.size) hG hs h1 h2 hc.1 (by have := hc.2; simpa using this)
        have hsz : str.data.toList.length = str.size := by simp
        rw [hsz] at hb
        refine ⟨.string (str.extract a b), by simp [Instr.sliceAt, Instr.slice, r_underlying w hu, hb], .pure _ _ ?_⟩
        have := PRep.str (w := w) (S := S) (str.extract a b)
        have e : (str.extract a b).data.toList = (str.data.toList.take b).drop a := by simp [List.drop_take]
        rw [e] at this; exact this
      · cases h
    · cases h
  · rename_i nm es top l0 len
    split at h
    · rename_i a b e h1 h2 hte
      have hu := telem_some hte
      split at h
      · rename_i hc
        obtain ⟨c1, c2, c3⟩ := hc
        cases hx with
        | hdr nm es top lo0 len cap b0 n e0 hl hm hcl ht hsh hn =>
        have hbc : b ≤ cap := by omega
        have hb := bounds_run (P := K.P) (is := true) (cap := cap) hG hs h1 h2 c1 hbc
        refine ⟨.slice (if cap = a then some ⟨b0, l0 * es, none⟩ else (some ⟨b0, l0 * es, none⟩ : Option Addr).map (·.add (a * es))) (b - a) (cap - a),
          by simp [Instr.sliceAt, Instr.slice, r_underlying w hu, hb, r_size w c3], ?_⟩
        split at h
        · simp only [Option.some.injEq] at h; subst h
          rename_i hab; obtain ⟨rfl, _⟩ := hab
          rw [Nat.sub_self]; exact .pure _ _ (.slice0 _ _)
        · simp only [Option.some.injEq] at h; subst h
          rename_i hab
          have e : (if cap = a then some ⟨b0, l0 * es, none⟩ else (some ⟨b0, l0 * es, none⟩ : Option Addr).map (·.add (a * es))) = some ⟨b0, (l0 + a) * es, none⟩ := by
            by_cases hca : cap = a
            · have ha0 : a = 0 := by
                by_cases h0 : a = b
                · have : ¬ 0 < a := fun h => hab ⟨h0, h⟩
                  omega
                · omega
              rw [if_pos hca, ha0, Nat.add_zero]
            · rw [if_neg hca]
              simp [add_none, Nat.add_mul]
          rw [e]
          have := VRel.hdr (w := w) (S := S) (μ := μ) (ℓ := k) nm es top (l0 + a) (b - a) (cap - a) b0 n e0 hl hm (by omega) (by omega) hsh
            (by have : l0 + a + (cap - a) = l0 + cap := by omega
                rw [this]; exact hn)
          exact this
      · cases h
    · cases h
  · rename_i l
    split at h
    · rename_i a b e h1 h2 hte
      have hu := telem_some hte
      split at h
      · rename_i hc
        split at h
        · rename_i es hes
          split at h
          · rename_i hall
            simp only [Option.some.injEq] at h; subst h
            obtain ⟨base, cap, rfl, hcp⟩ := hx.pv.slice_inv
            have hb := bounds_run (P := K.P) (is := true) (cap := cap) hG hs h1 h2 hc.1 (Nat.le_trans hc.2 hcp)
            obtain ⟨_, q2⟩ := slice_pure_rel (a := a) (b := b) hx.pv hc.1 hc.2 hall
            exact ⟨_, by simp [Instr.sliceAt, Instr.slice, r_underlying w hu, hb, r_size w hes], .pure _ _ q2⟩
          · cases h
        · cases h
      · cases h
    · cases h
  · split at h
    · rename_i e h1 h2 hte
      have hu := telem_some hte
      split at h
      · rename_i hsz
        simp only [Option.some.injEq] at h; subst h
        cases hx with
        | nils base =>
        obtain ⟨es, hes⟩ := Option.isSome_iff_exists.1 hsz
        have hb := bounds_run (P := K.P) (is := true) (len := 0) (cap := 0) hG hs h1 h2 (Nat.le_refl _) (Nat.le_refl _)
        exact ⟨.slice base 0 0, by simp [Instr.sliceAt, Instr.slice, r_underlying w hu, hb, r_size w hes], .pure _ _ (.slice0 _ _)⟩
      · cases h
    · cases h
  · cases h

theorem len_sound (K : Ctx) (hH : HRel w S μ H) {k : Nat} {t ty : TypeId} {ats : Array TypeId} {va : Value} {x : GV} {n : Int} {args : Array Value} (hx : VRel w S μ k va x) (ht : ats[0]? = some t) (ha : args[0]? = some va)
    (h : glen K t H x = some n) : (Builtin.len_ ats ty args).run K.P w = .ok (.int .i64 n) w := by
  unfold glen at h
  split at h
  · rename_i hu; simp only [Option.some.injEq] at h; subst h
    simp [Builtin.len_, ht, ha, r_underlying w hu, goInt]
  · rename_i hu; simp only [Option.some.injEq] at h; subst h
    cases hx
    simp [Builtin.len_, ht, ha, r_underlying w hu, goInt]
  · rename_i hu; simp only [Option.some.injEq] at h; subst h
    cases hx
    simp [Builtin.len_, ht, ha, r_underlying w hu, goInt]
  · rename_i hu; simp only [Option.some.injEq] at h; subst h
    cases hx
    simp [Builtin.len_, ht, ha, r_underlying w hu, goInt]
  · rename_i hu; simp only [Option.some.injEq] at h; subst h
    cases hx
    simp [Builtin.len_, ht, ha, r_underlying w hu, goInt]
  · rename_i hu; simp only [Option.some.injEq] at h; subst h
    obtain ⟨base, cap, rfl, hcp⟩ := hx.pv.slice_inv
    simp [Builtin.len_, ht, ha, r_underlying w hu, goInt]
  · rename_i hu; simp only [Option.some.injEq] at h; subst h
    obtain ⟨str, rfl, rfl⟩ := hx.str_inv
    simp [Builtin.len_, ht, ha, r_underlying w hu, goInt]
  · rename_i hu; simp only [Option.some.injEq] at h; subst h
    have := hx.pv
    cases this
    simp [Builtin.len_, ht, ha, r_underlying w hu, goInt]
  · rename_i nm hu
    split at h
    · rename_i es hg
      simp only [Option.some.injEq] at h; subst h
      cases hx with
      | map nm b' hl hm =>
      obtain ⟨b, ms, clock, h1, h2, h3, h4, h5⟩ := hH.blk _ _ hg _ _ hm
      rw [hm] at h1; simp only [Option.some.injEq] at h1; subst h1
      have hgo : (getObj b').run K.P w = .ok (.map ms clock) w := by simp [getObj, Sem.run, h3]
      simp [Builtin.len_, ht, ha, r_underlying w hu, goInt, hgo, h4]
    · cases h
  · cases h

theorem minmax_sound {k : Nat} {mx : Bool} : ∀ (gs : List GV) (vs : List Value) (r : GV) , vs.length = gs.length → (∀ j, j < gs.length → VRel w S μ k (vs.getD j undef) (gs.getD j gdead)) → gminmax mx gs = some r →
    ∃ v0 rest kd n, vs = v0 :: rest ∧ r = .pure (.int kd n) ∧ (rest.foldlM (if mx then Builtin.max2 else Builtin.min2) v0).run P w = .ok (.int kd n) w
  | [], vs, r, _, _, h => by simp [gminmax] at h
  | [g], vs, r, hl, hr, h => by
    match vs, hl with
    | [v], _ =>
    have h0 := hr 0 (by simp)
    simp at h0
    unfold gminmax at h
    split at h
    · rename_i heq; simp at heq
    · rename_i kd a heq
      simp at heq; subst heq
      simp only [Option.some.injEq] at h; subst h
      obtain rfl := h0.int_inv
      exact ⟨_, _, _, _, rfl, rfl, by simp⟩
    · rename_i heq; simp at heq
    · cases h
  | g :: g' :: gs, vs, r, hl, hr, h => by
    match vs, hl with
    | v :: v' :: vs, hl =>
    have h0 := hr 0 (by simp)
    have h1 := hr 1 (by simp)
    simp at h0 h1
    unfold gminmax at h
    split at h
    · rename_i heq; simp at heq
    · rename_i heq; simp at heq
    · rename_i kd a kd' b rest heq
      simp at heq
      obtain ⟨rfl, rfl, rfl⟩ := heq
      split at h
      · rename_i hk; subst hk
        obtain rfl := h0.int_inv
        obtain rfl := h1.int_inv
        obtain ⟨v0, rest', kd', n', e1, e2, e3⟩ := minmax_sound (k := k) (mx := mx) _ (.int kd (if mx then (if a < b then b else a) else (if b < a then b else a)) :: vs) r (by simpa using hl)
          (fun j hj => by
            cases j with
            | zero => simp; exact .pure _ _ (.int _ _)
            | succ j => have := hr (j + 2) (by simpa using hj); simpa using this) h
        simp only [List.cons.injEq] at e1
        obtain ⟨rfl, rfl⟩ := e1
        refine ⟨_, _, kd', n', rfl, e2, ?_⟩
        rw [List.foldlM_cons]
        cases mx
        · simp only [Bool.false_eq_true, if_false, Builtin.min2] at e3 ⊢
          simpa using e3
        · simp only [if_true, Builtin.max2] at e3 ⊢
          simpa using e3
      · cases h
    · cases h
termination_by gs => gs.length

end
end Go.Gh
