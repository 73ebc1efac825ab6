/- Texts joined: the evaluator over ghost values, its soundness, the walks. Spaces struck and names made short by a program, for the size. -/
import Derived.Test.YthcpepcmnmlmeaaGc3b
import Derived.MapKept
import Derived.Lib.UnsafeStr
import Derived.Laws.BytesArg
import Derived.Lib.ConvBytes
import Derived.Laws.AppendOwn
import Derived.RangeFuncRecord
import Derived.RangeFuncNested
import Derived.OrdersIn
namespace Go.Gh
set_option linter.unusedVariables false
set_option linter.unusedSimpArgs false
set_option linter.unnecessarySimpa false
set_option maxRecDepth 100000
set_option maxHeartbeats 8000000
section
section
variable {w : World} {S : Nat → Prop} {μ : Mu} {H : Heap} {P : Program} {ℓ : Nat}
theorem bound_run {k : Nat} {v : Value} {g : GV} {a d y : Nat} {code : BoundsCode} (hv : VRel w S μ k v g) (h : gbound (some g) d = some a) (hy : a ≤ y) :
  (Instr.sliceBound v y code).run P w = .ok a w := by
 simp only [gbound] at h
 split at h
 ·rename_i h0; cases h0
 ·rename_i kd i heq
  simp only [Option.some.injEq] at heq; subst heq
  obtain rfl := hv.int_inv
  split at h
  ·cases h
  ·simp only [Option.some.injEq] at h; subst h
   have : 0 ≤ i ∧ i ≤ (y : Int) := by omega
   simp [Instr.sliceBound, asIntOf, this]
 ·cases h
theorem bounds_run (hG : GlbRel w S) {k : Nat} {is : Bool} {len cap a b : Nat} {act : Act} {s : Slots} (hs : ∀ t, VRel w S μ k (act.tmps.getD t undef) (look s t)) {lo hi : Option Operand}
  (h1 : gbound (lo.map (ev s)) 0 = some a) (h2 : gbound (hi.map (ev s)) len = some b) (hab : a ≤ b) (hbc : b ≤ cap) :
  (Instr.sliceBounds is len cap (lo.map act.eval) (hi.map act.eval) none).run P w = .ok (a, b, cap) w := by
 have e2 : ∀ code, (match hi.map act.eval, (none : Option Value) with
   | some v, some _ => Instr.sliceBound v cap .slice3B
   | some v, none => Instr.sliceBound v cap code
   | none, none => pure len
   | none, some _ => stuck "Slice: max without high").run P w = .ok b w := by
  intro code
  cases hi with
  | none => simp only [Option.map_none, gbound, Option.some.injEq] at h2; subst h2; simp
  | some x => exact bound_run (ev_rel hG hs x) h2 (by omega)
 have e1 : (match lo.map act.eval with
   | some v => Instr.sliceBound v b .sliceB
   | none => pure 0).run P w = .ok a w := by
  cases lo with
  | none => simp only [Option.map_none, gbound, Option.some.injEq] at h1; subst h1; simp
  | some x => exact bound_run (ev_rel hG hs x) h1 hab
 unfold Instr.sliceBounds
 cases lo with
 | none =>
  cases hi with
  | none => simp only [Option.map_none] at e1 e2 ⊢; simp [e1, e2] at *; simp [h1, h2, gbound] at *; omega
  | some x => simp only [Option.map_none, Option.map_some] at e1 e2 ⊢; simp [e1, e2]; simp [gbound] at h1; omega
 | some y =>
  cases hi with
  | none => simp only [Option.map_none, Option.map_some] at e1 e2 ⊢; simp [e1, e2]; simp [gbound] at h2; subst h2; simp [e1]
  | some x => simp only [Option.map_some] at e1 e2 ⊢; simp [e1, e2]
theorem bounds3_run (hG : GlbRel w S) {k : Nat} {len cap a b m' : Nat} {act : Act} {s : Slots} (hs : ∀ t, VRel w S μ k (act.tmps.getD t undef) (look s t)) {lo hi : Option Operand} {m : Operand} {k1 k2 : IntKind} {bi mi : Int}
  (h1 : gbound (lo.map (ev s)) 0 = some a) (h2 : hi.map (ev s) = some (.pure (.int k1 bi))) (h3 : ev s m = .pure (.int k2 mi)) (eb : bi = (b : Int)) (em' : mi = (m' : Int)) (hab : a ≤ b) (hbm : b ≤ m') (hmc : m' ≤ cap) :
  (Instr.sliceBounds true len cap (lo.map act.eval) (hi.map act.eval) (some (act.eval m))).run P w = .ok (a, b, m') w := by
 subst eb em'
 have e3 := ev_rel hG hs m
 rw [h3] at e3
 have em := e3.int_inv
 cases hi with
 | none => cases h2
 | some x =>
  have e2 := ev_rel hG hs x
  simp only [Option.map_some, Option.some.injEq] at h2
  rw [h2] at e2
  have ex := e2.int_inv
  have hbi : (b : Int) ≤ (m' : Int) := by omega
  have hmi : (m' : Int) ≤ (cap : Int) := by omega
  have q1 : ∀ code, (Instr.sliceBound (.int k2 (m' : Int)) cap code).run P w = .ok m' w := fun code => by simp [Instr.sliceBound, asIntOf, hmi]
  have q2 : ∀ code, (Instr.sliceBound (.int k1 (b : Int)) m' code).run P w = .ok b w := fun code => by simp [Instr.sliceBound, asIntOf, hbi]
  cases lo with
  | none =>
   simp only [Option.map_none, gbound, Option.some.injEq] at h1
   subst h1
   simp [Instr.sliceBounds, em, ex, q1, q2]
  | some y =>
   have := fun code => bound_run (P := P) (y := b) (code := code) (ev_rel hG hs y) h1 hab
   simp only [Option.map_some]
   simp [Instr.sliceBounds, em, ex, this, q1, q2]
theorem slice_pure_rel {n cap : Nat} {base : Option Addr} {l : List (List PV)} {a b size : Nat} (h : PRep w S (.slice base n cap) (.slice l)) (hab : a ≤ b) (hb : b ≤ l.length)
  (hall : l.all (fun r => r.length == size) = true) :
  n = l.length ∧ PRep w S (.slice (if cap = a then base else base.map (·.add (a * size))) (b - a) (cap - a)) (.slice ((l.take b).drop a)) := by
 by_cases he : a = b
 ·subst he
  have : (l.take a).drop a = [] := by simp
  rw [this, Nat.sub_self]
  refine ⟨?_, .slice0 _ _⟩
  cases h <;> rfl
 ·cases h with
  | slice0 a cap => simp at hb; omega
  | slice b' o cap es l f hS hpos hes hf h1 hr hcp =>
   refine ⟨rfl, ?_⟩
   have hne : es = size := by
    have hm := List.getElem_mem (l := l) (n := 0) (by omega)
    rw [← hes _ hm]
    simp only [List.all_eq_true, beq_iff_eq] at hall
    exact hall _ hm
   subst hne
   have hca : cap ≠ a := by omega
   rw [if_neg hca]
   have hlen : ((l.take b).drop a).length = b - a := by simp; omega
   have hget : ∀ i, i < b - a → ((l.take b).drop a).getD i [] = l.getD (a + i) [] := fun i hi => by
    have : a + i < b := by omega
    simp [List.getD_eq_getElem?_getD, List.getElem?_drop, List.getElem?_take, this]
   have e0 : ∀ i j, o + a * es + (i * es + j) = o + ((a + i) * es + j) := fun i j => by rw [Nat.add_mul]; omega
   have := PRep.slice (w := w) (S := S) b' (o + a * es) (cap - a) es ((l.take b).drop a) (fun i j => f (a + i) j) hS hpos
    (fun r hr => hes r (List.mem_of_mem_take (List.mem_of_mem_drop hr)))
    (fun i j hi hj => by rw [hlen] at hi; rw [e0]; exact hf (a + i) j (by omega) hj)
    (fun i j hi hj => by rw [hlen] at hi; exact h1 (a + i) j (by omega) hj)
    (fun i j hi hj => by rw [hlen] at hi; rw [hget i hi]; exact hr (a + i) j (by omega) hj)
    (by rw [hlen]; omega)
   rw [hlen] at this
   simpa [add_none] using this
theorem PRep.slice_inv {v : Value} {l : List (List PV)} (h : PRep w S v (.slice l)) : ∃ base cap, v = .slice base l.length cap ∧ l.length ≤ cap := by
 cases h with
 | slice0 a cap => exact ⟨a, cap, rfl, by simp⟩
 | slice b o cap es l f hS hpos hes hf h1 hr hcp => exact ⟨_, _, rfl, hcp⟩
theorem slice_sound (K : Ctx) (hG : GlbRel w S) {k : Nat} {t : TypeId} {va : Value} {x r : GV} {lo hi mx : Option Operand} {act : Act} {s : Slots} (hs : ∀ t, VRel w S μ k (act.tmps.getD t undef) (look s t))
    (hx : VRel w S μ k va x) (h : gslice K t x (lo.map (ev s)) (hi.map (ev s)) (mx.map (ev s)) = some r) :
    ∃ u, (Instr.sliceAt t va (lo.map act.eval) (hi.map act.eval) (mx.map act.eval)).run K.P w = .ok u w ∧ VRel w S μ k u r := by
  unfold gslice at h
  cases mx with
  | some m =>
    simp only [Option.map_some, Option.isSome_some, if_true] at h ⊢
    split at h
    · rename_i a0 k1 bi k2 mi e h1 h2 h3 hte
      simp only [Option.some.injEq] at h3
      have hu := telem_some hte
      have hb := fun len cap (e1 : a0 = 0) (e2 : bi = 0) (e3 : mi = 0) => bounds3_run (P := K.P) (len := len) (cap := cap) (b := 0) (m' := 0) hG hs (by rw [h1, e1]) h2 h3 e2 e3 (Nat.le_refl _) (Nat.le_refl _) (Nat.zero_le _)
      split at h
      · rename_i size hsz
        split at h
        · rename_i hc
          have hb := fun len cap => hb len cap hc.1 hc.2.1 hc.2.2
          simp only [Option.some.injEq] at h; subst h
          cases hx with
          | nils base => exact ⟨.slice base 0 0, by simp [Instr.sliceAt, Instr.slice, r_underlying w hu, hb, r_size w hsz], .nils _⟩
        · cases h
      · rename_i size l hsz
        split at h
        · rename_i hc
          have hb := fun len cap => hb len cap hc.1 hc.2.1 hc.2.2
          simp only [Option.some.injEq] at h; subst h
          obtain ⟨base, cap, rfl, hcp⟩ := hx.pv.slice_inv
          exact ⟨.slice base 0 0, by simp [Instr.sliceAt, Instr.slice, r_underlying w hu, hb, r_size w hsz], .nils _⟩
        · cases h
      · rename_i size nm es top lo0 len hsz
        split at h
        · rename_i hc
          have hb := fun len cap => hb len cap hc.1 hc.2.1 hc.2.2
          simp only [Option.some.injEq] at h; subst h
          cases hx with
          | hdr _ _ _ _ _ cap b0 n e0 hl hm hcl ht hsh hn => exact ⟨.slice (some ⟨b0, lo0 * es, none⟩) 0 0, by simp [Instr.sliceAt, Instr.slice, r_underlying w hu, hb, r_size w hsz], .nils _⟩
        · split at h
          · rename_i hc
            obtain ⟨c1, c2, c3, c4, rfl⟩ := hc
            simp only [Option.some.injEq] at h; subst h
            cases hx with
            | hdr _ _ _ _ _ cap b0 n e0 hl hm hcl ht hsh hn =>
            have hb := bounds3_run (P := K.P) (len := len) (cap := cap) (b := bi.toNat) (m' := len) hG hs h1 h2 h3 (by omega) c3 (by omega) (by omega) (by omega)
            refine ⟨.slice (if len = a0 then some ⟨b0, lo0 * size, none⟩ else (some ⟨b0, lo0 * size, none⟩ : Option Addr).map (·.add (a0 * size))) (bi.toNat - a0) (len - a0),
              by simp [Instr.sliceAt, Instr.slice, r_underlying w hu, hb, r_size w hsz], ?_⟩
            rw [if_neg (by omega)]
            have := VRel.hdr (w := w) (S := S) (μ := μ) (ℓ := k) nm size top (lo0 + a0) (bi.toNat - a0) (len - a0) b0 n e0 hl hm (by omega) (by omega) hsh
              (by have : (lo0 + a0 + (len - a0)) * size ≤ (lo0 + cap) * size := Nat.mul_le_mul_right _ (by omega)
                  omega)
            simpa [add_none, Nat.add_mul] using this
          · cases h
      · cases h
    · cases h
  | none =>
  simp only [Option.map_none, Option.isSome_none, Bool.false_eq_true, if_false] at h ⊢
  split at h
  · rename_i cs
    split at h
    · rename_i n e h1 h2 hta
      have hu := tarr_some hta
      split at h
      · rename_i size hsz
        split at h
        · rename_i hc
          simp only [Option.some.injEq] at h; subst h
          obtain ⟨c1, c2, c3⟩ := hc
          cases lo with
          | some _ => cases h1
          | none =>
          cases hi with
          | some _ => cases h2
          | none =>
          cases hx with
          | pptr b o _ f hS hf h1 hr =>
          have hpos : 0 < n * size := Nat.mul_pos c2 c1
          have hne : cs ≠ [] := by intro e; subst e; simp at c3; omega
          refine ⟨.slice (some ⟨b, o, none⟩) n n, by simp [Instr.sliceAt, r_underlying w hu, r_size w hsz, Instr.sureAddr, Instr.sliceBounds, add_none], .pure _ _ ?_⟩
          have hlen : (chunks size n cs).length = n := chunks_length size n cs
          have hlt : ∀ i j, i < n → j < size → i * size + j < cs.length := fun i j hi hj => by
            have h1 : (i + 1) * size ≤ n * size := Nat.mul_le_mul_right _ hi
            rw [Nat.add_mul] at h1; omega
          have hq : ∀ i j, i < n → j < size → ((chunks size n cs).getD i []).getD j PV.dead = cs.getD (i * size + j) PV.dead := fun i j hi hj => chunks_cell PV.dead i j hi hj
          have := PRep.slice (w := w) (S := S) b o n size (chunks size n cs) (fun i j => f (i * size + j)) (hS hne) c1
            (fun r hr => by
              obtain ⟨i, hi, rfl⟩ := List.getElem_of_mem hr
              rw [hlen] at hi
              have := chunks_get size n cs i hi
              have hg : (chunks size n cs)[i]? = some (chunks size n cs)[i] := by simp
              rw [hg] at this
              simp only [Option.some.injEq] at this
              rw [this]
              have h1 : (i + 1) * size ≤ n * size := Nat.mul_le_mul_right _ hi
              rw [Nat.add_mul] at h1
              simp only [List.length_take, List.length_drop]; omega)
            (fun i j hi hj => hf _ (hlt i j (hlen ▸ hi) hj)) (fun i j hi hj => h1 _ (hlt i j (hlen ▸ hi) hj))
            (fun i j hi hj => by rw [hq i j (hlen ▸ hi) hj]; exact hr _ (hlt i j (hlen ▸ hi) hj)) (by rw [hlen]; exact Nat.le_refl _)
          rw [hlen] at this
          exact this
        · cases h
      · cases h
    · cases h
  · rename_i l
    obtain ⟨str, rfl, rfl⟩ := hx.str_inv
    split at h
    · rename_i a b h1 h2 hu
      split at h
      · rename_i hc
        simp only [Option.some.injEq] at h; subst h
        have hb := bounds_run (P := K.P) (is := false) (cap := str.size) hG hs h1 h2 hc.1 (by have := hc.2; simpa using this)
        have hsz : str.data.toList.length = str.size := by simp
        rw [hsz] at hb
        refine ⟨.string (str.extract a b), by simp [Instr.sliceAt, Instr.slice, r_underlying w hu, hb], .pure _ _ ?_⟩
        have := PRep.str (w := w) (S := S) (str.extract a b)
        have e : (str.extract a b).data.toList = (str.data.toList.take b).drop a := by simp [List.drop_take]
        rw [e] at this; exact this
      · cases h
    · cases h
  · rename_i nm es top l0 len
    split at h
    · rename_i a b e h1 h2 hte
      have hu := telem_some hte
      split at h
      · rename_i hc
        obtain ⟨c1, c2, c3⟩ := hc
        cases hx with
        | hdr nm es top lo0 len cap b0 n e0 hl hm hcl ht hsh hn =>
        have hbc : b ≤ cap := by omega
        have hb := bounds_run (P := K.P) (is := true) (cap := cap) hG hs h1 h2 c1 hbc
        refine ⟨.slice (if cap = a then some ⟨b0, l0 * es, none⟩ else (some ⟨b0, l0 * es, none⟩ : Option Addr).map (·.add (a * es))) (b - a) (cap - a),
          by simp [Instr.sliceAt, Instr.slice, r_underlying w hu, hb, r_size w c3], ?_⟩
        split at h
        · simp only [Option.some.injEq] at h; subst h
          rename_i hab; obtain ⟨rfl, _⟩ := hab
          rw [Nat.sub_self]; exact .pure _ _ (.slice0 _ _)
        · simp only [Option.some.injEq] at h; subst h
          rename_i hab
          have e : (if cap = a then some ⟨b0, l0 * es, none⟩ else (some ⟨b0, l0 * es, none⟩ : Option Addr).map (·.add (a * es))) = some ⟨b0, (l0 + a) * es, none⟩ := by
            by_cases hca : cap = a
            · have ha0 : a = 0 := by
                by_cases h0 : a = b
                · have : ¬ 0 < a := fun h => hab ⟨h0, h⟩
                  omega
                · omega
              rw [if_pos hca, ha0, Nat.add_zero]
            · rw [if_neg hca]
              simp [add_none, Nat.add_mul]
          rw [e]
          have := VRel.hdr (w := w) (S := S) (μ := μ) (ℓ := k) nm es top (l0 + a) (b - a) (cap - a) b0 n e0 hl hm (by omega) (by omega) hsh
            (by have : l0 + a + (cap - a) = l0 + cap := by omega
                rw [this]; exact hn)
          exact this
      · cases h
    · cases h
  · rename_i l
    split at h
    · rename_i a b e h1 h2 hte
      have hu := telem_some hte
      split at h
      · rename_i hc
        split at h
        · rename_i es hes
          split at h
          · rename_i hall
            simp only [Option.some.injEq] at h; subst h
            obtain ⟨base, cap, rfl, hcp⟩ := hx.pv.slice_inv
            have hb := bounds_run (P := K.P) (is := true) (cap := cap) hG hs h1 h2 hc.1 (Nat.le_trans hc.2 hcp)
            obtain ⟨_, q2⟩ := slice_pure_rel (a := a) (b := b) hx.pv hc.1 hc.2 hall
            exact ⟨_, by simp [Instr.sliceAt, Instr.slice, r_underlying w hu, hb, r_size w hes], .pure _ _ q2⟩
          · cases h
        · cases h
      · cases h
    · cases h
  · split at h
    · rename_i e h1 h2 hte
      have hu := telem_some hte
      split at h
      · rename_i hsz
        simp only [Option.some.injEq] at h; subst h
        cases hx with
        | nils base =>
        obtain ⟨es, hes⟩ := Option.isSome_iff_exists.1 hsz
        have hb := bounds_run (P := K.P) (is := true) (len := 0) (cap := 0) hG hs h1 h2 (Nat.le_refl _) (Nat.le_refl _)
        exact ⟨.slice base 0 0, by simp [Instr.sliceAt, Instr.slice, r_underlying w hu, hb, r_size w hes], .pure _ _ (.slice0 _ _)⟩
      · cases h
    · cases h
  · cases h
theorem len_sound (K : Ctx) (hH : HRel w S μ H) {k : Nat} {t ty : TypeId} {ats : Array TypeId} {va : Value} {x : GV} {n : Int} {args : Array Value} (hx : VRel w S μ k va x) (ht : ats[0]? = some t) (ha : args[0]? = some va)
  (h : glen K t H x = some n) : (Builtin.len_ ats ty args).run K.P w = .ok (.int .i64 n) w := by
 unfold glen at h
 split at h
 ·rename_i hu; simp only [Option.some.injEq] at h; subst h
  simp [Builtin.len_, ht, ha, r_underlying w hu, goInt]
 ·rename_i hu; simp only [Option.some.injEq] at h; subst h
  cases hx
  simp [Builtin.len_, ht, ha, r_underlying w hu, goInt]
 ·rename_i hu; simp only [Option.some.injEq] at h; subst h
  cases hx
  simp [Builtin.len_, ht, ha, r_underlying w hu, goInt]
 ·rename_i hu; simp only [Option.some.injEq] at h; subst h
  cases hx
  simp [Builtin.len_, ht, ha, r_underlying w hu, goInt]
 ·rename_i hu; simp only [Option.some.injEq] at h; subst h
  cases hx
  simp [Builtin.len_, ht, ha, r_underlying w hu, goInt]
 ·rename_i hu; simp only [Option.some.injEq] at h; subst h
  obtain ⟨base, cap, rfl, hcp⟩ := hx.pv.slice_inv
  simp [Builtin.len_, ht, ha, r_underlying w hu, goInt]
 ·rename_i hu; simp only [Option.some.injEq] at h; subst h
  obtain ⟨str, rfl, rfl⟩ := hx.str_inv
  simp [Builtin.len_, ht, ha, r_underlying w hu, goInt]
 ·rename_i hu; simp only [Option.some.injEq] at h; subst h
  have := hx.pv
  cases this
  simp [Builtin.len_, ht, ha, r_underlying w hu, goInt]
 ·rename_i nm hu
  split at h
  ·rename_i es hg
   simp only [Option.some.injEq] at h; subst h
   cases hx with
   | map nm b' hl hm =>
   obtain ⟨b, ms, clock, h1, h2, h3, h4, h5⟩ := hH.blk _ _ hg _ _ hm
   rw [hm] at h1; simp only [Option.some.injEq] at h1; subst h1
   have hgo : (getObj b').run K.P w = .ok (.map ms clock) w := by simp [getObj, Sem.run, h3]
   simp [Builtin.len_, ht, ha, r_underlying w hu, goInt, hgo, h4]
  ·cases h
 ·cases h
theorem minmax_sound {k : Nat} {mx : Bool} : ∀ (gs : List GV) (vs : List Value) (r : GV) , vs.length = gs.length → (∀ j, j < gs.length → VRel w S μ k (vs.getD j undef) (gs.getD j gdead)) → gminmax mx gs = some r →
  ∃ v0 rest kd n, vs = v0 :: rest ∧ r = .pure (.int kd n) ∧ (rest.foldlM (if mx then Builtin.max2 else Builtin.min2) v0).run P w = .ok (.int kd n) w
 | [], vs, r, _, _, h => by simp [gminmax] at h
 | [g], vs, r, hl, hr, h => by
  match vs, hl with
  | [v], _ =>
  have h0 := hr 0 (by simp)
  simp at h0
  unfold gminmax at h
  split at h
  ·rename_i heq; simp at heq
  ·rename_i kd a heq
   simp at heq; subst heq
   simp only [Option.some.injEq] at h; subst h
   obtain rfl := h0.int_inv
   exact ⟨_, _, _, _, rfl, rfl, by simp⟩
  ·rename_i heq; simp at heq
  ·cases h
 | g :: g' :: gs, vs, r, hl, hr, h => by
  match vs, hl with
  | v :: v' :: vs, hl =>
  have h0 := hr 0 (by simp)
  have h1 := hr 1 (by simp)
  simp at h0 h1
  unfold gminmax at h
  split at h
  ·rename_i heq; simp at heq
  ·rename_i heq; simp at heq
  ·rename_i kd a kd' b rest heq
   simp at heq
   obtain ⟨rfl, rfl, rfl⟩ := heq
   split at h
   ·rename_i hk; subst hk
    obtain rfl := h0.int_inv
    obtain rfl := h1.int_inv
    obtain ⟨v0, rest', kd', n', e1, e2, e3⟩ := minmax_sound (k := k) (mx := mx) _ (.int kd (if mx then (if a < b then b else a) else (if b < a then b else a)) :: vs) r (by simpa using hl)
     (fun j hj => by
      cases j with
      | zero => simp; exact .pure _ _ (.int _ _)
      | succ j => have := hr (j + 2) (by simpa using hj); simpa using this) h
    simp only [List.cons.injEq] at e1
    obtain ⟨rfl, rfl⟩ := e1
    refine ⟨_, _, kd', n', rfl, e2, ?_⟩
    rw [List.foldlM_cons]
    cases mx
    ·simp only [Bool.false_eq_true, if_false, Builtin.min2] at e3 ⊢
     simpa using e3
    ·simp only [if_true, Builtin.max2] at e3 ⊢
     simpa using e3
   ·cases h
  ·cases h
termination_by gs => gs.length
end
end
section
open Go.MapKept
section
variable {w : World} {S : Nat → Prop} {μ : Mu} {H : Heap} {P : Program} {ℓ : Nat}
theorem keyFits_is {kt : TypeId} {v : Value} {p : PV} (hv : PRep w S v p) (h : keyFits P kt p = true) : ∃ d, P.underlying kt = some d ∧ IsKey d v ∧ v = scalV p := by
 unfold keyFits at h
 split at h
 ·rename_i hu; cases hv; simp at h; exact ⟨_, hu, by simp [IsKey, h], rfl⟩
 ·rename_i hu; cases hv; exact ⟨_, hu, by simp [IsKey], by simp [scalV]⟩
 ·rename_i hu; cases hv; exact ⟨_, hu, by simp [IsKey], rfl⟩
 ·cases h
theorem rowEq_eq : ∀ {a b : List PV}, rowEq a b = some true → a = b
 | [], b, h => by cases b <;> simp_all [rowEq]
 | x :: a, b, h => by
  cases b with
  | nil => cases x <;> simp [rowEq] at h
  | cons y b =>
   cases x <;> cases y <;> simp only [rowEq] at h
   all_goals first | (cases h; done) | skip
   ·split at h
    ·rename_i hk; subst hk
     split at h
     ·rename_i q hq
      simp only [Option.some.injEq, Bool.and_eq_true, beq_iff_eq] at h
      obtain ⟨rfl, rfl⟩ := h
      rw [rowEq_eq hq]
     ·cases h
    ·cases h
   ·split at h
    ·rename_i q hq
     simp only [Option.some.injEq, Bool.and_eq_true, beq_iff_eq] at h
     obtain ⟨rfl, rfl⟩ := h
     rw [rowEq_eq hq]
    ·cases h
   ·split at h
    ·rename_i q hq
     simp only [Option.some.injEq, Bool.and_eq_true, beq_iff_eq] at h
     obtain ⟨rfl, rfl⟩ := h
     rw [rowEq_eq hq]
    ·cases h
theorem keyEq_eq {a b : PV} (h : keyEq a b = some true) : a = b := by
 unfold keyEq at h
 split at h
 ·simp_all
 ·simp_all
 ·simp_all
 ·rw [rowEq_eq h]
 ·cases h
theorem sameNow_of {d : TypeDesc} {v u : Value} {p q : PV} {r : Bool} (hv : PRep w S v p) (hu : PRep w S u q) (hd : IsKey d v) (h : keyEq p q = some r) : Instr.sameNow d v u = some r := by
 unfold keyEq at h
 split at h
 ·cases hv; cases hu
  split at h
  ·rename_i hk; subst hk
   cases d <;> simp [IsKey] at hd
   simp only [Option.some.injEq] at h; subst h
   simp [Instr.sameNow]
  ·cases h
 ·cases hv; cases hu
  cases d <;> simp [IsKey] at hd
  simp only [Option.some.injEq] at h; subst h
  rename_i s1 s2
  have : (s1 == s2) = (s1.data.toList == s2.data.toList) := by
   rw [Bool.eq_iff_iff, bytes_beq]
   simp
   constructor
   ·intro h; rw [h]
   ·intro h; cases s1; cases s2; simp_all
  simp [Instr.sameNow, this]
 ·cases hv; cases hu
  cases d <;> simp [IsKey] at hd
  simp only [Option.some.injEq] at h; subst h
  simp [Instr.sameNow]
 ·cases hv
  cases d <;> simp [IsKey] at hd
 ·cases h
theorem keyEq_scal {d : TypeDesc} {v : Value} {p q : PV} {r : Bool} (hv : PRep w S v p) (hd : IsKey d v) (h : keyEq p q = some r) : (∃ k n, p = .int k n) ∨ (∃ b, p = .bool b) ∨ ∃ l, p = .str l := by
 unfold keyEq at h
 split at h
 ·exact .inl ⟨_, _, rfl⟩
 ·exact .inr (.inr ⟨_, rfl⟩)
 ·exact .inr (.inl ⟨_, rfl⟩)
 ·cases hv
  cases d <;> simp [IsKey] at hd
 ·cases h
def EntRel (w : World) (S : Nat → Prop) (μ : Mu) (k : Nat) (m : MapEntry) (e : PV × GV) : Prop := PRep w S m.key e.1 ∧ VRel w S μ k m.val e.2
theorem find_run {d : TypeDesc} {v : Value} {p : PV} {k : Nat} (hv : PRep w S v p) (hd : IsKey d v) : ∀ (ms : List MapEntry) (es : List (PV × GV)) (i : Nat) (r : Option (Nat × GV)), ms.length = es.length →
  (∀ (j : Nat) (m : MapEntry) (e : PV × GV), ms[j]? = some m → es[j]? = some e → EntRel w S μ k m e) → findEntry p es i = some r →
  ∃ r', Instr.findNow d v ms i = some r' ∧ (match r, r' with
   | none, none => True
   | some (n, g), some (n', u) => n = n' ∧ VRel w S μ k u g ∧ i ≤ n ∧ ∃ m, ms[n - i]? = some m ∧ m.key = v
   | _, _ => False)
 | [], es, i, r, hl, _, h => by
  have : es = [] := List.eq_nil_of_length_eq_zero (by simpa using hl.symm)
  subst this
  simp only [findEntry, Option.some.injEq] at h; subst h
  exact ⟨none, rfl, trivial⟩
 | m :: ms, es, i, r, hl, hr, h => by
  cases es with
  | nil => simp at hl
  | cons e es =>
  obtain ⟨q, g⟩ := e
  obtain ⟨h1, h2⟩ := hr 0 m (q, g) (by simp) (by simp)
  simp only [findEntry] at h
  split at h
  ·rename_i hq
   simp only [Option.some.injEq] at h; subst h
   refine ⟨some (i, m.val), by simp [Instr.findNow, sameNow_of hv h1 hd hq], rfl, h2, Nat.le_refl _, m, by simp, ?_⟩
   have hsc := keyEq_scal hv hd hq
   have e := keyEq_eq hq
   subst e
   rw [scalV_of hv hsc]; exact scalV_of h1 hsc
  ·rename_i hq
   obtain ⟨r', a1, a2⟩ := find_run hv hd ms es (i + 1) r (by simpa using hl) (fun j m' e' a b => hr (j + 1) m' e' (by simpa using a) (by simpa using b)) h
   refine ⟨r', by simp [Instr.findNow, sameNow_of hv h1 hd hq, a1], ?_⟩
   match r, r', a2 with
   | none, none, _ => trivial
   | some (n, g), some (n', u), a2 =>
    obtain ⟨b1, b2, b3, m', b4, b5⟩ := a2
    refine ⟨b1, b2, by omega, m', ?_, b5⟩
    have : n - i = (n - (i + 1)) + 1 := by omega
    rw [this]; simpa using b4
  ·cases h
theorem rowEq_fits : ∀ {ks : List SK} {a b : List PV} {q : Bool}, fitsRow ks a = true → rowEq a b = some q → eqRow ks a b = some q
 | [], a, b, q, hf, h => by cases a <;> simp [fitsRow] at hf; cases b <;> simp_all [rowEq, eqRow]
 | s :: ks, [], b, q, hf, h => by cases s <;> simp [fitsRow] at hf
 | s :: ks, x :: a, [], q, hf, h => by cases x <;> simp [rowEq] at h
 | s :: ks, x :: a, y :: b, q, hf, h => by
  cases s <;> cases x <;> simp only [fitsRow, Bool.false_eq_true] at hf
  all_goals cases y <;> simp only [rowEq] at h
  all_goals first | (cases h; done) | skip
  ·simp only [Bool.and_eq_true, decide_eq_true_eq] at hf
   obtain ⟨rfl, hf⟩ := hf
   split at h
   ·rename_i hk; subst hk
    split at h
    ·rename_i q' hq
     simp only [eqRow, and_self, if_true, rowEq_fits hf hq]; exact h
    ·cases h
   ·cases h
  ·split at h
   ·rename_i q' hq
    simp only [eqRow, rowEq_fits hf hq]; exact h
   ·cases h
  ·split at h
   ·rename_i q' hq
    simp only [eqRow, rowEq_fits hf hq]; exact h
   ·cases h
theorem rowEq_self : ∀ {ks : List SK} {a : List PV}, fitsRow ks a = true → rowEq a a = some true
 | [], a, hf => by cases a <;> simp_all [fitsRow, rowEq]
 | s :: ks, [], hf => by cases s <;> simp [fitsRow] at hf
 | s :: ks, x :: a, hf => by
  cases s <;> cases x <;> simp only [fitsRow, Bool.false_eq_true] at hf
  ·simp only [Bool.and_eq_true] at hf
   simp [rowEq, rowEq_self hf.2]
  ·simp [rowEq, rowEq_self hf]
  ·simp [rowEq, rowEq_self hf]
theorem PRep.row_inv {v : Value} {a : List PV} (h : PRep w S v (.agg a)) (hp : ∀ p ∈ a, (∃ k n, p = .int k n) ∨ (∃ b, p = .bool b) ∨ ∃ l, p = .str l) : v = .agg (a.map scalV).toArray := by
 have h0 : VRel w S (fun _ _ => none) 0 v (.pure (.agg a)) := .pure _ _ h
 obtain ⟨vs, rfl, hc⟩ := h0.agg_inv
 have := scal_cells hc hp
 rw [← this]
theorem sameBits_self (a : List PV) (n : Nat) (hp : ∀ p ∈ a, (∃ k n, p = .int k n) ∨ (∃ b, p = .bool b) ∨ ∃ l, p = .str l) : Instr.sameBits (n + 1) (.agg (a.map scalV).toArray) (.agg (a.map scalV).toArray) = true := by
 have h1 : ∀ p ∈ a, Instr.sameBits n (scalV p) (scalV p) = true := fun p hp' => by
  rcases hp p hp' with ⟨k, m, rfl⟩ | ⟨b, rfl⟩ | ⟨l, rfl⟩
  ·cases n <;> simp [scalV, Instr.sameBits]
  ·cases n <;> simp [scalV, Instr.sameBits]
  ·have : ((⟨l.toArray⟩ : ByteArray) == ⟨l.toArray⟩) = true := by rw [bytes_beq]
   cases n <;> simp [scalV, Instr.sameBits, this]
 simp only [Instr.sameBits, beq_self_eq_true, Bool.true_and, List.all_eq_true]
 intro x hx
 have : ∀ (l : List PV), (∀ p ∈ l, Instr.sameBits n (scalV p) (scalV p) = true) → ∀ x ∈ (l.map scalV).zip (l.map scalV), Instr.sameBits n x.1 x.2 = true := by
  intro l
  induction l with
  | nil => intro _ x hx; simp at hx
  | cons p l ih =>
   intro hl x hx
   simp only [List.map_cons, List.zip_cons_cons, List.mem_cons] at hx
   rcases hx with rfl | hx
   ·exact hl p (by simp)
   ·exact ih (fun q hq => hl q (by simp [hq])) x hx
 exact this a h1 x (by simpa using hx)
theorem key_run (K : Ctx) (hK : CtxOk K) {kt : TypeId} {v : Value} {p : PV} {k : Nat} (hv : PRep w S v p) (h : keyFitsK K kt p = true) :
    (∀ em, (Instr.checkKey em 10000 kt v).run K.P w = .ok () w) ∧
    (∀ (ms : List MapEntry) (es : List (PV × GV)) (r : Option (Nat × GV)), ms.length = es.length → (∀ (j : Nat) (m : MapEntry) (e : PV × GV), ms[j]? = some m → es[j]? = some e → EntRel w S μ k m e) → findEntry p es 0 = some r →
      ∃ r', (Instr.findKey kt v ms).run K.P w = .ok r' w ∧ (match r, r' with
        | none, none => True
        | some (n, g), some (n', u) => n = n' ∧ VRel w S μ k u g ∧ ∃ m, ms[n]? = some m ∧ m.key = v
        | _, _ => False)) ∧
    (Instr.keyThatStays v v).run K.P w = .ok v w := by
  unfold keyFitsK at h
  simp only [Bool.or_eq_true] at h
  rcases h with h | h
  · obtain ⟨d, d1, d2, d3⟩ := keyFits_is hv h
    refine ⟨fun em => run_checkKey d1 d2 em 9999, fun ms es r hl hr hf => ?_, by simpa using run_keyThatStays d2⟩
    obtain ⟨r', f1, f2⟩ := find_run hv d2 ms es 0 r hl hr hf
    refine ⟨r', run_findKey (w := w) d1 f1, ?_⟩
    match r, r', f2 with
    | none, none, _ => trivial
    | some (n, g), some (n', u), f2 =>
      obtain ⟨b1, b2, _, m, b4, b5⟩ := f2
      exact ⟨b1, b2, m, by simpa using b4, b5⟩
  · split at h
    · rename_i ks a d0 hks hund
      obtain ⟨e1, e2⟩ := hK.eqs kt ks hks
      have hself := rowEq_fits h (rowEq_self h)
      have hsc := (eqRow_scal ks a a true hself).1
      have hva := hv.row_inv hsc
      subst hva
      refine ⟨fun em => (e2 a a true hself w).2 em, ?_, ?_⟩
      · have ask : ∀ (ms : List MapEntry) (es : List (PV × GV)) (i : Nat) (r : Option (Nat × GV)), ms.length = es.length → (∀ (j : Nat) (m : MapEntry) (e : PV × GV), ms[j]? = some m → es[j]? = some e → EntRel w S μ k m e) →
            findEntry (.agg a) es i = some r → ∃ r', (Instr.findAsking kt (.agg (a.map scalV).toArray) ms i).run K.P w = .ok r' w ∧ (match r, r' with
              | none, none => True
              | some (n, g), some (n', u) => n = n' ∧ VRel w S μ k u g ∧ i ≤ n ∧ ∃ m, ms[n - i]? = some m ∧ m.key = .agg (a.map scalV).toArray
              | _, _ => False) := by
          intro ms
          induction ms with
          | nil =>
            intro es i r hl hr hf
            have : es = [] := List.eq_nil_of_length_eq_zero (by simpa using hl.symm)
            subst this
            simp only [findEntry, Option.some.injEq] at hf; subst hf
            exact ⟨none, by simp [Instr.findAsking], trivial⟩
          | cons m ms ih =>
            intro es i r hl hr hf
            cases es with
            | nil => simp at hl
            | cons e es =>
            obtain ⟨q, g⟩ := e
            obtain ⟨h1, h2⟩ := hr 0 m (q, g) (by simp) (by simp)
            simp only [findEntry] at hf
            have heq : ∀ bq, keyEq (.agg a) q = some bq → (Op.equal kt (.agg (a.map scalV).toArray) m.key).run K.P w = .ok bq w := fun bq hq => by
              cases q <;> simp only [keyEq] at hq
              all_goals first | (cases hq; done) | skip
              rename_i b
              have hr := rowEq_fits h hq
              have hb := (eqRow_scal ks a b bq hr).2
              rw [h1.row_inv hb]
              exact (e2 a b bq hr w).1
            split at hf
            · rename_i hq
              simp only [Option.some.injEq] at hf; subst hf
              refine ⟨some (i, m.val), by simp [Instr.findAsking, heq true hq], rfl, h2, Nat.le_refl _, m, by simp, ?_⟩
              cases q <;> simp only [keyEq] at hq
              all_goals first | (cases hq; done) | skip
              rename_i b
              obtain rfl := rowEq_eq hq
              exact PRep.row_inv h1 hsc
            · rename_i hq
              obtain ⟨r', a1, a2⟩ := ih es (i + 1) r (by simpa using hl) (fun j m' e' a b => hr (j + 1) m' e' (by simpa using a) (by simpa using b)) hf
              refine ⟨r', by simp [Instr.findAsking, heq false hq, a1], ?_⟩
              match r, r', a2 with
              | none, none, _ => trivial
              | some (n, g), some (n', u), a2 =>
                obtain ⟨b1, b2, b3, m', b4, b5⟩ := a2
                refine ⟨b1, b2, by omega, m', ?_, b5⟩
                have : n - i = (n - (i + 1)) + 1 := by omega
                rw [this]; simpa using b4
            · cases hf
        intro ms es r hl hr hf
        have hkey : (Instr.findKey kt (.agg (a.map scalV).toArray) ms).run K.P w = (match ms with | [] => .ok none w | ms => (Instr.findAsking kt (.agg (a.map scalV).toArray) ms).run K.P w) := by
          unfold Instr.findKey
          have hd : (underlying kt).run K.P w = .ok d0 w := r_underlying w hund
          cases ms with
          | nil => simp [hd, Instr.findNow]
          | cons m ms =>
            have : Instr.sameNow d0 (.agg (a.map scalV).toArray) m.key = none := by cases d0 <;> rfl
            simp [hd, Instr.findNow, this]
        cases ms with
        | nil =>
          have : es = [] := List.eq_nil_of_length_eq_zero (by simpa using hl.symm)
          subst this
          simp only [findEntry, Option.some.injEq] at hf; subst hf
          exact ⟨none, hkey, trivial⟩
        | cons m ms =>
          obtain ⟨r', a1, a2⟩ := ask (m :: ms) es 0 r hl hr hf
          refine ⟨r', hkey.trans a1, ?_⟩
          match r, r', a2 with
          | none, none, _ => trivial
          | some (n, g), some (n', u), a2 =>
            obtain ⟨b1, b2, _, m', b4, b5⟩ := a2
            exact ⟨b1, b2, m', by simpa using b4, b5⟩
      · have := sameBits_self a 9999 hsc
        unfold Instr.keyThatStays
        rw [this]
        rfl
    · cases h
theorem tmap_some {t kt e : TypeId} (h : tmap P t = some (kt, e)) : P.underlying t = some (.map kt e) := by
 unfold tmap at h
 split at h
 ·rename_i hu; simp at h; obtain ⟨rfl, rfl⟩ := h; exact hu
 ·cases h
theorem mapOf_run (hH : HRel w S μ H) {k : Nat} {v : Value} {x : GV} {es : List (PV × GV)} (hx : VRel w S μ k v x) (h : mapOf H x = some es) :
  ∃ ms : Array MapEntry, ((v = .map none ∧ ms = #[]) ∨ ∃ b clock, v = .map (some b) ∧ w.heap[b]? = some (.map ms clock)) ∧ ms.toList.length = es.length ∧
   ∀ (j : Nat) (m : MapEntry) (e : PV × GV), ms.toList[j]? = some m → es[j]? = some e → EntRel w S μ k m e := by
 unfold mapOf at h
 split at h
 ·simp only [Option.some.injEq] at h; subst h
  have := hx.pv
  cases this
  exact ⟨#[], .inl ⟨rfl, rfl⟩, rfl, fun j m e h => by simp at h⟩
 ·rename_i f
  split at h
  ·rename_i l hq
   simp only [Option.some.injEq] at h; subst h
   have := hx.pv
   cases this with
   | fmap _ b clock ms l' h1 h2 h3 h4 =>
   rw [hq] at h2; simp only [Option.some.injEq] at h2; subst h2
   refine ⟨ms, .inr ⟨b, clock, rfl, h3⟩, by simpa using h4.1, fun j m e a b => ?_⟩
   rw [List.getElem?_map] at b
   have hj : j < l.length := by rcases Nat.lt_or_ge j l.length with h | h; exact h; rw [List.getElem?_eq_none h] at b; cases b
   rw [List.getElem?_eq_getElem hj] at b
   simp only [Option.map_some, Option.some.injEq] at b; subst b
   obtain ⟨m', m1, m2, m3⟩ := h4.2 j hj
   have : ms[j]? = some m := by simpa using a
   rw [m1] at this; simp only [Option.some.injEq] at this; subst this
   refine ⟨?_, by rw [m2]; exact .pure _ _ (.fn _)⟩
   cases hk : l[j].1 with
   | int k n => rw [hk] at m3; simp only at m3; rw [m3]; exact .int k n
   | str s => rw [hk] at m3; obtain ⟨q, q1, q2⟩ := m3; show PRep w S m'.key (.str s); rw [q1, ← q2]; exact .str q
  ·cases h
 ·rename_i nm
  split at h
  ·rename_i es' hg
   simp only [Option.some.injEq] at h; subst h
   cases hx with
   | map nm b' hl hm =>
   obtain ⟨b, ms, clock, h1, h2, h3, h4, h5⟩ := hH.blk _ _ hg _ _ hm
   rw [hm] at h1; simp only [Option.some.injEq] at h1; subst h1
   refine ⟨ms, .inr ⟨b', clock, rfl, h3⟩, by simpa using h4, fun j m e a b => ?_⟩
   have hj : j < es'.length := by rcases Nat.lt_or_ge j es'.length with h | h; exact h; rw [List.getElem?_eq_none h] at b; cases b
   obtain ⟨m', m1, m2, m3⟩ := h5 j hj
   rw [List.getElem?_eq_getElem hj] at b
   simp only [Option.some.injEq] at b; subst b
   have : ms[j]? = some m := by simpa using a
   rw [this] at m1; simp only [Option.some.injEq] at m1; subst m1
   exact ⟨m2, m3.up hl⟩
  ·cases h
 ·cases h
theorem lookup_run {t kt e : TypeId} {vx vk : Value} {ok : Bool} {ms : Array MapEntry} {r : Option (Nat × Value)} {z : Value} (hu : P.underlying t = some (.map kt e))
  (hv : (vx = .map none ∧ ms = #[]) ∨ ∃ b clock, vx = .map (some b) ∧ w.heap[b]? = some (.map ms clock)) (hck : ∀ em, (Instr.checkKey em 10000 kt vk).run P w = .ok () w)
  (hf : (Instr.findKey kt vk ms.toList).run P w = .ok r w) (hz : r = none → (zeroValue e).run P w = .ok z w) :
  (Instr.lookup t vx vk ok).run P w = .ok (if ok then .tuple #[(match r with | some (_, v) => v | none => z), .bool r.isSome] else (match r with | some (_, v) => v | none => z)) w := by
 rcases hv with ⟨rfl, rfl⟩ | ⟨b, clock, rfl, hb⟩
 ·cases r with
  | none => have := hz rfl; cases ok <;> simp at hf <;> simp [Instr.lookup, r_underlying w hu, hck, hf, this]
  | some x => cases ok <;> simp at hf <;> simp [Instr.lookup, r_underlying w hu, hck, hf]
 ·have hg := Go.MapKept.run_getObj_map (P := P) hb
  cases r with
  | none => have := hz rfl; cases ok <;> simp [Instr.lookup, r_underlying w hu, hg, hck, hf, this]
  | some x => cases ok <;> simp [Instr.lookup, r_underlying w hu, hg, hck, hf]
theorem pair_rel {k : Nat} {v : Value} {g : GV} (h : VRel w S μ k v g) (b : Bool) : VRel w S μ k (.tuple #[v, .bool b]) (mkTuple [g, .pure (.bool b)]) :=
 mkTuple_rel (by simp) fun j hj => by
  simp at hj
  match j, hj with
  | 0, _ => simpa using h
  | 1, _ => simpa using VRel.pure _ _ (.bool b)
theorem lookup_sound (K : Ctx) (hK : CtxOk K) (hH : HRel w S μ H) {k : Nat} {t : TypeId} {vx vk : Value} {x y r : GV} {ok : Bool} (hx : VRel w S μ k vx x) (hy : VRel w S μ k vk y)
  (h : glookup K t H x y ok = some r) : ∃ u, (Instr.lookup t vx vk ok).run K.P w = .ok u w ∧ VRel w S μ k u r := by
 unfold glookup at h
 split at h
 ·rename_i kt e p es ht hes
  have hu := tmap_some ht
  split at h
  ·cases h
  ·rename_i hf
   obtain ⟨hck, hfind, _⟩ := key_run (μ := μ) (k := k) K hK hy.pv (by simpa using hf)
   obtain ⟨ms, m1, m2, m3⟩ := mapOf_run hH hx hes
   split at h
   ·rename_i i g hfe
    obtain ⟨r', hfk, f2⟩ := hfind _ _ _ m2 m3 hfe
    match r', f2 with
    | some (n', u), f2 =>
    obtain ⟨_, f3, _⟩ := f2
    simp only [Option.some.injEq] at h; subst h
    refine ⟨_, lookup_run (z := undef) hu m1 hck hfk (by simp), ?_⟩
    cases ok with
    | true => simpa using pair_rel f3 true
    | false => simpa using f3
   ·rename_i hfe
    obtain ⟨r', hfk, f2⟩ := hfind _ _ _ m2 m3 hfe
    match r', f2 with
    | none, _ =>
    split at h
    ·rename_i z hz
     simp only [Option.some.injEq] at h; subst h
     obtain ⟨v, z1, rfl⟩ := r_zero (P := K.P) w hz
     have hv : VRel w S μ k v (ofConst v) := ofConst_rel v
     refine ⟨_, lookup_run hu m1 hck hfk (fun _ => z1), ?_⟩
     cases ok with
     | true => simpa using pair_rel hv false
     | false => simpa using hv
    ·cases h
   ·cases h
 ·cases h
theorem HRel.mapTurn (hH : HRel w S μ H) {nm : Nm} {es es' : List (PV × GV)} {b : Nat} {ms ms' : Array MapEntry} {clock clock' : Nat} (hg : H.get nm = some (.map es)) (hm : μ nm 0 = some b) (hS : ¬ S b)
  (hb : w.heap[b]? = some (.map ms clock)) (hs : ms'.size = es'.length)
  (hr : ∀ (j : Nat) (m : MapEntry) (e : PV × GV), ms'[j]? = some m → es'[j]? = some e → EntRel w S μ nm.1 m e) :
  HRel { w with heap := w.heap.setIfInBounds b (.map ms' clock') } S μ (H.set nm (.map es')) ∧ Ev ℓ w S μ { w with heap := w.heap.setIfInBounds b (.map ms' clock') } S μ := by
 obtain ⟨e1, e2⟩ := heap_set (o' := .map ms' clock') hb
 have hne : ∀ b', S b' → b' ≠ b := fun b' h e => hS (e ▸ h)
 have hshp : ∀ b' y, w.shape? b' = some y → (({ w with heap := w.heap.setIfInBounds b (.map ms' clock') } : World)).shape? b' = some y := fun b' y h => by
  unfold World.shape? at h ⊢
  by_cases e : b' = b
  ·subst e; rw [hb] at h; simp at h
  ·show (match (w.heap.setIfInBounds b (.map ms' clock'))[b']? with | _ => _) = _
   simp only [e2 b' e]; exact h
 refine hH.turn ℓ (Heap.get_lt hg) rfl rfl rfl (by simp) (fun _ h => h) (fun b h => .inl h) (fun b' h => by simpa using hH.slt b' h) (fun k hk ho => ?_) hshp (fun b' r h => ?_)
  (fun n t _ => rfl) (fun t b h => h) (fun t b h => .inl ⟨t, h⟩) (fun t b' h => by simpa using hH.lt _ _ _ h) ⟨b, ms', clock', hm, hS, e1, hs, fun j hj => ?_⟩
 ·refine e2 k fun e => ?_
  subst e
  rcases ho with ho | ho
  ·exact hS ho
  ·exact ho 0 hm
 ·by_cases e : b' = b
  ·subst e; rw [hb] at h; cases h
  ·exact ⟨r, by show (w.heap.setIfInBounds b _)[b']? = _; rw [e2 b' e]; exact h⟩
 ·have hj' : j < ms'.size := by omega
  obtain ⟨q1, q2⟩ := hr j ms'[j] es'[j] (by simp [hj']) (by simp [hj])
  refine ⟨ms'[j], by simp [hj'], q1.mono (fun _ h => h) fun b' h => e2 b' (hne b' h), q2.mono (fun _ h => h) (fun b' h => e2 b' (hne b' h)) hshp (fun _ _ _ _ h => h) (Nat.le_refl _)⟩
theorem lowerVal_rel (ℓ : Nat) (hH : HRel w S μ H) {k l0 : Nat} {v : Value} {g g' : GV} {H1 : Heap} (hv : VRel w S μ k v g) (h : lowerVal H l0 g = some (g', H1)) :
  ∃ S', HRel w S' μ H1 ∧ Ev ℓ w S μ w S' μ ∧ VRel w S' μ l0 v g' ∧ SameBox H H1 := by
 unfold lowerVal at h
 split at h
 ·rename_i l
  obtain ⟨vs, rfl, hc⟩ := hv.cells
  simp only [Option.some.injEq, Prod.mk.injEq] at h
  obtain ⟨rfl, rfl⟩ := h
  obtain ⟨S', a1, a2, a3, a4⟩ := lowerCells_rel ℓ l0 hH hc
  exact ⟨S', a1, a2, mkAgg_rel' a3, a4⟩
 ·cases h
 ·cases h
 ·simp only [Option.some.injEq, Prod.mk.injEq] at h
  obtain ⟨rfl, rfl⟩ := h
  exact lowerCell_rel ℓ hH l0 hv
theorem mapUpdate_sound (K : Ctx) (hK : CtxOk K) (hH : HRel w S μ H) {k : Nat} {t : TypeId} {vm vk vv : Value} {m y v : GV} {H' : Heap} (hm : VRel w S μ k vm m) (hy : VRel w S μ k vk y) (hv : VRel w S μ k vv v)
  (h : gmapUpdate K t H m y v = some H') :
  OpOk ℓ w S μ H ((do Instr.mapUpdate t vm vk vv; pure Next.skip : Sem Next).run K.P w) gdead H' := by
 unfold gmapUpdate at h
 split at h
 ·rename_i kt e nm p ht
  have hu := tmap_some ht
  split at h
  ·rename_i v' H1 hlow
   obtain ⟨S1, a1, a2, a3, a4⟩ := lowerVal_rel ℓ hH hv hlow
   split at h
   ·rename_i es hg
    cases hm with
    | map nm b' hl hmm =>
    obtain ⟨b, ms, clock, h1, h2, h3, h4, h5⟩ := a1.blk _ _ hg _ _ hmm
    have hent : ∀ (j : Nat) (m : MapEntry) (e : PV × GV), ms.toList[j]? = some m → es[j]? = some e → EntRel w S1 μ nm.1 m e := fun j m e a b => by
     have hj : j < es.length := by rcases Nat.lt_or_ge j es.length with h | h; exact h; rw [List.getElem?_eq_none h] at b; cases b
     obtain ⟨m', m1, m2, m3⟩ := h5 j hj
     rw [List.getElem?_eq_getElem hj] at b
     simp only [Option.some.injEq] at b; subst b
     have : ms[j]? = some m := by simpa using a
     rw [this] at m1; simp only [Option.some.injEq] at m1; subst m1
     exact ⟨m2, m3⟩
    rw [hmm] at h1; simp only [Option.some.injEq] at h1; subst h1
    have hy1 : PRep w S1 vk p := hy.pv.mono a2.sub (fun _ _ => rfl)
    have hgo := Go.MapKept.run_getObj_map (P := K.P) h3
    split at h
    ·cases h
    ·rename_i hf
     obtain ⟨hck, hfind, hstay⟩ := key_run (μ := μ) (k := nm.1) K hK hy1 (by simpa using hf)
     split at h
     ·rename_i i g hfe
      simp only [Option.some.injEq] at h; subst h
      obtain ⟨r', f1, f2⟩ := hfind _ _ _ (by simpa using h4) hent hfe
      match r', f1, f2 with
      | some (n', u), hfk, f2 =>
      obtain ⟨f0, f3, m, f5, f6⟩ := f2
      subst f0
      have hmi : ms[i]? = some m := by simpa using f5
      obtain ⟨q1, q2⟩ := HRel.mapTurn (ℓ := ℓ) a1 hg hmm h2 h3 (ms' := ms.modify i fun e => { e with key := vk, val := vv }) (es' := es.set i (p, v')) (clock' := clock) (by simpa using h4)
       (fun j m e a b => by
        rw [Array.getElem?_modify] at a
        rw [List.getElem?_set] at b
        by_cases hij : i = j
        ·subst hij
         rw [if_pos rfl] at a b
         rw [hmi] at a
         simp only [Option.map_some, Option.some.injEq] at a; subst a
         split at b
         ·simp only [Option.some.injEq] at b; subst b
          exact ⟨hy1, a3⟩
         ·cases b
        ·rw [if_neg hij] at a b
         exact hent j m e (by simpa using a) b)
      refine ⟨.skip, undef, _, S1, μ, ?_, .inr ⟨rfl, rfl⟩, vdead _, q1, a2.trans q2, by rw [Heap.length_set]; exact a4.1⟩
      simp [Instr.mapUpdate, r_underlying w hu, hgo, hck, hfk, hmi, f6, hstay, run_setObj_map _ h3]
     ·rename_i hfe
      simp only [Option.some.injEq] at h; subst h
      obtain ⟨r', f1, f2⟩ := hfind _ _ _ (by simpa using h4) hent hfe
      match r', f1, f2 with
      | none, hfk, f2 =>
      obtain ⟨q1, q2⟩ := HRel.mapTurn (ℓ := ℓ) a1 hg hmm h2 h3 (ms' := ms.push { key := vk, val := vv, born := clock }) (es' := es ++ [(p, v')]) (clock' := clock + 1) (by simp [h4])
       (fun j m e a b => by
        rw [Array.getElem?_push] at a
        split at a
        ·rename_i hj
         simp only [Option.some.injEq] at a; subst a
         rw [hj, h4] at b
         simp at b; subst b
         exact ⟨hy1, a3⟩
        ·rename_i hj
         have hlt : j < ms.size := by rcases Nat.lt_or_ge j ms.size with h | h; exact h; rw [Array.getElem?_eq_none h] at a; cases a
         rw [List.getElem?_append_left (by omega)] at b
         exact hent j m e (by simpa using a) b)
      refine ⟨.skip, undef, _, S1, μ, ?_, .inr ⟨rfl, rfl⟩, vdead _, q1, a2.trans q2, by rw [Heap.length_set]; exact a4.1⟩
      simp [Instr.mapUpdate, r_underlying w hu, hgo, hck, hfk, run_setObj_map _ h3]
     ·cases h
   ·cases h
  ·cases h
 ·cases h
end
end
section
section
variable {w w' : World} {S : Nat → Prop} {μ : Mu} {H : Heap} {P : Program} {ℓ : Nat}
theorem rix_inj {i j : Nat} (h : rix i = rix j) : i = j := by unfold rix at h; omega
theorem rix_ge (i : Nat) : rix 0 ≤ rix i := by unfold rix; omega
theorem MatRel.void {nm : Nm} {es : Nat} (hpos : 0 < es) (hno : ∀ t b, μ nm t ≠ some b) : MatRel w S μ nm es [] 0 where
 pos := hpos
 le := Nat.zero_le _
 lim := by unfold rix; omega
 wid := by simp
 row := fun i hi => by simp at hi
 inj := fun i j b h => absurd h (hno _ _)
 bnd := fun i b h => absurd h (hno _ _)
 top := fun t b _ h => absurd h (hno _ _)
theorem MatRel.push {nm : Nm} {es n b : Nat} {rows : List (List (List PV))} {r : List (List PV)} (m : MatRel w S μ nm es rows n) (hno : ∀ t, μ nm t ≠ some b) (hr : RowRel w S b es r) (hw : ∀ x ∈ r, x.length = es) :
  MatRel w S (μ.upd nm (rix rows.length) b) nm es (rows ++ [r]) n where
 pos := m.pos
 le := by have := m.le; simp; omega
 lim := m.lim
 wid := fun x hx => by
  rcases List.mem_append.1 hx with hx | hx
  ·exact m.wid x hx
  ·simp at hx; subst hx; exact hw
 row := fun i hi => by
  by_cases e : i = rows.length
  ·subst e
   exact ⟨b, Mu.upd_self _ _ _ _, by simpa [List.getD_eq_getElem?_getD] using hr⟩
  ·have hi' : i < rows.length := by simp at hi; omega
   obtain ⟨b', h1, h2⟩ := m.row i hi'
   refine ⟨b', by rw [Mu.upd_top _ _ _ (fun e2 => e (rix_inj e2))]; exact h1, ?_⟩
   have e3 : (rows ++ [r]).getD i [] = rows.getD i [] := by simp [List.getD_eq_getElem?_getD, List.getElem?_append_left hi']
   rw [e3]; exact h2
 inj := fun i j b' h1 h2 => by
  by_cases e : i = rows.length
  ·by_cases e' : j = rows.length
   ·rw [e, e']
   ·subst e
    rw [Mu.upd_self] at h1; cases h1
    rw [Mu.upd_top _ _ _ (fun e2 => e' (rix_inj e2))] at h2
    exact absurd h2 (hno _)
  ·rw [Mu.upd_top _ _ _ (fun e2 => e (rix_inj e2))] at h1
   by_cases e' : j = rows.length
   ·subst e'
    rw [Mu.upd_self] at h2; cases h2
    exact absurd h1 (hno _)
   ·rw [Mu.upd_top _ _ _ (fun e2 => e' (rix_inj e2))] at h2
    exact m.inj i j b' h1 h2
 bnd := fun i b' h1 => by
  by_cases e : i = rows.length
  ·subst e; simp
  ·rw [Mu.upd_top _ _ _ (fun e2 => e (rix_inj e2))] at h1
   have := m.bnd i b' h1; simp; omega
 top := fun t b' ht h1 => by
  have hne : t ≠ rix rows.length := by have := rix_ge rows.length; omega
  rw [Mu.upd_top _ _ _ hne] at h1
  obtain ⟨g1, g2, g3, g4, g5⟩ := m.top t b' ht h1
  have hml := m.le
  refine ⟨g1, g2, g3, fun i => ?_, fun i hi => ?_⟩
  ·by_cases e : i = rows.length
   ·subst e
    rw [Mu.upd_self]; intro e2; cases e2; exact hno t h1
   ·rw [Mu.upd_top _ _ _ (fun e2 => e (rix_inj e2))]; exact g4 i
  ·obtain ⟨bi, cap, k1, k2, k3⟩ := g5 i hi
   have hi' : i < rows.length := by omega
   have e3 : (rows ++ [r]).getD i [] = rows.getD i [] := by simp [List.getD_eq_getElem?_getD, List.getElem?_append_left hi']
   refine ⟨bi, cap, by rw [e3]; exact k1, by rw [Mu.upd_top _ _ _ (fun e2 => by have := rix_inj e2; omega)]; exact k2, by rw [e3]; exact k3⟩
theorem MatRel.tell {nm : Nm} {es n b : Nat} {rows : List (List (List PV))} (m : MatRel w S μ nm es rows n) (hn : n < rows.length) (hlim : n + 1 < rix 0) (hcells : ∃ c e, w.heap[b]? = some (.cells c e (0, 0))) (hS : ¬ S b) (hno : ∀ i, μ nm (rix i) ≠ some b)
  (hb : ∀ i, i < n + 1 → ∃ bi cap, w.cell? ⟨b, i, none⟩ = some (.slice (some ⟨bi, 0, none⟩) (rows.getD i []).length cap) ∧ μ nm (rix i) = some bi ∧ (rows.getD i []).length ≤ cap) :
  MatRel w S (μ.upd nm (n + 1) b) nm es rows (n + 1) := by
 have hrx : ∀ i, μ.upd nm (n + 1) b nm (rix i) = μ nm (rix i) := fun i => Mu.upd_top _ _ _ (by have := rix_ge i; omega)
 exact {
  pos := m.pos
  le := hn
  lim := hlim
  wid := m.wid
  row := fun i hi => by rw [hrx]; exact m.row i hi
  inj := fun i j b' h1 h2 => by rw [hrx] at h1 h2; exact m.inj i j b' h1 h2
  bnd := fun i b' h1 => by rw [hrx] at h1; exact m.bnd i b' h1
  top := fun t b' ht h1 => by
   by_cases e : t = n + 1
   ·subst e
    rw [Mu.upd_self] at h1; cases h1
    exact ⟨Nat.le_refl _, hcells, hS, fun i => by rw [hrx]; exact hno i, fun i hi => by
     obtain ⟨bi, cap, k1, k2, k3⟩ := hb i hi
     exact ⟨bi, cap, k1, by rw [hrx]; exact k2, k3⟩⟩
   ·rw [Mu.upd_top _ _ _ e] at h1
    obtain ⟨g1, g2, g3, g4, g5⟩ := m.top t b' ht h1
    exact ⟨by omega, g2, g3, fun i => by rw [hrx]; exact g4 i, fun i hi => by
     obtain ⟨bi, cap, k1, k2, k3⟩ := g5 i hi
     exact ⟨bi, cap, k1, by rw [hrx]; exact k2, k3⟩⟩ }
theorem MatRel.alloc {nm : Nm} {es n : Nat} {rows : List (List (List PV))} (hH : HRel w S μ H) (m : MatRel w S μ nm es rows n) (o : Obj) : MatRel (w.alloc o) S μ nm es rows n :=
 m.mono (fun _ h => h) (fun b hb => alloc_heap w o b (hH.slt b hb)) (fun _ => rfl) (fun t b h => alloc_heap w o b (hH.lt _ _ _ h)) (fun _ _ _ h => h)
theorem mat_new {nm : Nm} {o : Obj} {top : Nat} {x : Blk} (hH : HRel w S μ H) (hl : nm.1 < H.length) (hno : ∀ b, μ nm top ≠ some b) (hx : BlkRel (w.alloc o) S (μ.upd nm top w.heap.size) nm x) :
  HRel (w.alloc o) S (μ.upd nm top w.heap.size) (H.set nm x) ∧ Ev ℓ w S μ (w.alloc o) S (μ.upd nm top w.heap.size) := by
 refine hH.turn ℓ hl rfl rfl rfl (by rw [alloc_size]; omega) (fun _ h => h) (fun b h => .inl h) (fun b h => by have := hH.slt b h; rw [alloc_size]; omega)
  (fun k hk _ => alloc_heap w o k hk) (alloc_shp w o) (alloc_lp w o) (fun n t h => Mu.upd_other μ _ _ _ h) (fun t b h => ?_) (fun t b h => ?_) (fun t b h => ?_) hx
 ·by_cases e : t = top
  ·subst e; exact absurd h (hno b)
  ·rw [Mu.upd_top μ nm _ e]; exact h
 ·by_cases e : t = top
  ·subst e; rw [Mu.upd_self] at h; cases h; exact .inr (Nat.le_refl _)
  ·rw [Mu.upd_top μ nm _ e] at h; exact .inl ⟨t, h⟩
 ·by_cases e : t = top
  ·subst e; rw [Mu.upd_self] at h; cases h; rw [alloc_size]; omega
  ·rw [Mu.upd_top μ nm _ e] at h; have := hH.lt _ _ _ h; rw [alloc_size]; omega
theorem leads_get {nm : Nm} : ∀ {cs : List GV}, leads nm cs = true → ∃ j es top lo len, j < cs.length ∧ cs.getD j gdead = .hdr nm es top lo len
 | [], h => by simp [leads] at h
 | g :: r, h => by
  have tail : leads nm r = true → ∃ j es top lo len, j < (g :: r).length ∧ (g :: r).getD j gdead = .hdr nm es top lo len := fun h => by
   obtain ⟨j, es, top, lo, len, h1, h2⟩ := leads_get h
   exact ⟨j + 1, es, top, lo, len, by simpa using h1, by simpa using h2⟩
  cases g with
  | hdr m es top lo len =>
   simp only [leads, Bool.or_eq_true, decide_eq_true_eq] at h
   rcases h with h | h
   ·subst h; exact ⟨0, es, top, lo, len, by simp, by simp⟩
   ·exact tail h
  | _ => exact tail h
theorem addRow_some {bn : Nm} {key es i k off : Nat} {r : List (List PV)} {H' : Heap} {vb : Value} (hpos : 0 < es) (hH : HRel w S μ H) (hb : VRel w S μ k vb (.bptr bn off)) (h : addRow H bn key es r = some (i, H')) :
  ∃ rows n, bn.1 < H.length ∧ i = rows.length ∧ MatRel w S μ (bn.1, key) es rows n ∧ H' = H.set (bn.1, key) (.mat es (rows ++ [r]) n) := by
 unfold addRow at h
 split at h
 ·cases h
 ·rename_i hl
  split at h
  ·rename_i hg
   simp only [Option.some.injEq, Prod.mk.injEq] at h
   obtain ⟨rfl, rfl⟩ := h
   exact ⟨[], 0, by omega, rfl, .void hpos (fun t b h => by obtain ⟨y, hy⟩ := hH.bnd _ _ _ h; rw [hg] at hy; cases hy), rfl⟩
  ·rename_i es' rows n hg
   split at h
   ·rename_i cs hgb
    split at h
    ·rename_i hc
     obtain ⟨e, hle⟩ := hc
     subst e
     simp only [Option.some.injEq, Prod.mk.injEq] at h
     obtain ⟨rfl, rfl⟩ := h
     refine ⟨rows, n, by omega, rfl, ?_, rfl⟩
     cases hb with
     | bptr _ _ b h1 h2 =>
     obtain ⟨b', c, e, q1, q2, q3, q4⟩ := hH.blk _ _ hgb _ _ h2
     obtain ⟨j, es1, top, lo, len, j1, j2⟩ := leads_get hle
     have := (q4.getD j j1).2
     rw [j2] at this
     generalize c.toList.getD j undef = vj at this
     cases this with
     | hdr _ _ _ _ _ cap bb nn ee p1 p2 p3 p4 p5 p6 => exact hH.blk _ _ hg _ _ p2
    ·cases h
   ·cases h
  ·cases h
theorem layRow_sound (K : Ctx) {k off key size bytes : Nat} {bn : Nm} {t e : TypeId} {s x : GV} {vb vs vx : Value} {v : GV} {H' : Heap} {ats : Array TypeId} {ty : TypeId} (hH : HRel w S μ H) (hb : VRel w S μ k vb (.bptr bn off)) (hs : VRel w S μ k vs s) (hx : VRel w S μ k vx x)
  (h0 : ats[0]? = some t) (h1 : spreads K.P ats[1]? = true) (hu : K.P.underlying t = some (.slice e)) (hsz : tsize K.P e = some size) (hby : tbytes K.P e = some bytes) (hzs : zsize K.P e = some size) (hpos : 0 < size) (hb0 : 0 < bytes) (hb1 : bytes ≤ 1048576)
  (h : layRow H bn key size bytes s x = some (v, H')) :
  OpOk ℓ w S μ H ((do pure (Next.value (← Builtin.append_ ats ty #[vs, vx])) : Sem Next).run K.P w) v H' := by
 unfold layRow at h
 split at h
 ·rename_i xs H1 hge
  split at h
  ·rename_i hcond
   simp only [Bool.and_eq_true, decide_eq_true_eq, List.all_eq_true, beq_iff_eq, Bool.not_eq_true'] at hcond
   obtain ⟨⟨hrows, hemp⟩, hmax⟩ := hcond
   have hx0 : 0 < xs.length := by cases xs; simp at hemp; simp
   obtain ⟨S1, a1, a2, a3, a4, a5⟩ := gelems_sound ℓ (P := K.P) hH hx hge hpos hrows
   split at h
   ·rename_i i H2 hadd
    simp only [Option.some.injEq, Prod.mk.injEq] at h
    obtain ⟨rfl, rfl⟩ := h
    cases hs with | nils a =>
    obtain ⟨z, z1, z2⟩ := zsize_run hzs w.drew
    obtain ⟨cells2, d1, d2⟩ := a5 w.drew rfl
    have hold : (Builtin.firstCells size 0 (.slice a 0 0)).run K.P w.drew = .ok #[] w.drew := by cases a <;> simp [Builtin.firstCells, loadCells, loadCellsFrom]
    obtain ⟨newCap, n1, n2⟩ := append_grows_run (ty := ty) (cap := 0) (len := 0) h0 h1 hu hsz hby hb0 hb1 (by simpa using hmax) (a4 w) hold d1 z1 (by omega)
    obtain ⟨b1, b2⟩ := a1.drew (ℓ := ℓ)
    have hthree := rows_three (w := w) (S := S1) (old := #[]) (z := Builtin.zeroCells z.cells (newCap - (0 + xs.length))) (xs := []) ⟨by simp, by simp⟩ d2
    have hb2 : VRel w.drew S1 μ k vb (.bptr bn off) := by
     cases hb with
     | bptr _ _ b p1 p2 => exact .bptr bn off b p1 p2
    obtain ⟨rows, n, hl, rfl, m, rfl⟩ := addRow_some hpos b1 hb2 hadd
    let c : Array Value := #[] ++ cells2 ++ Builtin.zeroCells z.cells (newCap - (0 + xs.length))
    have hcsz : c.size = newCap * size := by
     simp only [c, Array.size_append, zeroCells_size, z2, d2.1, Array.size_empty]
     have : newCap = xs.length + (newCap - (0 + xs.length)) := by omega
     rw [this, Nat.add_mul]; simp
    have hrr : RowRel (w.drew.alloc (.cells c e)) S1 w.drew.heap.size size xs := by
     refine ⟨⟨c, e, alloc_new _ _⟩, fun hS => by have := b1.slt _ hS; omega, fun i j hi hj => ?_⟩
     obtain ⟨z3, z4⟩ := hthree i j (by simpa using hi) hj
     simp only [List.nil_append] at z4
     have hlt : i * size + j < c.size := by have := rows_lt (n := newCap) (show i < newCap by omega) hj; omega
     refine ⟨c.getD (i * size + j) undef, ?_, z3, ?_⟩
     ·simp only [World.cell?, alloc_new]
      simp [Array.getD_eq_getD_getElem?, hlt]
     ·exact (PRep.mono (w := w) (w' := w.drew) (fun _ h => h) (fun _ _ => rfl) z4).mono (fun _ h => h) (fun b hb => alloc_heap w.drew _ b (b1.slt b hb))
    have hno : ∀ t, μ (bn.1, key) t ≠ some w.drew.heap.size := fun t ht => by have := b1.lt _ _ _ ht; omega
    obtain ⟨e1, e2⟩ := mat_new (ℓ := ℓ) (nm := (bn.1, key)) (o := .cells c e) (top := rix rows.length) (x := .mat size (rows ++ [xs]) n) b1 hl (fun b hb => by have := m.bnd _ _ hb; omega)
     ((m.alloc b1 _).push hno hrr hrows)
    refine ⟨_, _, _, S1, _, by simp only [Sem.run_bind, n2, Result.andThen_ok]; rfl, .inl rfl, ?_, e1, (a2.trans b2).trans e2, by rw [Heap.length_set]; exact a3.1⟩
    simp only [Nat.zero_add]
    exact .rhdr _ size _ _ newCap _ (by rw [Heap.length_set]; simp only; omega) (Mu.upd_self _ _ _ _) (by omega)
   ·cases h
  ·cases h
 ·cases h
theorem MatRel.outer {nm : Nm} {es n b : Nat} {rows : List (List (List PV))} (m : MatRel w S μ nm es rows n) (hb : μ nm n = some b) {c c' : Array Value} {e : TypeId} (hg : w.heap[b]? = some (.cells c e (0, 0))) (hs : c'.size = c.size)
  (hk : ∀ i, i < n → c'.toList[i]? = c.toList[i]?) : MatRel (w.setRow b c') S μ nm es rows n := by
 obtain ⟨t1, t2, t3, t4, t5⟩ := m.top n b m.lim hb
 have oth : ∀ b', b' ≠ b → (w.setRow b c').heap[b']? = w.heap[b']? := fun b' hb' => setRow_other w b b' _ hb'
 exact {
  pos := m.pos
  le := m.le
  lim := m.lim
  wid := m.wid
  row := fun i hi => by
   obtain ⟨b', h1, h2⟩ := m.row i hi
   exact ⟨b', h1, h2.mono (fun _ h => h) (fun k hk => oth k fun e => t3 (e ▸ hk)) (oth _ fun e => t4 i (e ▸ h1)) (fun h => h)⟩
  inj := m.inj
  bnd := m.bnd
  top := fun t b' ht h1 => by
   obtain ⟨g1, ⟨c2, e2, g2⟩, g3, g4, g5⟩ := m.top t b' ht h1
   refine ⟨g1, ?_, g3, g4, fun i hi => ?_⟩
   ·by_cases eb : b' = b
    ·subst eb; exact ⟨_, e, setRow_heap w b' c _ e _ hg⟩
    ·exact ⟨c2, e2, by rw [oth _ eb]; exact g2⟩
   ·obtain ⟨bi, cap, k1, k2, k3⟩ := g5 i hi
    refine ⟨bi, cap, ?_, k2, k3⟩
    by_cases eb : b' = b
    ·subst eb
     rw [cell_setRow_same w b' _ c _ e (0, 0) hg]
     have := hk i (by omega)
     simp only [World.cell?, hg] at k1
     simp only [Array.getElem?_toList] at this
     simpa [this] using k1
    ·rw [cell_of_heap (oth _ eb)]; exact k1 }
theorem tellRow_sound (K : Ctx) {k bytes es i len : Nat} {nm : Nm} {t e : TypeId} {s : GV} {vs vx : Value} {v : GV} {H' : Heap} {ats : Array TypeId} {ty : TypeId} (hH : HRel w S μ H) (hs : VRel w S μ k vs s) (hx : VRel w S μ k vx (.lits [[.rhdr nm es i len]])) (hk : k = H.length - 1)
  (h0 : ats[0]? = some t) (h1 : spreads K.P ats[1]? = true) (hu : K.P.underlying t = some (.slice e)) (hsz : tsize K.P e = some 1) (hby : tbytes K.P e = some bytes) (hzs : zsize K.P e = some 1) (hb0 : 0 < bytes) (hb1 : bytes ≤ 1048576)
  (h : tellRow H bytes s nm es i len = some (v, H')) :
  OpOk ℓ w S μ H ((do pure (Next.value (← Builtin.append_ ats ty #[vs, vx])) : Sem Next).run K.P w) v H' := by
 unfold tellRow at h
 split at h
 ·rename_i es' rows n hg
  split at h
  ·rename_i hc
   obtain ⟨rfl, rfl, hn, hlen, hmax⟩ := hc
   cases hx with
   | lits bl o capl es1 _ f hS he hes hf hone hr hcap =>
   obtain rfl : es1 = 1 := by have := hes _ (List.mem_singleton.2 rfl); simpa using this.symm
   have hv := hr 0 0 (by simp) (by omega)
   simp only [List.getD_cons_zero] at hv
   generalize hfv : f 0 0 = fv at hv
   cases hv with
   | rhdr _ _ _ _ cap2 bi p1 p2 p3 =>
   have m : MatRel w S μ nm es' rows i := hH.blk _ _ hg _ _ p2
   have hlim : i + 1 < rix 0 := by
    have : i + 1 ≤ (i + 1) * bytes := Nat.le_mul_of_pos_right _ hb0
    unfold rix; omega
   have hl : nm.1 < H.length := Heap.get_lt hg
   have hln : ∀ w2 : World, (Builtin.lenOf (.slice (some ⟨bl, o, none⟩) [[GV.rhdr nm es' i len]].length capl)).run K.P w2 = .ok 1 w2 := fun w2 => rfl
   have hcell : ∀ w2 : World, w2.heap = w.heap → ∃ cells, (Builtin.firstCells 1 1 (.slice (some ⟨bl, o, none⟩) [[GV.rhdr nm es' i len]].length capl)).run K.P w2 = .ok cells w2 ∧ cells = #[.slice (some ⟨bi, 0, none⟩) len cap2] := fun w2 hw => by
    obtain ⟨cells, c1, c2, c3⟩ := load_rows (P := K.P) (w2 := w2) hw he f hf
    refine ⟨cells, by simpa [Builtin.firstCells] using c1, ?_⟩
    have c4 := c3 0 0 (by simp) (by omega)
    rw [hfv] at c4
    apply Array.ext
    ·simpa using c2
    ·intro q hq1 hq2
     have : q = 0 := by simp at hq2; omega
     subst this
     rw [Array.getD_eq_getD_getElem?, Array.getElem?_eq_getElem (by simpa using hq1)] at c4
     simpa using c4
   have hnew : (∀ b, μ nm (i + 1) ≠ some b) := fun b hb => by have := (m.top (i + 1) b hlim hb).1; omega
   have grow : ∀ (c : Array Value) (newCap : Nat), i + 1 ≤ newCap → newCap ≤ c.size →
     (∀ q, q < i → ∃ bi cap, c[q]? = some (.slice (some ⟨bi, 0, none⟩) (rows.getD q []).length cap) ∧ μ nm (rix q) = some bi ∧ (rows.getD q []).length ≤ cap) → c[i]? = some (.slice (some ⟨bi, 0, none⟩) len cap2) →
     ∃ μ', VRel (w.drew.alloc (.cells c e)) S μ' (H.length - 1) (.slice (some ⟨w.heap.size, 0, none⟩) (i + 1) newCap) (.hdr nm 1 (i + 1) 0 (i + 1)) ∧ HRel (w.drew.alloc (.cells c e)) S μ' (H.set nm (.mat es' rows (i + 1))) ∧ Ev ℓ w S μ (w.drew.alloc (.cells c e)) S μ' := by
    intro c newCap n1 n2 hq hi
    obtain ⟨b1, b2⟩ := hH.drew (ℓ := ℓ)
    have m1 : MatRel w.drew S μ nm es' rows i := MatRel.mono (w := w) (w' := w.drew) (fun _ h => h) (fun _ _ => rfl) (fun _ => rfl) (fun _ _ _ => rfl) (fun _ _ _ h => h) m
    have hcl : ∀ q u, c[q]? = some u → (w.drew.alloc (.cells c e)).cell? ⟨w.heap.size, q, none⟩ = some u := fun q u hu => by
     have : (w.drew.alloc (.cells c e)).heap[w.heap.size]? = some (.cells c e (0, 0)) := alloc_new w.drew _
     simp only [World.cell?, this]
     exact hu
    obtain ⟨e1, e2⟩ := mat_new (ℓ := ℓ) (nm := nm) (o := .cells c e) (top := i + 1) (x := .mat es' rows (i + 1)) b1 hl hnew
     ((m1.alloc b1 _).tell (b := w.heap.size) hn hlim ⟨c, e, alloc_new w.drew _⟩ (fun hS => by have := hH.slt _ hS; omega) (fun q hq => by have := hH.lt _ _ _ hq; omega) (fun q hq' => by
      by_cases e3 : q = i
      ·subst e3; exact ⟨bi, cap2, by rw [hlen]; exact hcl _ _ hi, p2, by rw [hlen]; exact p3⟩
      ·obtain ⟨bq, cq, k1, k2, k3⟩ := hq q (by omega)
       exact ⟨bq, cq, hcl _ _ k1, k2, k3⟩))
    refine ⟨_, ?_, e1, b2.trans e2⟩
    have := VRel.hdr (w := w.drew.alloc (.cells c e)) (S := S) (μ := μ.upd nm (i + 1) w.drew.heap.size) (ℓ := H.length - 1) nm 1 (i + 1) 0 (i + 1) newCap w.drew.heap.size c.size e
     (by omega) (Mu.upd_self _ _ _ _) (by omega) (by omega) (by unfold World.shape?; rw [alloc_new]) (by omega)
    rw [Nat.zero_mul] at this
    exact this
   obtain ⟨z, z1, z2⟩ := zsize_run hzs w.drew
   obtain ⟨cells2, d1, d2⟩ := hcell w.drew rfl
   subst d2
   split at h
   ·
    split at h
    ·rename_i hn0
     subst hn0
     simp only [Option.some.injEq, Prod.mk.injEq] at h
     obtain ⟨rfl, rfl⟩ := h
     cases hs with | nils a =>
     have hold : (Builtin.firstCells 1 0 (.slice a 0 0)).run K.P w.drew = .ok #[] w.drew := by cases a <;> simp [Builtin.firstCells, loadCells, loadCellsFrom]
     obtain ⟨newCap, n1, n2⟩ := append_grows_run (ty := ty) (cap := 0) (len := 0) h0 h1 hu hsz hby hb0 hb1 (by simpa using hmax) (hln w) hold d1 z1 (by omega)
     obtain ⟨μ', g1, g2, g3⟩ := grow (#[] ++ #[.slice (some ⟨bi, 0, none⟩) len cap2] ++ Builtin.zeroCells z.cells (newCap - (0 + 1))) newCap (by omega)
      (by simp only [Array.size_append, zeroCells_size, z2, Array.size_empty]; simp; omega) (fun q hq => by omega) (by
       rw [Array.getElem?_append_left (by simp), Array.getElem?_append_right (by simp)]
       simp)
     simp only [Nat.zero_add] at n2 g1 g2 g3
     exact ⟨_, _, _, S, μ', by simp only [Sem.run_bind, n2, Result.andThen_ok]; rfl, .inl rfl, by rw [Heap.length_set]; exact g1, g2, g3, by rw [Heap.length_set]⟩
    ·cases h
   ·rename_i nm' es1 top lo ln
    split at h
    ·rename_i hc
     obtain ⟨rfl, rfl, rfl, rfl, rfl⟩ := hc
     simp only [Option.some.injEq, Prod.mk.injEq] at h
     obtain ⟨rfl, rfl⟩ := h
     cases hs with
     | hdr _ _ _ _ _ cap b sz ek q1 q2 q3 q4 q5 q6 =>
     obtain ⟨t1, ⟨c0, e0, t2⟩, t3, t4, t5⟩ := m.top ln b m.lim q2
     have hcs : c0.size = sz := by unfold World.shape? at q5; rw [t2] at q5; simp at q5; exact q5.2
     have hc0 : ∀ q, q < ln → ∃ bi cap, c0[q]? = some (.slice (some ⟨bi, 0, none⟩) (rows.getD q []).length cap) ∧ μ nm' (rix q) = some bi ∧ (rows.getD q []).length ≤ cap := fun q hq => by
      obtain ⟨bq, cq, k1, k2, k3⟩ := t5 q hq
      simp only [World.cell?, t2] at k1
      exact ⟨bq, cq, k1, k2, k3⟩
     by_cases hfit : ln + 1 ≤ cap
     ·have hbnd : ln * 1 + #[Value.slice (some ⟨bi, 0, none⟩) len cap2].toList.length ≤ c0.toList.length := by simp; omega
      have hst := run_storeCells_at (P := K.P) b (ln * 1) e0 [Value.slice (some ⟨bi, 0, none⟩) len cap2] 0 c0 w t2 (by simpa using hbnd) (by intro v hv; simp at hv; subst hv; rfl)
      simp only [Nat.add_zero] at hst
      have hsize : (splice c0.toList (ln * 1) [Value.slice (some ⟨bi, 0, none⟩) len cap2]).toArray.size = c0.size := by
       simp only [List.size_toArray]; rw [splice_length _ _ _ (by simpa using hbnd)]; simp
      have hget : ∀ q, (splice c0.toList (ln * 1) [Value.slice (some ⟨bi, 0, none⟩) len cap2])[q]? = if q < ln * 1 then c0.toList[q]? else if q < ln * 1 + 1 then [Value.slice (some ⟨bi, 0, none⟩) len cap2][q - ln * 1]? else c0.toList[q]? := fun q =>
       splice_get _ _ _ _ (by simpa using hbnd)
      have m2 : MatRel (w.setRow b (splice c0.toList (ln * 1) [Value.slice (some ⟨bi, 0, none⟩) len cap2]).toArray) S μ nm' es' rows ln := m.outer q2 t2 hsize (fun q hq => by
       rw [List.toList_toArray, hget, if_pos (by omega)])
      have hcl : ∀ q u, (splice c0.toList (ln * 1) [Value.slice (some ⟨bi, 0, none⟩) len cap2])[q]? = some u → (w.setRow b (splice c0.toList (ln * 1) [Value.slice (some ⟨bi, 0, none⟩) len cap2]).toArray).cell? ⟨b, q, none⟩ = some u := fun q u hu => by
       rw [cell_setRow_same w b _ c0 _ e0 (0, 0) t2]; simpa using hu
      have m3 := m2.tell (b := b) hn hlim ⟨_, e0, setRow_heap w b c0 _ e0 _ t2⟩ t3 t4 (fun q hq' => by
       by_cases e3 : q = ln
       ·subst e3
        refine ⟨bi, cap2, hcl _ _ ?_, p2, by rw [hlen]; exact p3⟩
        rw [hget, if_neg (by omega), if_pos (by omega), hlen]; simp
       ·obtain ⟨bq, cq, k1, k2, k3⟩ := hc0 q (by omega)
        refine ⟨bq, cq, hcl _ _ ?_, k2, k3⟩
        rw [hget, if_pos (by omega)]
        simpa using k1)
      have := hH.row ℓ (x := .mat es' rows (ln + 1)) hl q2 t3 t2 hsize (ln + 1) m3 (fun b' hb' => absurd hb' (hnew b'))
      obtain ⟨cells1, e1, e2⟩ := hcell w rfl
      subst e2
      have hrun := append_fits_run (ty := ty) (base := some ⟨b, 0 * 1, none⟩) (len := ln) (cap := cap) h0 h1 hu hsz (hln w) e1 hfit (w' := w.setRow b (splice c0.toList (ln * 1) [Value.slice (some ⟨bi, 0, none⟩) len cap2]).toArray)
       (by simp only [Nat.zero_mul]; rw [add_none, Nat.zero_add]; simpa [splice] using hst) (r := .ok () w)
      refine ⟨_, _, _, S, _, by simp only [Sem.run_bind, hrun, Result.andThen_ok]; rfl, .inl rfl, ?_, this.1, this.2, by rw [Heap.length_set]⟩
      have hv := VRel.hdr (w := w.setRow b (splice c0.toList (ln * 1) [Value.slice (some ⟨bi, 0, none⟩) len cap2]).toArray) (S := S) (μ := μ.upd nm' (ln + 1) b) (ℓ := (H.set nm' (.mat es' rows (ln + 1))).length - 1) nm' 1 (ln + 1) 0 (ln + 1) cap b sz ek
       (by rw [Heap.length_set]; omega) (Mu.upd_self _ _ _ _) (by omega) (by omega) (setRow_shp w b c0 _ e0 (0, 0) t2 hsize b _ q5) q6
      exact hv
     ·obtain ⟨old, o1, o2, o3⟩ := load_rows (w := w) (w2 := w.drew) (P := K.P) (b := b) (o := 0 * 1) (n := ln) (size := 1) rfl (by omega) (fun i j => (c0[i]?).getD undef) (fun i j hi hj => by
       obtain ⟨bq, cq, k1, k2, k3⟩ := hc0 i hi
       obtain rfl : j = 0 := by omega
       simp only [World.cell?, t2]
       simp [k1])
      obtain ⟨newCap, n1, n2⟩ := append_grows_run (ty := ty) (base := some ⟨b, 0 * 1, none⟩) (cap := cap) (len := ln) h0 h1 hu hsz hby hb0 hb1 hmax (hln w) (by simpa [Builtin.firstCells] using o1) d1 z1 hfit
      have hos : old.size = ln := by simpa using o2
      obtain ⟨μ', g1, g2, g3⟩ := grow (old ++ #[.slice (some ⟨bi, 0, none⟩) len cap2] ++ Builtin.zeroCells z.cells (newCap - (ln + 1))) newCap (by omega)
       (by simp only [Array.size_append, zeroCells_size, z2, hos]; simp; omega) (fun q hq => by
        obtain ⟨bq, cq, k1, k2, k3⟩ := hc0 q hq
        refine ⟨bq, cq, ?_, k2, k3⟩
        have := o3 q 0 hq (by omega)
        rw [k1, Array.getD_eq_getD_getElem?] at this
        rw [Array.getElem?_append_left (by simp; omega), Array.getElem?_append_left (by omega)]
        rw [Array.getElem?_eq_getElem (show q < old.size by omega)]
        rw [Array.getElem?_eq_getElem (show q * 1 + 0 < old.size by omega)] at this
        simpa using this) (by
        rw [Array.getElem?_append_left (by simp; omega), Array.getElem?_append_right (by omega)]
        simp [hos])
      refine ⟨_, _, _, S, μ', by simp only [Sem.run_bind, n2, Result.andThen_ok]; rfl, .inl rfl, by rw [Heap.length_set]; exact g1, g2, g3, by rw [Heap.length_set]⟩
    ·cases h
   ·cases h
  ·cases h
 ·cases h
theorem upBox_some {s : Slots} {u : Up} {bn : Nm} (h : upBox s u = some bn) : ∃ t off, u = .box t ∧ look s t = .bptr bn off := by
 unfold upBox at h
 split at h
 ·split at h
  ·rename_i nm off e
   simp only [Option.some.injEq] at h; subst h
   exact ⟨_, off, rfl, e⟩
  ·cases h
 ·cases h
theorem rowLit_some {x : GV} {nm : Nm} {es i len : Nat} (h : rowLit x = some (nm, es, i, len)) : x = .lits [[.rhdr nm es i len]] := by
 unfold rowLit at h
 split at h
 ·simp only [Option.some.injEq, Prod.mk.injEq] at h
  obtain ⟨rfl, rfl, rfl, rfl⟩ := h
  rfl
 ·cases h
theorem gappendR_sound (K : Ctx) {k off key : Nat} {bn : Nm} {t : TypeId} {s x : GV} {vb vs vx : Value} {v : GV} {H' : Heap} {ats : Array TypeId} {ty : TypeId} (hH : HRel w S μ H) (hb : VRel w S μ k vb (.bptr bn off)) (hs : VRel w S μ k vs s) (hx : VRel w S μ k vx x)
  (hk : k = H.length - 1) (h0 : ats[0]? = some t) (h1 : spreads K.P ats[1]? = true) (h : gappendR K H bn key t s x = some (v, H')) :
  OpOk ℓ w S μ H ((do pure (Next.value (← Builtin.append_ ats ty #[vs, vx])) : Sem Next).run K.P w) v H' := by
 unfold gappendR at h
 split at h
 ·rename_i e hu0
  have hu := telem_some hu0
  split at h
  ·rename_i size bytes hsz hby
   split at h
   ·rename_i hcond
    simp only [Bool.and_eq_true, decide_eq_true_eq] at hcond
    obtain ⟨⟨⟨hzs, hpos⟩, hb0⟩, hb1⟩ := hcond
    split at h
    ·rename_i nm es i len hrl
     obtain rfl := rowLit_some hrl
     split at h
     ·rename_i hs1
      subst hs1
      exact tellRow_sound K hH hs hx hk h0 h1 hu hsz hby hzs hb0 hb1 h
     ·cases h
    ·exact layRow_sound K hH hb hs hx h0 h1 hu hsz hby hzs hpos hb0 hb1 h
   ·cases h
  ·cases h
 ·cases h
end
end
section
section
variable {w : World} {S : Nat → Prop} {μ : Mu} {H : Heap} {P : Program} {ℓ : Nat}
theorem bytesOf_some : ∀ {rows : List (List PV)} {l : List UInt8}, bytesOf rows = some l → rows = l.map fun b => [.int .u8 b.toNat]
 | [], l, h => by simp only [bytesOf, Option.some.injEq] at h; subst h; rfl
 | [.int .u8 n] :: r, l, h => by
  simp only [bytesOf] at h
  split at h
  ·rename_i hn
   split at h
   ·rename_i l' hl
    simp only [Option.some.injEq] at h
    subst h
    rw [bytesOf_some hl]
    have : ((UInt8.ofNat n.toNat).toNat : Int) = n := by
     rw [UInt8.toNat_ofNat']
     omega
    rw [List.map_cons, this]
   ·cases h
  ·cases h
 | [] :: _, l, h => by simp [bytesOf] at h
 | (_ :: _ :: _) :: _, l, h => by simp [bytesOf] at h
 | [.bool _] :: _, l, h => by simp [bytesOf] at h
 | [.str _] :: _, l, h => by simp [bytesOf] at h
 | [.slice _] :: _, l, h => by simp [bytesOf] at h
 | [.agg _] :: _, l, h => by simp [bytesOf] at h
 | [.tuple _] :: _, l, h => by simp [bytesOf] at h
 | [.fn _] :: _, l, h => by simp [bytesOf] at h
 | [.nilp] :: _, l, h => by simp [bytesOf] at h
 | [.nilf] :: _, l, h => by simp [bytesOf] at h
 | [.nilm] :: _, l, h => by simp [bytesOf] at h
 | [.nili] :: _, l, h => by simp [bytesOf] at h
 | [.iface _ _] :: _, l, h => by simp [bytesOf] at h
 | [.dead] :: _, l, h => by simp [bytesOf] at h
 | [.int .i8 _] :: _, l, h => by simp [bytesOf] at h
 | [.int .i16 _] :: _, l, h => by simp [bytesOf] at h
 | [.int .i32 _] :: _, l, h => by simp [bytesOf] at h
 | [.int .i64 _] :: _, l, h => by simp [bytesOf] at h
 | [.int .u16 _] :: _, l, h => by simp [bytesOf] at h
 | [.int .u32 _] :: _, l, h => by simp [bytesOf] at h
 | [.int .u64 _] :: _, l, h => by simp [bytesOf] at h
theorem toBytes_run {k : Nat} {src dst e : TypeId} {v : Value} {rows : List (List PV)} {l : List UInt8} (hs : P.underlying src = some (.slice e)) (he : P.underlying e = some (.int .u8)) (hd : P.underlying dst = some .string)
  (hv : VRel w S μ k v (.pure (.slice rows))) (hb : bytesOf rows = some l) (h0 : rows ≠ []) : ∃ str : ByteArray, (convert src dst v).run P w = .ok (.string str) w ∧ str.data.toList = l := by
 have hr := bytesOf_some hb
 have hp := hv.pv
 cases hp with
 | slice0 a cap => exact absurd rfl h0
 | slice b o cap es _ f hS hpos hes hf h1 hrep hc =>
  obtain ⟨r0, hr0⟩ : ∃ r0, r0 ∈ rows := by cases rows with | nil => exact absurd rfl h0 | cons r _ => exact ⟨r, List.mem_cons_self ..⟩
  have hes1 : es = 1 := by
   have := hes r0 hr0
   rw [hr] at hr0
   obtain ⟨x, _, rfl⟩ := List.mem_map.1 hr0
   simpa using this.symm
  subst hes1
  have hlen : rows.length = l.length := by rw [hr]; simp
  have hrun := run_convert_bytes_arg (P := P) w src e hs he b o rows.length cap (l.map fun b => (b.toNat : Int)) (by simp [hlen]) (fun i hi => by
   have hil : i < l.length := by omega
   have h2 := hf i 0 hi (by omega)
   have h3 := hrep i 0 hi (by omega)
   have e1 : (rows.getD i []).getD 0 .dead = .int .u8 (l[i].toNat : Int) := by rw [hr]; simp [List.getD_eq_getElem?_getD, hil]
   rw [e1] at h3
   rw [show o + i = o + (i * 1 + 0) by omega, h2]
   have e2 : (l.map fun b => (b.toNat : Int)).getD i 0 = (l[i].toNat : Int) := by simp [List.getD_eq_getElem?_getD, hil]
   rw [e2]
   generalize f i 0 = u at h3
   cases h3
   rfl) dst hd
  refine ⟨_, hrun, ?_⟩
  simp [strOfNums, Function.comp_def]
theorem cellsOf_of_size {e : TypeId} {n : Nat} (h : tsize P e = some n) : P.cellsOf e = n := by
 unfold tsize at h
 unfold Program.cellsOf
 cases hi : P.info? e with
 | none => rw [hi] at h; simp at h
 | some i => rw [hi] at h; simp at h; simp [h]
theorem sliceData_run {k : Nat} {ts : Array TypeId} {ty : TypeId} {nm : Nm} {es top len : Nat} {v : Value} (h : VRel w S μ k v (.hdr nm es top 0 len)) (h0 : 0 < top) :
  ∃ b, (Builtin.unsafeSliceData_ ts ty #[v]).run P w = .ok (.pointer (some ⟨b, 0, none⟩)) w ∧ VRel w S μ k (.pointer (some ⟨b, 0, none⟩)) (.eptr nm es top 0 0) := by
 cases h with
 | hdr _ _ _ _ _ cap b n e hl hm hc ht hsh hn =>
  refine ⟨b, ?_, ?_⟩
  ·have := Go.Lib.run_unsafeSliceData_row (P := P) w ts ty ⟨b, 0, none⟩ len cap (by omega)
   simpa using this
  ·have := VRel.eptr (w := w) (S := S) (μ := μ) (ℓ := k) nm es top 0 0 b hl hm
   simpa using this
theorem gunsafeStr_sound (K : Ctx) {ty pt it : TypeId} {x y v : GV} {vx vy : Value} {H' : Heap} (hH : HRel w S μ H) (hx : VRel w S μ (H.length - 1) vx x) (hy : VRel w S μ (H.length - 1) vy y)
  (h : gunsafeStr K pt H x y = some (v, H')) :
  OpOk ℓ w S μ H ((do pure (Next.value (← Builtin.unsafeString_ #[pt, it] ty #[vx, vy])) : Sem Next).run K.P w) v H' := by
 unfold gunsafeStr at h
 split at h
 ·rename_i nm top n e hp
  split at h
  ·rename_i rows vf hg
   split at h
   ·rename_i hc
    obtain ⟨c1, c2, c3, c4, c5, c6, c7⟩ := hc
    split at h
    ·rename_i l hl
     simp only [Option.some.injEq, Prod.mk.injEq] at h
     obtain ⟨rfl, rfl⟩ := h
     rw [hy.int_inv]
     have hr := bytesOf_some hl
     cases hx with
     | eptr _ _ _ _ _ b hlv hm =>
      obtain ⟨k0, k1, k2, k3, k4⟩ := hH.blk _ _ hg _ _ hm
      obtain ⟨g1, ⟨c, e', g2⟩, g3, g4⟩ := k4 _ _ hm
      have hty : tyE nm e' = e := by unfold tyE; rw [c6]
      rw [hty] at g2
      obtain ⟨_, g5⟩ := g4 c5
      have hsh : w.shape? b = some (e, c.size) := by unfold World.shape?; rw [g2]
      have hll : l.length = n.toNat := by
       have := congrArg List.length hr
       simp at this; omega
      have hcell : ∀ (j : Nat) (u : UInt8), l[j]? = some u → w.cell? ((⟨b, 0, none⟩ : Addr).add j) = some (.int .u8 u.toNat) := fun j u hj => by
       have hjl : j < l.length := by
        rcases Nat.lt_or_ge j l.length with h | h
        ·exact h
        ·rw [List.getElem?_eq_none h] at hj; cases hj
       obtain ⟨z, z1, z2, z3⟩ := g5 j 0 (by omega) (by omega)
       have e1 : (rows.getD j []).getD 0 .dead = .int .u8 (u.toNat : Int) := by
        have h1 : (rows.take n.toNat)[j]? = some [.int .u8 (u.toNat : Int)] := by rw [hr, List.getElem?_map, hj]; rfl
        rw [List.getElem?_take_of_lt (by omega)] at h1
        simp [List.getD_eq_getElem?_getD, h1]
       rw [e1] at z3
       cases z3
       have e2 : (⟨b, 0, none⟩ : Addr).add j = ⟨b, j * 1 + 0, none⟩ := by unfold Addr.add; split <;> simp_all
       rw [e2]; exact z1
      have hcs : n.toNat ≤ c.size := by
       have h1 := hcell (n.toNat - 1) (l[n.toNat - 1]'(by omega)) (by simp)
       have e2 : (⟨b, 0, none⟩ : Addr).add (n.toNat - 1) = ⟨b, n.toNat - 1, none⟩ := by unfold Addr.add; split <;> simp_all
       rw [e2] at h1
       unfold World.cell? at h1
       simp only [g2] at h1
       rcases Nat.lt_or_ge (n.toNat - 1) c.size with h | h
       ·omega
       ·simp [Array.getElem?_eq_none h] at h1
      have hrun := Go.Lib.run_unsafeString_row (P := K.P) w pt it ty e hp (cellsOf_of_size c7) b c.size hsh l (by intro e; subst e; simp at hll; omega) (by omega) (by omega) hcell
      rw [show ((l.length : Nat) : Int) = n by omega] at hrun
      have hlt := hH.lt _ _ _ hm
      have hheap : ∀ q, q ≠ b → (w.freeze ⟨b, 0, none⟩ l.length).heap[q]? = w.heap[q]? := fun q hq => by
       unfold World.freeze
       split
       ·rfl
       ·simp [Array.getElem?_modify, Ne.symm hq]
      have hheapb : ∃ fr, (w.freeze ⟨b, 0, none⟩ l.length).heap[b]? = some (.cells c e fr) := by
       unfold World.freeze
       split
       ·exact ⟨_, g2⟩
       ·simp [Array.getElem?_modify, g2]
      obtain ⟨fr, hheapb⟩ := hheapb
      have hsz : (w.freeze ⟨b, 0, none⟩ l.length).heap.size = w.heap.size := by
       unfold World.freeze
       split
       ·rfl
       ·simp
      have hos : (w.freeze ⟨b, 0, none⟩ l.length).os = w.os ∧ (w.freeze ⟨b, 0, none⟩ l.length).tape = w.tape ∧ (w.freeze ⟨b, 0, none⟩ l.length).output = w.output := by
       unfold World.freeze
       split <;> exact ⟨rfl, rfl, rfl⟩
      obtain ⟨t1, t2⟩ := hH.turn (w' := w.freeze ⟨b, 0, none⟩ l.length) (S' := S) (μ' := μ) (x := .gone) ℓ (Heap.get_lt hg) hos.1 hos.2.1 hos.2.2 (by rw [hsz]; omega) (fun _ h => h) (fun b h => .inl h) (fun q h => by rw [hsz]; exact hH.slt q h)
       (fun q hq ho => hheap q (by
        rintro rfl
        rcases ho with ho | ho
        ·exact g3 rfl ho
        ·exact ho _ hm))
       (fun q y hy => by
        by_cases e0 : q = b
        ·subst e0
         unfold World.shape? at hy ⊢
         rw [hheapb]; rw [g2] at hy; exact hy
        ·unfold World.shape? at hy ⊢
         rw [hheap q e0]; exact hy)
       (fun q r hq => by
        by_cases e0 : q = b
        ·subst e0; rw [g2] at hq; cases hq
        ·exact ⟨r, by rw [hheap q e0]; exact hq⟩)
       (fun n t h => rfl) (fun t b h => h) (fun t b h => .inl ⟨t, h⟩) (fun t q h => by rw [hsz]; exact hH.lt _ _ _ h) trivial
      refine ⟨.value (.string ⟨l.toArray⟩), _, w.freeze ⟨b, 0, none⟩ l.length, S, μ, ?_, .inl rfl, ?_, t1, t2, Heap.length_set _ _ _⟩
      ·simp only [Nat.zero_mul, Nat.add_zero, Nat.zero_add, Sem.run_bind, hrun, Result.andThen]; rfl
      ·exact .pure _ _ (.str ⟨l.toArray⟩)
    ·cases h
   ·cases h
  ·cases h
 ·cases h
end
end
section
section
variable {w : World} {S : Nat → Prop} {μ : Mu} {H : Heap} {P : Program} {ℓ : Nat}
theorem OpOk.ofRun {k : Nat} {s : Sem Value} {v : GV} (hH : HRel w S μ H) (hk : k ≤ H.length - 1) (h : ∃ u, s.run P w = .ok u w ∧ VRel w S μ k u v) :
  OpOk ℓ w S μ H ((do pure (Next.value (← s)) : Sem Next).run P w) v H := by
 obtain ⟨u, h1, h2⟩ := h
 exact .of hH (h2.up hk) (by simp [h1])
theorem mkFunc_rel {k : Nat} {f : FuncId} {a c : Array Value} {la lc : List GV} (h1 : a.size = la.length) (h2 : c.size = lc.length) (hr1 : ∀ j, j < la.length → VRel w S μ k (a.getD j undef) (la.getD j gdead))
  (hr2 : ∀ j, j < lc.length → VRel w S μ k (c.getD j undef) (lc.getD j gdead)) : VRel w S μ k (.func (.func f) a c) (mkFunc f la lc) := by
 unfold mkFunc
 split
 ·rename_i he
  simp only [Bool.and_eq_true, List.isEmpty_iff] at he
  obtain ⟨rfl, rfl⟩ := he
  have ea : a = #[] := by simpa using h1
  have ec : c = #[] := by simpa using h2
  subst ea; subst ec
  exact .pure _ _ (.fn f)
 ·exact .func f a c la lc h1 h2 hr1 hr2
theorem evs_rel (hG : GlbRel w S) {k : Nat} {a : Act} {s : Slots} (hs : ∀ t, VRel w S μ k (a.tmps.getD t undef) (look s t)) (xs : Array Operand) :
  (xs.map a.eval).size = (xs.toList.map (ev s)).length ∧ ∀ j, j < (xs.toList.map (ev s)).length → VRel w S μ k ((xs.map a.eval).getD j undef) ((xs.toList.map (ev s)).getD j gdead) := by
 refine ⟨by simp, fun j hj => ?_⟩
 have hj' : j < xs.size := by simpa using hj
 have := ev_rel hG hs xs[j]
 simpa [Array.getD_eq_getD_getElem?, List.getD_eq_getElem?_getD, hj'] using this
theorem tuple_inv {k : Nat} {v : Value} {l : List GV} (h : VRel w S μ k v (.tuple l)) : ∃ vs : Array Value, v = .tuple vs ∧ vs.size = l.length ∧ ∀ j, j < l.length → VRel w S μ k (vs.getD j undef) (l.getD j gdead) := by
 cases h with
 | tuple vs l h hr => exact ⟨vs, rfl, h, hr⟩
theorem tuple_pure_inv {k : Nat} {v : Value} {l : List PV} (h : VRel w S μ k v (.pure (.tuple l))) : ∃ vs : Array Value, v = .tuple vs ∧ vs.size = l.length ∧ ∀ j, j < l.length → PRep w S (vs.getD j undef) (l.getD j .dead) := by
 have := h.pv
 cases this with
 | tuple vs l h hr => exact ⟨vs, rfl, h, hr⟩
theorem HRel.one (ℓ : Nat) (hH : HRel w S μ H) {w' : World} (h1 : w'.heap.size = w.heap.size + 1) (h2 : ∀ k, k < w.heap.size → w'.heap[k]? = w.heap[k]?) (ho : w'.os = w.os) (ht : w'.tape = w.tape) (hp : w'.output = w.output) :
  HRel w' (fun b => S b ∨ b = w.heap.size) μ H ∧ Ev ℓ w S μ w' (fun b => S b ∨ b = w.heap.size) μ := by
 have hw : ∀ b, S b → w'.heap[b]? = w.heap[b]? := fun b hb => h2 b (hH.slt b hb)
 have hsh : ∀ b y, w.shape? b = some y → w'.shape? b = some y := fun b y h => by
  have hb : b < w.heap.size := by
   rcases Nat.lt_or_ge b w.heap.size with h' | h'
   ·exact h'
   ·simp [World.shape?, Array.getElem?_eq_none h'] at h
  unfold World.shape? at h ⊢
  rw [h2 b hb]; exact h
 constructor
 ·refine ⟨fun n b hb t0 b0 hb0 => ?_, hH.bnd, hH.disj, fun n t b h => ?_, fun b h => ?_, hH.glb.mono (fun b h => .inl h) hw⟩
  ·refine (hH.blk n b hb t0 b0 hb0).mono (fun b h => .inl h) hw hsh (fun _ _ _ _ h => h) (fun _ => rfl) (fun t b' h' => h2 b' (hH.lt _ _ _ h')) (fun t b' h' hs => ?_)
   rcases hs with hs | hs
   ·exact hs
   ·have := hH.lt _ _ _ h'; omega
  ·have := hH.lt n t b h; omega
  ·rcases h with h | h
   ·have := hH.slt b h; omega
   ·omega
 ·exact ⟨ho, ht, hp, by omega, fun b h => .inl h, fun b hb _ => h2 b hb, hsh, fun b r h => ⟨r, by rw [h2 b (Array.getElem?_eq_some_iff.1 h).1]; exact h⟩, fun _ _ _ _ h => h, fun n t b h _ => ⟨n, t, h⟩,
   fun b h hb => by rcases h with h | h; exact .inl h; omega⟩
theorem bytes_sound {src dst e : TypeId} {u : TypeDesc} {str : ByteArray} {l : List UInt8} (hH : HRel w S μ H) (h1 : P.underlying src = some u) (h2 : P.underlying dst = some (.slice e)) (hu : P.underlying e = some (.int .u8)) (hl : str.data.toList = l) :
  OpOk ℓ w S μ H ((do pure (Next.value (← convert src dst (.string str))) : Sem Next).run P w) (.pure (.slice (l.map fun b => [.int .u8 b.toNat]))) H := by
 subst hl
 have hrun := Lib.run_convert_string_bytes (P := P) w src dst e str h1 h2 hu
 obtain ⟨a1, a2⟩ := hH.one ℓ (w' := Lib.bytesWorld w e str) (Lib.bytesWorld_size w e str) (fun k hk => Lib.bytesWorld_at_old w e str k hk) (by simp [Lib.bytesWorld, World.freeze, World.alloc, World.drew, -World.alloc_eq, -World.drew_eq]) (by simp [Lib.bytesWorld, World.freeze, World.alloc, World.drew, -World.alloc_eq, -World.drew_eq]) (by simp [Lib.bytesWorld, World.freeze, World.alloc, World.drew, -World.alloc_eq, -World.drew_eq])
 refine ⟨_, _, _, _, μ, by simp [hrun]; rfl, .inl rfl, ?_, a1, a2, rfl⟩
 have hlen : (str.data.toList.map fun b => [PV.int .u8 (b.toNat : Int)]).length = str.size := by simp
 by_cases h0 : str.data.toList = []
 ·rw [h0]
  have : str.size = 0 := by rw [← hlen, h0]; rfl
  rw [this]
  exact .pure _ _ (.slice0 _ _)
 ·have := PRep.slice (w := Lib.bytesWorld w e str) (S := fun b => S b ∨ b = w.heap.size) w.heap.size 0 (grownCap w str.size 0 e) 1 (str.data.toList.map fun b => [PV.int .u8 (b.toNat : Int)]) (fun i _ => .int .u8 (str.data.toList.getD i 0).toNat) (.inr rfl) (by omega)
   (fun r hr => by obtain ⟨b, _, rfl⟩ := List.mem_map.1 hr; rfl) (fun i j hi hj => by
    have : j = 0 := by omega
    subst this
    have := Lib.bytesWorld_cell w e str i (by omega)
    simpa using this) (fun _ _ _ _ => rfl) (fun i j hi hj => by
    have : j = 0 := by omega
    subst this
    have hi' : i < str.data.toList.length := by simpa using hi
    simp only [List.getD_eq_getElem?_getD, List.getElem?_map, List.getElem?_eq_getElem hi', Option.map_some, Option.getD_some, List.getElem?_cons_zero]
    exact .int _ _) (by rw [hlen]; exact grownCap_ge w str.size 0 e)
  rw [hlen] at this
  exact .pure _ _ this
theorem allocE_sound (K : Ctx) {d : Nat} {t : TypeId} {z : GV} {cs : List GV} {nm : Nm} {H' : Heap} (hH : HRel w S μ H) (hz : tzero K.P t = some z) (hc : cellsO z = some cs)
  (h : gnewE K H (H.length - 1) t d (.box cs) = some (nm, H')) :
  OpOk ℓ w S μ H ((do pure (Next.value (← Instr.alloc t true (.tuple #[]))) : Sem Next).run K.P w) (.bptr nm 0) H' := by
 unfold gnewE at h
 split at h
 ·obtain ⟨rfl, hl, hg, rfl, ht⟩ := gnewT_some h
  obtain ⟨v, h1, rfl⟩ := r_zero (P := K.P) w hz
  have hc' := cellsO_rel (ofConst_rel (w := w) (S := S) (μ := μ) (ℓ := H.length - 1) v) hc
  have := new_boxE (ℓ := ℓ) (t := t) hH hc' (Nat.le_refl _) rfl hl hg (ht t)
  simpa [Instr.alloc, h1, newVar, newRow] using this
 ·exact alloc_sound hH hz hc h
theorem gop_sound (K : Ctx) (hK : CtxOk K) {fn : FuncId} {o : Oper} {a : Act} {s : Slots} {v : GV} {H' : Heap} (hH : HRel w S μ H)
    (hs : ∀ t, VRel w S μ (H.length - 1) (a.tmps.getD t undef) (look s t)) (hgo : goCalls o = none) (h : gop K fn o s H = some (v, H')) : OpOk ℓ w S μ H ((execOp a.eval o).run K.P w) v H' := by
  obtain ⟨dst, op, type, pos, after, guard⟩ := o
  have hev := fun x => ev_rel hH.glb hs x
  unfold gop at h
  unfold execOp
  cases op with
  | move x =>
    simp only [Option.some.injEq, Prod.mk.injEq] at h ⊢
    obtain ⟨rfl, rfl⟩ := h
    exact .same hH (hev x)
  | assign x =>
    simp only [Option.some.injEq, Prod.mk.injEq] at h ⊢
    obtain ⟨rfl, rfl⟩ := h
    exact .same hH (hev x)
  | pick c x y =>
    simp only at h ⊢
    split at h
    · rename_i b hb
      have hc := hev c
      rw [hb] at hc
      simp only [Option.some.injEq, Prod.mk.injEq] at h
      obtain ⟨rfl, rfl⟩ := h
      rw [hc.bool_inv]
      cases b with
      | true => exact .of hH (by simpa using hev x) (by simp [asBool])
      | false => exact .of hH (by simpa using hev y) (by simp [asBool])
    · cases h
  | alloc t =>
    simp only at h ⊢
    split at h
    · rename_i d z hz
      split at h
      · rename_i cs hcs
        split at h
        · rename_i nm H1 hnew
          simp only [Option.some.injEq, Prod.mk.injEq] at h
          obtain ⟨rfl, rfl⟩ := h
          exact allocE_sound K hH ‹tzero K.P t = some _› hcs hnew
        · cases h
      · cases h
    · cases h
  | box t x =>
    simp only at h ⊢
    split at h
    · rename_i d cs hcs
      split at h
      · rename_i nm H1 hnew
        simp only [Option.some.injEq, Prod.mk.injEq] at h
        obtain ⟨rfl, rfl⟩ := h
        exact box_sound hH (hev x) hcs hnew
      · cases h
    · cases h
  | build t parts =>
    simp only at h ⊢
    split at h
    · rename_i z hz
      split at h
      · rename_i zs hzs
        split at h
        · rename_i cs hcs
          simp only [Option.some.injEq, Prod.mk.injEq] at h
          obtain ⟨rfl, rfl⟩ := h
          exact build_sound hH hs hz hzs hcs
        · cases h
      · cases h
    · cases h
  | buildSlice t len parts =>
    simp only at h ⊢
    split at h
    · rename_i e hu
      split at h
      · rename_i size z hsz hz
        split at h
        · rename_i zs hzs
          split at h
          · rename_i hc
            split at h
            · rename_i cs hcs
              split at h
              · rename_i h0
                simp only [Option.some.injEq, Prod.mk.injEq] at h
                obtain ⟨rfl, rfl⟩ := h
                have := lits_sound (ℓ := ℓ) hH hs hu hsz hz hzs hc.1 hc.2.1 hc.2.2 hcs
                rwa [if_pos h0] at this
              · rename_i h0
                split at h
                · rename_i ps hps
                  split at h
                  · rename_i d
                    split at h
                    · split at h
                      · rename_i nm H1 hnew
                        simp only [Option.some.injEq, Prod.mk.injEq] at h
                        obtain ⟨rfl, rfl⟩ := h
                        exact ownLit_sound hH hs hu hsz hz hzs hc.1 hc.2.1 hc.2.2 hcs hps hnew
                      · cases h
                    · split at h
                      · simp only [Option.some.injEq, Prod.mk.injEq] at h
                        obtain ⟨rfl, rfl⟩ := h
                        have := lits_sound (ℓ := ℓ) hH hs hu hsz hz hzs hc.1 hc.2.1 hc.2.2 hcs
                        rwa [if_neg h0] at this
                      · simp only [Option.some.injEq, Prod.mk.injEq] at h
                        obtain ⟨rfl, rfl⟩ := h
                        exact lit_sound hH hs hu hsz hz hzs hc.1 hc.2.1 hc.2.2 hcs hps h0
                  · cases h
                · split at h
                  · rename_i d
                    split at h
                    · split at h
                      · rename_i nm H1 hnew
                        simp only [Option.some.injEq, Prod.mk.injEq] at h
                        obtain ⟨rfl, rfl⟩ := h
                        exact ownLits_sound hH hs hu hsz hz hzs hc.1 hc.2.1 hc.2.2 hcs hnew
                      · cases h
                    · simp only [Option.some.injEq, Prod.mk.injEq] at h
                      obtain ⟨rfl, rfl⟩ := h
                      have := lits_sound (ℓ := ℓ) hH hs hu hsz hz hzs hc.1 hc.2.1 hc.2.2 hcs
                      rwa [if_neg h0] at this
                  · simp only [Option.some.injEq, Prod.mk.injEq] at h
                    obtain ⟨rfl, rfl⟩ := h
                    have := lits_sound (ℓ := ℓ) hH hs hu hsz hz hzs hc.1 hc.2.1 hc.2.2 hcs
                    rwa [if_neg h0] at this
            · cases h
          · cases h
        · cases h
      · cases h
    · cases h
  | load t x =>
    simp only at h ⊢
    split at h
    · rename_i r hr
      simp only [Option.some.injEq, Prod.mk.injEq] at h
      obtain ⟨rfl, rfl⟩ := h
      exact .ofRun hH (Nat.le_refl _) (gload_sound hH (hev x) hr)
    · cases h
  | store t x y =>
    simp only at h ⊢
    split at h
    · rename_i H1 hr
      simp only [Option.some.injEq, Prod.mk.injEq] at h
      obtain ⟨rfl, rfl⟩ := h
      obtain ⟨w', S', μ', h1, h2, h3, h4⟩ := gstore_sound ℓ hH (hev x) (hev y) hr
      exact ⟨.skip, undef, w', S', μ', by simp [h1], .inr ⟨rfl, rfl⟩, vdead _, h2, h3, h4⟩
    · cases h
  | nilCheck x =>
    simp only at h ⊢
    have hx := hev x
    split at h
    all_goals first | (cases h; done) | skip
    all_goals
      rename_i he
      simp only [Option.some.injEq, Prod.mk.injEq] at h
      obtain ⟨rfl, rfl⟩ := h
      rw [he] at hx
      refine .of hH hx ?_
    all_goals generalize a.eval x = y at hx ⊢
    all_goals first | (cases hx; rfl; done) | (have hp := hx.pv; cases hp; rfl)
  | binOp op t x y z =>
    simp only at h ⊢
    split at h
    · rename_i p hp
      simp only [Option.some.injEq, Prod.mk.injEq] at h
      obtain ⟨rfl, rfl⟩ := h
      have hb : ∃ u, (eqGuard op t x y (a.eval x) (a.eval y)).run K.P w = .ok () w ∧ (binOp op t (a.eval x) (a.eval y)).run K.P w = .ok u w ∧ PRep w S u p := by
        unfold gbinN at hp
        split at hp
        · rename_i hn
          obtain rfl := isNilC_eq hn
          exact gnilEq_sound K (hev x) hp
        split at hp
        · rename_i hn
          have := gnilI_sound K (x := x) hn (hev x) hp
          obtain rfl := isNilI_eq hn
          exact this
        · exact gbin_sound K hK (x := x) (y := y) (hev x) (hev y) hp
      obtain ⟨u, h1, h2, h3⟩ := hb
      exact .of hH (.pure _ _ h3) (by simp [h1, h2])
    · cases h
  | unOp op t x =>
    simp only at h ⊢
    have hx := hev x
    split at h
    · rename_i b he
      simp only [Option.some.injEq, Prod.mk.injEq] at h
      obtain ⟨rfl, rfl⟩ := h
      rw [he] at hx; rw [hx.bool_inv]
      exact .of hH (.pure _ _ (.bool _)) (by simp [Op.unary])
    · rename_i k n he
      simp only [Option.some.injEq, Prod.mk.injEq] at h
      obtain ⟨rfl, rfl⟩ := h
      rw [he] at hx; rw [hx.int_inv]
      exact .of hH (.pure _ _ (.int k (k.wrap (-n)))) (by simp [Op.unary, Op.intArith])
    · cases h
  | convert src d x =>
    simp only at h ⊢
    have hx := hev x
    split at h
    · rename_i k k' n h1 h2 he
      simp only [Option.some.injEq, Prod.mk.injEq] at h
      obtain ⟨rfl, rfl⟩ := h
      rw [he] at hx; rw [hx.int_inv]
      exact .of hH (.pure _ _ (.int _ _)) (by simp [convert, r_underlying w h1, r_underlying w h2, Conv.intToInt])
    · rename_i k l h1 h2 he
      simp only [Option.some.injEq, Prod.mk.injEq] at h
      obtain ⟨rfl, rfl⟩ := h
      rw [he] at hx
      obtain ⟨str, e1, e2⟩ := hx.str_inv
      rw [e1] at hx ⊢
      exact .of hH hx (by simp [convert, r_underlying w h1, r_underlying w h2])
    · rename_i e l h1 h2 he
      rw [he] at hx
      split at h
      · rename_i hu
        simp only [Option.some.injEq, Prod.mk.injEq] at h
        obtain ⟨rfl, rfl⟩ := h
        obtain ⟨str, e1, e2⟩ := hx.str_inv
        rw [e1]
        exact bytes_sound (P := K.P) hH h1 h2 hu e2
      · cases h
    · rename_i e rows h1 h2 he
      rw [he] at hx
      split at h
      · rename_i l hu hb
        split at h
        · cases h
        · rename_i h0
          simp only [Option.some.injEq, Prod.mk.injEq] at h
          obtain ⟨rfl, rfl⟩ := h
          obtain ⟨str, e1, rfl⟩ := toBytes_run (P := K.P) h1 hu h2 hx hb (by simpa using h0)
          exact .of hH (.pure _ _ (.str str)) (by simp [e1])
      · cases h
    · cases h
  | makeFunc f first cap =>
    cases f with
    | func f =>
      simp only [Option.some.injEq, Prod.mk.injEq] at h ⊢
      obtain ⟨rfl, rfl⟩ := h
      exact .of hH (mkFunc_rel (evs_rel hH.glb hs first).1 (evs_rel hH.glb hs cap).1 (evs_rel hH.glb hs first).2 (evs_rel hH.glb hs cap).2) (by simp [Instr.makeFunc])
    | _ => cases h
  | makeMap t r =>
    cases r with
    | some r => cases h
    | none =>
    simp only at h ⊢
    split at h
    · rename_i d
      split at h
      · rename_i nm H1 hnew
        simp only [Option.some.injEq, Prod.mk.injEq] at h
        obtain ⟨rfl, rfl⟩ := h
        obtain ⟨rfl, hl, hg, rfl⟩ := gnewAt_some hnew
        obtain ⟨h1, h2⟩ := hH.new ℓ hg hl (.map #[] 0) 0 (.map []) (by
          refine ⟨w.heap.size, #[], 0, Mu.upd_self _ _ _ _, fun h => ?_, alloc_new w _, rfl, fun j hj => by simp at hj⟩
          have := hH.slt _ h; omega)
        exact ⟨.value (.map (some w.heap.size)), _, _, S, _, by simp [Instr.makeMap], .inl rfl, .map _ _ (by simp [Heap.length_set]) (Mu.upd_self _ _ _ _), h1, h2, Heap.length_set _ _ _⟩
      · cases h
    · cases h
  | makeSlice t l c =>
    simp only at h ⊢
    split at h
    · rename_i e hu
      split at h
      · rename_i size bytes z kl l' kc c' d hsz hby hz hl hc
        split at h
        · rename_i zs hzs
          split at h
          · rename_i ps hps
            split at h
            · rename_i hcond
              obtain ⟨c1, c2, c3, c4, c5, c6⟩ := hcond
              split at h
              · rename_i nm H1 hnew
                simp only [Option.some.injEq, Prod.mk.injEq] at h
                obtain ⟨rfl, rfl⟩ := h
                have h1 := hev l
                have h2 := hev c
                rw [hl] at h1; rw [hc] at h2
                rw [h1.int_inv, h2.int_inv]
                exact makeSlice_sound hH hu hsz hby hz hzs hps c1 c2 c3 c4 c5 c6 hnew
              · cases h
            · cases h
          · cases h
        · cases h
      · cases h
    · cases h
  | slice t x lo hi mx =>
    simp only at h ⊢
    split at h
    · rename_i r hr
      simp only [Option.some.injEq, Prod.mk.injEq] at h
      obtain ⟨rfl, rfl⟩ := h
      exact .ofRun hH (Nat.le_refl _) (slice_sound K hH.glb hs (hev x) hr)
    · cases h
  | fieldAddr st x f =>
    simp only at h ⊢
    split at h
    · rename_i off ft hf
      split at h
      · rename_i size hsz
        split at h
        · cases h
        · rename_i h0
          split at h
          · rename_i r hr
            simp only [Option.some.injEq, Prod.mk.injEq] at h
            obtain ⟨rfl, rfl⟩ := h
            exact .ofRun hH (Nat.le_refl _) (fieldAddr_sound (hev x) hf hsz h0 hr)
          · cases h
      · cases h
    · cases h
  | field t x f =>
    simp only at h ⊢
    split at h
    · rename_i off ft hf
      have hx := hev x
      split at h
      · rename_i ag size cs ha hsz he
        rw [he] at hx
        split at h
        · rename_i hle
          have key : ∃ r, (if off + size ≤ cs.length then (if ag then some (mkAgg ((cs.drop off).take size)) else cs[off]?) else none) = some r ∧ (r, H) = (v, H') := by
            rw [if_pos hle]
            cases ag with
            | true => simp at h ⊢; exact h
            | false =>
              simp at h ⊢
              split at h
              · rename_i q hq; simp at h; exact ⟨q, hq, h⟩
              · cases h
          obtain ⟨r, k1, k2⟩ := key
          simp only [Prod.mk.injEq] at k2
          obtain ⟨rfl, rfl⟩ := k2
          exact .ofRun hH (Nat.le_refl _) (field_sound hx hf ha hsz k1)
        · cases h
      · rename_i ag size cs ha hsz he
        rw [he] at hx
        split at h
        · rename_i hle
          have key : ∃ r, (if off + size ≤ cs.length then (if ag then some (GV.pure (.agg ((cs.drop off).take size))) else (match cs[off]? with | some p => some (.pure p) | none => none)) else none) = some r ∧ (r, H) = (v, H') := by
            rw [if_pos hle]
            cases ag with
            | true => simp at h ⊢; exact h
            | false =>
              simp at h ⊢
              split at h
              · rename_i q hq; simp at h; simp [hq]; exact h
              · cases h
          obtain ⟨r, k1, k2⟩ := key
          simp only [Prod.mk.injEq] at k2
          obtain ⟨rfl, rfl⟩ := k2
          exact .ofRun hH (Nat.le_refl _) (field_sound hx hf ha hsz k1)
        · cases h
      · cases h
    · cases h
  | indexAddr t x i =>
    simp only at h ⊢
    split at h
    · rename_i r hr
      simp only [Option.some.injEq, Prod.mk.injEq] at h
      obtain ⟨rfl, rfl⟩ := h
      exact .ofRun hH (Nat.le_refl _) (indexAddr_sound K (hev x) (hev i) hr)
    · cases h
  | index t x i =>
    simp only at h ⊢
    split at h
    · rename_i r hr
      simp only [Option.some.injEq, Prod.mk.injEq] at h
      obtain ⟨rfl, rfl⟩ := h
      exact .ofRun hH (Nat.le_refl _) (index_sound K (hev x) (hev i) hr)
    · cases h
  | lookup t x k ok =>
    simp only at h ⊢
    split at h
    · rename_i r hr
      simp only [Option.some.injEq, Prod.mk.injEq] at h
      obtain ⟨rfl, rfl⟩ := h
      exact .ofRun hH (Nat.le_refl _) (lookup_sound K hK hH (hev x) (hev k) hr)
    · cases h
  | mapUpdate t m k x =>
    simp only at h ⊢
    split at h
    · rename_i H1 hr
      simp only [Option.some.injEq, Prod.mk.injEq] at h
      obtain ⟨rfl, rfl⟩ := h
      exact mapUpdate_sound K hK hH (hev m) (hev k) (hev x) hr
    · cases h
  | insert t m k x =>
    simp only at h ⊢
    split at h
    · rename_i H1 hr
      simp only [Option.some.injEq, Prod.mk.injEq] at h
      obtain ⟨rfl, rfl⟩ := h
      exact mapUpdate_sound K hK hH (hev m) (hev k) (hev x) hr
    · cases h
  | extract t ix =>
    simp only at h ⊢
    have hx := hev t
    split at h
    · rename_i l he
      rw [he] at hx
      obtain ⟨vs, e1, e2, e3⟩ := tuple_inv hx
      split at h
      · rename_i q hq
        simp only [Option.some.injEq, Prod.mk.injEq] at h
        obtain ⟨rfl, rfl⟩ := h
        have hlt : ix < l.length := by rcases Nat.lt_or_ge ix l.length with h | h; exact h; rw [List.getElem?_eq_none h] at hq; cases hq
        have := e3 ix hlt
        rw [List.getD_eq_getElem?_getD, hq] at this
        have hv : vs[ix]? = some (vs.getD ix undef) := by simp [Array.getD_eq_getD_getElem?, show ix < vs.size by omega]
        rw [e1]
        exact .of hH this (by simp only [Instr.extract, hv]; rfl)
      · cases h
    · rename_i l he
      rw [he] at hx
      obtain ⟨vs, e1, e2, e3⟩ := tuple_pure_inv hx
      split at h
      · rename_i q hq
        simp only [Option.some.injEq, Prod.mk.injEq] at h
        obtain ⟨rfl, rfl⟩ := h
        have hlt : ix < l.length := by rcases Nat.lt_or_ge ix l.length with h | h; exact h; rw [List.getElem?_eq_none h] at hq; cases hq
        have := e3 ix hlt
        rw [List.getD_eq_getElem?_getD, hq] at this
        have hv : vs[ix]? = some (vs.getD ix undef) := by simp [Array.getD_eq_getD_getElem?, show ix < vs.size by omega]
        rw [e1]
        exact .of hH (.pure _ _ this) (by simp only [Instr.extract, hv]; rfl)
      · cases h
    · cases h
  | call c =>
    obtain ⟨callee, args, argTypes⟩ := c
    have hargs : ∀ (j : Nat) (x : Operand), args[j]? = some x → (args.map a.eval)[j]? = some (a.eval x) := fun j x h => by simp [h]
    cases callee with
    | value f => simp [goCalls] at hgo
    | invoke r n => cases h
    | builtin b =>
      cases b with
      | len =>
        simp only at h ⊢
        split at h
        · rename_i t x ht hx
          split at h
          · rename_i n hn
            simp only [Option.some.injEq, Prod.mk.injEq] at h
            obtain ⟨rfl, rfl⟩ := h
            have := len_sound K hH (ty := type) (hev x) ht (hargs 0 x hx) hn
            refine .of hH (.pure _ _ (.int .i64 n)) ?_
            simp [resolve, invoke, builtin, this]
          · cases h
        · cases h
      | append =>
        simp only at h ⊢
        split at h
        · rename_i t x y d ht hx hy
          split at h
          · rename_i hsp
            have h1 := hargs 0 x hx
            have h2 := hargs 1 y hy
            have e : Builtin.append_ argTypes type (args.map a.eval) = Builtin.append_ argTypes type #[a.eval x, a.eval y] := by
              unfold Builtin.append_
              rw [h1, h2]; rfl
            split at h
            · split at h
              · rename_i l hl
                have := gappend_sound (ℓ := ℓ) K (ty := type) hH (hev x) (hev y) rfl ht hsp h
                simpa [resolve, invoke, builtin, e] using this
              · cases h
            · split at h
              · rename_i bn hbn
                obtain ⟨tb, off, _, hlk⟩ := upBox_some hbn
                have hvb := hs tb
                rw [hlk] at hvb
                have := gappendR_sound (ℓ := ℓ) K (ty := type) hH hvb (hev x) (hev y) rfl ht hsp h
                simpa [resolve, invoke, builtin, e] using this
              · cases h
          · cases h
        · cases h
      | clear =>
        simp only at h ⊢
        split at h
        · rename_i t x ht hx
          split at h
          · rename_i H1 hn
            simp only [Option.some.injEq, Prod.mk.injEq] at h
            obtain ⟨rfl, rfl⟩ := h
            obtain ⟨w', r1, r2, r3, r4⟩ := gclear_sound (ℓ := ℓ) K (ty := type) hH (hev x) ht (hargs 0 x hx) hn
            exact ⟨.value (.tuple #[]), _, w', S, μ, by simp [resolve, invoke, builtin, r1], .inl rfl, .pure _ _ (.tuple #[] [] rfl (fun j hj => by simp at hj)), r2, r3, r4⟩
          · cases h
        · cases h
      | min =>
        simp only at h ⊢
        split at h
        · rename_i r hr
          simp only [Option.some.injEq, Prod.mk.injEq] at h
          obtain ⟨rfl, rfl⟩ := h
          obtain ⟨e1, e2⟩ := evs_rel hH.glb hs args
          obtain ⟨v0, rest, kd, n, f1, f2, f3⟩ := minmax_sound (P := K.P) (w := w) (mx := false) (args.toList.map (ev s)) (args.map a.eval).toList _ (by simp) (fun j hj => by rw [← agetD]; exact e2 j hj) hr
          subst f2
          refine .of hH (.pure _ _ (.int kd n)) ?_
          have : (Builtin.min_ argTypes type (args.map a.eval)).run K.P w = .ok (.int kd n) w := by simp only [Builtin.min_, f1]; simpa using f3
          simp [resolve, invoke, builtin, this]
        · cases h
      | max =>
        simp only at h ⊢
        split at h
        · rename_i r hr
          simp only [Option.some.injEq, Prod.mk.injEq] at h
          obtain ⟨rfl, rfl⟩ := h
          obtain ⟨e1, e2⟩ := evs_rel hH.glb hs args
          obtain ⟨v0, rest, kd, n, f1, f2, f3⟩ := minmax_sound (P := K.P) (w := w) (mx := true) (args.toList.map (ev s)) (args.map a.eval).toList _ (by simp) (fun j hj => by rw [← agetD]; exact e2 j hj) hr
          subst f2
          refine .of hH (.pure _ _ (.int kd n)) ?_
          have : (Builtin.max_ argTypes type (args.map a.eval)).run K.P w = .ok (.int kd n) w := by simp only [Builtin.max_, f1]; simpa using f3
          simp [resolve, invoke, builtin, this]
        · cases h
      | unsafeSliceData =>
        simp only at h ⊢
        split at h
        · rename_i x hx
          split at h
          · rename_i nm es top len he
            split at h
            · rename_i h0
              simp only [Option.some.injEq, Prod.mk.injEq] at h
              obtain ⟨rfl, rfl⟩ := h
              have hv := hev x
              rw [he] at hv
              obtain ⟨b, r1, r2⟩ := sliceData_run (P := K.P) (ts := argTypes) (ty := type) hv h0
              have ea : args.map a.eval = #[a.eval x] := by
                have : args = #[x] := by rw [← Array.toList_inj]; simpa using hx
                rw [this]; simp
              refine .of hH r2 ?_
              simp [resolve, invoke, builtin, ea, r1]
            · cases h
          · cases h
        · cases h
      | unsafeString =>
        simp only at h ⊢
        split at h
        · rename_i x y pt it hx ht
          have ea : args.map a.eval = #[a.eval x, a.eval y] := by
            have : args = #[x, y] := by rw [← Array.toList_inj]; simpa using hx
            rw [this]; simp
          have et : argTypes = #[pt, it] := by rw [← Array.toList_inj]; simpa using ht
          have := gunsafeStr_sound (ℓ := ℓ) K (ty := type) (it := it) hH (hev x) (hev y) h
          simpa [resolve, invoke, builtin, ea, et] using this
        · cases h
      | _ => cases h
  | _ => cases h
end
end
section
theorem CallsIn.fw {r r' : Option Nat} {n : Nat} {P : Program} {f : FuncId} {args : Array Value} {w : World} {R : Ending → World → Prop} (h : CallsIn (Fw r) n P f args w R) : CallsIn (Fw r') n P f args w R := h
def exitOf : GX → Exit
 | .normal => .normal
 | .exit id => .exit id
 | .ret => .ret
structure DefOk (base : Nat) (w : World) (S : Nat → Prop) (μ : Mu) (ds : List Deferred) : Prop where
 each : ∀ d ∈ ds, ∃ q, d.target = .collected q ∧ base ≤ q ∧ w.heap[q]? = some (.deferred (some [])) ∧ ¬ S q ∧ ∀ nm t, μ nm t ≠ some q
 apart : ds.Pairwise fun d d' => d.target ≠ d'.target
structure StOk (base : Nat) (r : Option Nat) (w : World) (S : Nat → Prop) (μ : Mu) (st : GSt) (a : Act) : Prop where
 heap : HRel w S μ st.h
 slots : ∀ t, VRel w S μ (st.h.length - 1) (a.tmps.getD t undef) (look st.s t)
 nt : a.tmps.size = st.nt
 pos : 0 < st.h.length
 low : base ≤ w.heap.size
 defs : DefOk base w S μ a.defers
 round : ∀ l, r = some l → ∃ q : Loop, w.heap[l]? = some (.loop q)
def Post (base : Nat) (r : Option Nat) (st : GSt) (w : World) (S : Nat → Prop) (μ : Mu) (e : GX) (st' : GSt) : Exit → Act → World → Prop := fun e' a' w' =>
 e' = exitOf e ∧ st'.h.length = st.h.length ∧ st'.nt = st.nt ∧ ∃ S' μ', StOk base r w' S' μ' st' a' ∧ Ev (st.h.length - 2) w S μ w' S' μ'
def RecOk (P : Program) (rec : Rec) : Prop := ∀ fn c st e st', rec fn c st = some (e, st') → ∀ base r w S μ a, StOk base r w S μ st a → c.wpIn (Fw r) 0 P (Post base r st w S μ e st') a w
section
variable {w w' : World} {S S' : Nat → Prop} {μ μ' : Mu} {H : Heap} {P : Program} {ℓ base : Nat} {r : Option Nat}
theorem DefOk.ev {ds : List Deferred} (h : DefOk base w S μ ds) (e : Ev ℓ w S μ w' S' μ') : DefOk base w' S' μ' ds where
 each := fun d hd => by
  obtain ⟨q, h1, h2, h3, h4, h5⟩ := h.each d hd
  have hlt : q < w.heap.size := (Array.getElem?_eq_some_iff.1 h3).1
  refine ⟨q, h1, h2, ?_, fun hs => ?_, fun nm t hm => ?_⟩
  ·rw [e.same q hlt (.inr h5)]; exact h3
  ·rcases e.snew q hs hlt with h | ⟨nm, t, h⟩
   ·exact h4 h
   ·exact h5 _ _ h
  ·obtain ⟨nm', t', h'⟩ := e.own nm t q hm hlt
   exact h5 _ _ h'
 apart := h.apart
theorem round_ev (h : ∀ l, r = some l → ∃ q : Loop, w.heap[l]? = some (.loop q)) (e : Ev ℓ w S μ w' S' μ') : ∀ l, r = some l → ∃ q : Loop, w'.heap[l]? = some (.loop q) := fun l hl => by
 obtain ⟨q, hq⟩ := h l hl
 exact e.lp l q hq
theorem slots_ev {a : Act} {s : Slots} {k k' : Nat} (h : ∀ t, VRel w S μ k (a.tmps.getD t undef) (look s t)) (hH : HRel w S μ H) (e : Ev ℓ w S μ w' S' μ') (hk : k ≤ ℓ) (hk' : k ≤ k') :
  ∀ t, VRel w' S' μ' k' (a.tmps.getD t undef) (look s t) := fun t => (e.val hH.slt hk (h t)).up hk'
theorem look_cons (d : Nat) (v : GV) (s : Slots) (t : Nat) : look ((d, v) :: s) t = if t = d then v else look s t := rfl
theorem put_getD (a : Act) (d : Nat) (u : Value) (t : Nat) (hd : d < a.tmps.size) : (a.put (some d) u).tmps.getD t undef = if t = d then u else a.tmps.getD t undef := by
 simp only [Act.put, Array.getD_eq_getD_getElem?]
 by_cases h : t = d
 ·subst h; simp [hd]
 ·rw [if_neg h, Array.getElem?_setIfInBounds_ne (Ne.symm h)]
theorem put_slots {a : Act} {s : Slots} {k nt : Nat} {dst : Option Tmp} {u : Value} {v : GV} (h : ∀ t, VRel w S μ k (a.tmps.getD t undef) (look s t)) (hn : a.tmps.size = nt)
  (hv : VRel w S μ k u v) {st st' : GSt} (hst : st.s = s) (hnt : st.nt = nt) (hp : st.put dst v = some st') :
  (∀ t, VRel w S μ k ((a.put dst u).tmps.getD t undef) (look st'.s t)) ∧ (a.put dst u).tmps.size = nt ∧ st'.nt = nt ∧ st'.h = st.h ∧ (a.put dst u).defers = a.defers := by
 cases dst with
 | none =>
  simp only [GSt.put, Option.some.injEq] at hp; subst hp; subst hst
  exact ⟨h, hn, hnt, rfl, rfl⟩
 | some d =>
  simp only [GSt.put] at hp
  split at hp
  ·rename_i hd
   simp only [Option.some.injEq] at hp; subst hp; subst hst; subst hnt
   refine ⟨fun t => ?_, by simpa [Act.put] using hn, rfl, rfl, rfl⟩
   rw [put_getD a d u t (by rw [hn]; exact hd), look_cons]
   split
   ·exact hv
   ·exact h t
  ·cases hp
theorem undef_rel {k : Nat} : VRel w S μ k undef gundef := .pure _ _ (.tuple #[] [] rfl (by simp))
theorem wanted_ok {all : List Oper} {s : Slots} {o : Oper} {b : Bool} {a : Act} {k : Nat} (h : ∀ t, VRel w S μ k (a.tmps.getD t undef) (look s t)) (hw : wantedG all s o = some b) :
  Region.wanted o (yielded all.toArray a.tmps) = b := by
 unfold wantedG at hw
 unfold Region.wanted
 cases hg : o.guard with
 | none => simpa [hg] using hw
 | some x =>
  obtain ⟨j, want⟩ := x
  simp only [hg] at hw ⊢
  split at hw
  ·rename_i oj hj
   split at hw
   ·rename_i d hd
    have hv := h d
    split at hw
    ·rename_i c hc
     rw [hc] at hv
     have e := hv.bool_inv
     have hin : a.tmps[d]? = some (.bool c) := by
      rw [Array.getD_eq_getD_getElem?] at e
      cases ht : a.tmps[d]? with
      | none => rw [ht] at e; simp [undef] at e
      | some v => rw [ht] at e; simpa using e
     simp only [Option.some.injEq] at hw; subst hw
     have : yielded all.toArray a.tmps j = some c := by simp [yielded, hj, hd, hin]
     rw [this]; rfl
    ·rename_i hc
     rw [hc] at hv
     obtain ⟨vs, e, _, _⟩ := tuple_pure_inv hv
     simp only [Option.some.injEq] at hw; subst hw
     have : yielded all.toArray a.tmps j = none := by
      simp only [yielded, List.getElem?_toArray, hj, Option.bind_some, hd]
      cases ht : a.tmps[d]? with
      | none => rfl
      | some v =>
       rw [Array.getD_eq_getD_getElem?, ht] at e
       simp only [Option.getD_some] at e; subst e; rfl
     rw [this]; rfl
    ·cases hw
   ·cases hw
  ·cases hw
def dropS (S : Nat → Prop) (μ : Mu) (L : Nat) : Nat → Prop := fun b => S b ∨ ∃ nm t, L ≤ nm.1 ∧ μ nm t = some b
def dropM (μ : Mu) (L : Nat) : Mu := fun nm t => if nm.1 < L then μ nm t else none
theorem dropM_some {L : Nat} {nm : Nm} {t b : Nat} (h : dropM μ L nm t = some b) : nm.1 < L ∧ μ nm t = some b := by
 unfold dropM at h
 split at h
 ·exact ⟨by assumption, h⟩
 ·cases h
theorem drop_ev {L : Nat} (hH : HRel w S μ H) (hl : ℓ < L) : Ev ℓ w S μ w (dropS S μ L) (dropM μ L) where
 os := rfl
 tape := rfl
 out := rfl
 size := Nat.le_refl _
 sub := fun b h => .inl h
 same := fun _ _ _ => rfl
 shp := fun _ _ h => h
 lp := fun b r h => ⟨r, h⟩
 mu := fun nm t b h1 h2 => by simp only [dropM]; rw [if_pos (by omega)]; exact h2
 own := fun nm t b h _ => ⟨nm, t, (dropM_some h).2⟩
 snew := fun b h _ => by
  rcases h with h | ⟨nm, t, _, h⟩
  ·exact .inl h
  ·exact .inr ⟨nm, t, h⟩
theorem drop_heap {fr : Fr} (hH : HRel w S μ (fr :: H)) : HRel w (dropS S μ H.length) (dropM μ H.length) H where
 blk := fun nm x hx t b hb => by
  obtain ⟨hlt, hb⟩ := dropM_some hb
  have hg : Heap.get (fr :: H) nm = some x := by
   show (if nm.1 = H.length then _ else _) = _
   rw [if_neg (by omega)]; exact hx
  refine (hH.blk nm x hg t b hb).mono (fun b h => .inl h) (fun _ _ => rfl) (fun _ _ h => h) (fun n t b hn hm => ?_) (fun t => ?_) (fun _ _ _ => rfl) (fun t' b' hm hs => ?_)
  ·simp only [dropM]; rw [if_pos (by omega)]; exact hm
  ·simp only [dropM]; rw [if_pos hlt]
  ·rcases hs with hs | ⟨n, t2, hn, h2⟩
   ·exact hs
   ·have := hH.disj _ _ _ _ _ hm h2
    subst this; omega
 bnd := fun nm t b hb => by
  obtain ⟨hlt, hb⟩ := dropM_some hb
  obtain ⟨x, hx⟩ := hH.bnd nm t b hb
  have hg : Heap.get (fr :: H) nm = Heap.get H nm := by
   show (if nm.1 = H.length then _ else _) = _
   rw [if_neg (by omega)]
  exact ⟨x, by rw [← hg]; exact hx⟩
 disj := fun nm nm' t t' b h h' => hH.disj _ _ _ _ _ (dropM_some h).2 (dropM_some h').2
 lt := fun nm t b h => hH.lt _ _ _ (dropM_some h).2
 slt := fun b h => by
  rcases h with h | ⟨nm, t, _, h⟩
  ·exact hH.slt b h
  ·exact hH.lt _ _ _ h
 glb := hH.glb.mono (fun b h => .inl h) (fun _ _ => rfl)
theorem drop_val {k : Nat} {v : Value} {g : GV} (hH : HRel w S μ H) {l0 : Nat} (hv : VRel w S μ k v g) : VRel w (dropS S μ (l0 + 1)) (dropM μ (l0 + 1)) l0 v (clean H l0 g) := by
 have := clean_rel (S' := dropS S μ (l0 + 1)) (l0 := l0) hH hv (fun b h => .inl h) (fun nm t b h1 h2 => .inr ⟨nm, t, h1, h2⟩)
 exact this.mono (fun _ h => h) (fun _ _ => rfl) (fun _ _ h => h) (fun nm t b h1 h2 => by simp only [dropM]; rw [if_pos (by omega)]; exact h2) (Nat.le_refl _)
theorem look_clean (l0 : Nat) (t : Nat) : ∀ s : Slots, look (cleanSlots H l0 s) t = clean H l0 (look s t) ∨ look (cleanSlots H l0 s) t = gdead
  | [] => .inr rfl
  | (d, v) :: s => by
    simp only [cleanSlots, look_cons]
    split
    · exact .inl rfl
    · exact look_clean l0 t s
theorem look_keep (s : Slots) (t : Nat) : ∀ l : List Nat, look (keepSlots s l) t = look s t ∨ look (keepSlots s l) t = gdead
 | [] => .inr rfl
 | d :: l => by
  simp only [keepSlots, look_cons]
  split
  ·rename_i h; subst h; exact .inl rfl
  ·exact look_keep s t l
theorem keep_slots {a : Act} {s : Slots} {k : Nat} (h : ∀ t, VRel w S μ k (a.tmps.getD t undef) (look s t)) (l : List Nat) : ∀ t, VRel w S μ k (a.tmps.getD t undef) (look (keepSlots s l) t) := fun t => by
 rcases look_keep s t l with e | e
 ·rw [e]; exact h t
 ·rw [e]; exact vdead _
theorem gscope_ok {ks : Option (List Nat)} {st st' : GSt} {a : Act} (h : StOk base r w S μ st a) (hs : gscope ks st = some st') :
  st'.h.length + 1 = st.h.length ∧ st'.nt = st.nt ∧ ∃ S' μ', StOk base r w S' μ' st' a ∧ Ev (st'.h.length - 1) w S μ w S' μ' := by
 unfold gscope at hs
 split at hs
 ·rename_i fr H hh
  split at hs
  ·cases hs
  ·rename_i h0
   simp only [Option.some.injEq] at hs; subst hs
   have hH : HRel w S μ (fr :: H) := hh ▸ h.heap
   have e1 : H.length - 1 + 1 = H.length := by omega
   have hev : Ev (H.length - 1) w S μ w (dropS S μ H.length) (dropM μ H.length) := drop_ev hH (by omega)
   refine ⟨by simp [hh], rfl, _, _, ⟨drop_heap hH, fun t => ?_, h.nt, by simp; omega, h.low, h.defs.ev hev, h.round⟩, hev⟩
   have hb : ∀ t, VRel w S μ (st.h.length - 1) (a.tmps.getD t undef) (look (keepO ks st.s) t) := by
    intro t
    cases ks with
    | none => exact h.slots t
    | some l => exact keep_slots h.slots l t
   show VRel _ _ _ (H.length - 1) _ (look (cleanSlots (fr :: H) (H.length - 1) (keepO ks st.s)) t)
   rcases look_clean (H := fr :: H) (H.length - 1) t (keepO ks st.s) with e | e
   ·rw [e]
    have := drop_val hH (l0 := H.length - 1) (hb t)
    rw [e1] at this; exact this
   ·rw [e]; exact vdead _
 ·cases hs
theorem HRel.skip (ℓ : Nat) (hH : HRel w S μ H) (o : Obj) : HRel (w.alloc o) S μ H ∧ Ev ℓ w S μ (w.alloc o) S μ := by
 have hw : ∀ b, S b → (w.alloc o).heap[b]? = w.heap[b]? := fun b hb => alloc_heap w o b (hH.slt b hb)
 constructor
 ·refine ⟨fun n b hb t0 b0 hb0 => ?_, hH.bnd, hH.disj, fun n t b h => ?_, fun b h => ?_, hH.glb.mono (fun _ h => h) hw⟩
  ·exact (hH.blk n b hb t0 b0 hb0).mono (fun b h => h) hw (alloc_shp w o) (fun _ _ _ _ h => h) (fun _ => rfl) (fun t b' h' => alloc_heap w o b' (hH.lt _ _ _ h')) (fun t b' h' hs => hs)
  ·have := hH.lt n t b h; rw [alloc_size]; omega
  ·have := hH.slt b h; rw [alloc_size]; omega
 ·exact ⟨rfl, rfl, rfl, by rw [alloc_size]; omega, fun _ h => h, fun b hb _ => alloc_heap w o b hb, alloc_shp w o, alloc_lp w o, fun _ _ _ _ h => h, fun nm t b h _ => ⟨nm, t, h⟩, fun b h _ => .inl h⟩
theorem poke_shp {q : Nat} {x : Option (List Deferred)} {o : Obj} (hq : w.heap[q]? = some (.deferred x)) (b : Nat) (y : TypeId × Nat) (h : w.shape? b = some y) : (w.putObj q o).shape? b = some y := by
 unfold World.shape? at h ⊢
 by_cases e : b = q
 ·subst e; rw [hq] at h; simp at h
 ·rw [World.putObj_heap_other e]; exact h
theorem HRel.poke {q : Nat} {x : Option (List Deferred)} {o : Obj} (hH : HRel w S μ H) (hq : w.heap[q]? = some (.deferred x)) (hS : ¬ S q) (hm : ∀ nm t, μ nm t ≠ some q) :
  HRel (w.putObj q o) S μ H := by
 have hw : ∀ b, S b → (w.putObj q o).heap[b]? = w.heap[b]? := fun b hb => World.putObj_heap_other fun e => hS (e ▸ hb)
 refine ⟨fun n b hb t0 b0 hb0 => ?_, hH.bnd, hH.disj, fun n t b h => ?_, fun b h => ?_, hH.glb.mono (fun _ h => h) hw⟩
 ·exact (hH.blk n b hb t0 b0 hb0).mono (fun b h => h) hw (poke_shp hq) (fun _ _ _ _ h => h) (fun _ => rfl) (fun t b' h' => World.putObj_heap_other fun e => hm _ _ (e ▸ h')) (fun t b' h' hs => hs)
 ·rw [World.putObj_size]; exact hH.lt n t b h
 ·rw [World.putObj_size]; exact hH.slt b h
theorem Ev.poke {w0 : World} {S0 : Nat → Prop} {μ0 : Mu} {q : Nat} {x : Option (List Deferred)} {o : Obj} (h : Ev ℓ w0 S0 μ0 w S μ) (hq : w.heap[q]? = some (.deferred x)) (hb : w0.heap.size ≤ q) :
  Ev ℓ w0 S0 μ0 (w.putObj q o) S μ where
 os := h.os
 tape := h.tape
 out := h.out
 size := by rw [World.putObj_size]; exact h.size
 sub := h.sub
 same := fun b hb' ho => by rw [World.putObj_heap_other (by omega)]; exact h.same b hb' ho
 shp := fun b y hy => poke_shp hq b y (h.shp b y hy)
 lp := fun b r hr => by
  obtain ⟨r', hr'⟩ := h.lp b r hr
  refine ⟨r', ?_⟩
  rw [World.putObj_heap_other (fun e => by subst e; rw [hq] at hr'; cases hr')]; exact hr'
 mu := h.mu
 own := h.own
 snew := h.snew
end
end
section
section
variable {w w' : World} {S S' : Nat → Prop} {μ μ' : Mu} {H : Heap} {P : Program} {ℓ base : Nat}
theorem newKey_inj {c k k' : Nat} (h : newKey c k = newKey c k') : k = k' := by unfold newKey at h; omega
theorem newKey_sub (c k : Nat) : (newKey c k - (c + 1)) / 4096 = k := by unfold newKey; omega
theorem newKey_le (c k : Nat) : c + 1 ≤ newKey c k ∧ (newKey c k - (c + 1)) % 4096 = 0 := by unfold newKey; omega
theorem mem_dedup {x : Nat} : ∀ l : List Nat, x ∈ dedup l ↔ x ∈ l
 | [] => by simp [dedup]
 | k :: r => by
  unfold dedup
  split
  ·rename_i h
   rw [mem_dedup r]
   simp only [List.contains_iff_mem] at h
   simp only [List.mem_cons]
   constructor
   ·exact .inr
   ·rintro (rfl | h')
    ·exact h
    ·exact h'
  ·simp only [List.mem_cons, mem_dedup r]
theorem nodup_dedup : ∀ l : List Nat, (dedup l).Nodup
 | [] => by simp [dedup]
 | k :: r => by
  unfold dedup
  split
  ·exact nodup_dedup r
  ·rename_i h
   simp only [List.contains_iff_mem] at h
   exact List.nodup_cons.2 ⟨fun h' => h ((mem_dedup r).1 h'), nodup_dedup r⟩
theorem moveOut_spec {cl : GV → GV} {f : Fr} {c : Nat} : ∀ (ks : List Nat) (H0 H' : Heap), ks.Nodup → H0.length = H.length → 0 < H.length → moveOut cl f H c ks H0 = some H' →
  H'.length = H.length ∧ (∀ k ∈ ks, ∃ b b', f.get k = some b ∧ cleanBlk cl [] (H.length - 1) b = some b' ∧ H'.get (H.length - 1, newKey c k) = some b' ∧ H0.get (H.length - 1, newKey c k) = none ∧ tyOk (newKey c k) b' = true) ∧
   ∀ nm, (∀ k ∈ ks, nm ≠ (H.length - 1, newKey c k)) → H'.get nm = H0.get nm
 | [], H0, H', _, hl, _, h => by
  simp only [moveOut, Option.some.injEq] at h; subst h
  exact ⟨hl, fun k hk => by simp at hk, fun _ _ => rfl⟩
 | k :: ks, H0, H', hn, hl, hp, h => by
  obtain ⟨n1, n2⟩ := List.nodup_cons.1 hn
  simp only [moveOut] at h
  split at h
  ·rename_i b hb
   split at h
   ·rename_i b' hc hg
    split at h
    case isFalse => cases h
    rename_i hty
    obtain ⟨q1, q2, q3⟩ := moveOut_spec ks _ H' n2 (by rw [Heap.length_set]; exact hl) hp h
    have hne : ∀ k' ∈ ks, ((H.length - 1, newKey c k) : Nm) ≠ (H.length - 1, newKey c k') := fun k' hk' e => by
     have := newKey_inj (Prod.mk.inj e).2
     subst this; exact n1 hk'
    refine ⟨q1, fun k' hk' => ?_, fun nm hnm => ?_⟩
    ·rcases List.mem_cons.1 hk' with rfl | hk'
     ·refine ⟨b, b', hb, hc, ?_, hg, hty⟩
      rw [q3 _ hne]
      exact Heap.get_set _ (by simp [hl]; omega)
     ·obtain ⟨x, x', x1, x2, x3, x4, x5⟩ := q2 k' hk'
      refine ⟨x, x', x1, x2, x3, ?_, x5⟩
      rw [Heap.get_set_other _ (Ne.symm (hne k' hk'))] at x4
      exact x4
    ·rw [q3 nm fun k' hk' => hnm k' (List.mem_cons_of_mem _ hk')]
     exact Heap.get_set_other _ (hnm k (List.mem_cons_self ..))
   ·cases h
  ·cases h
def moveS (S : Nat → Prop) (μ : Mu) (L : Nat) (ks : List Nat) : Nat → Prop := fun b => S b ∨ ∃ k t, k ∉ ks ∧ μ (L, k) t = some b
def moveM (μ : Mu) (L c : Nat) (ks : List Nat) : Mu := fun nm t => if nm.1 = L - 1 ∧ (c + 1 ≤ nm.2 ∧ (nm.2 - (c + 1)) % 4096 = 0) ∧ (nm.2 - (c + 1)) / 4096 ∈ ks then μ (L, (nm.2 - (c + 1)) / 4096) t else dropM μ L nm t
theorem moveM_new {L c k : Nat} {ks : List Nat} (h : k ∈ ks) (t : Nat) : moveM μ L c ks (L - 1, newKey c k) t = μ (L, k) t := by
 unfold moveM
 rw [if_pos ⟨rfl, newKey_le c k, by rw [newKey_sub]; exact h⟩, newKey_sub]
theorem moveM_cases {L c : Nat} {ks : List Nat} (nm : Nm) : (∃ k ∈ ks, nm = (L - 1, newKey c k) ∧ ∀ t, moveM μ L c ks nm t = μ (L, k) t) ∨ ((∀ k ∈ ks, nm ≠ (L - 1, newKey c k)) ∧ ∀ t, moveM μ L c ks nm t = dropM μ L nm t) := by
 by_cases h : nm.1 = L - 1 ∧ (c + 1 ≤ nm.2 ∧ (nm.2 - (c + 1)) % 4096 = 0) ∧ (nm.2 - (c + 1)) / 4096 ∈ ks
 ·refine .inl ⟨_, h.2.2, ?_, fun t => ?_⟩
  ·refine Prod.ext h.1 ?_
   have := h.2.1
   simp only [newKey]; omega
  ·unfold moveM; rw [if_pos h]
 ·refine .inr ⟨fun k hk e => h ?_, fun t => ?_⟩
  ·subst e
   exact ⟨rfl, newKey_le c k, by rw [newKey_sub]; exact hk⟩
  ·unfold moveM; rw [if_neg h]
theorem clean1_nil {k l0 : Nat} {v : Value} {g : GV} (hv : VRel w S μ k v g) : VRel w S μ l0 v (clean1 [] l0 g) :=
 clean1_gen hv (fun _ h => h) fun nm es top lo len e hl => by simp only [sliceOfM, sliceOf, Heap.get]; exact .dead _
theorem clean1_nils {k l0 : Nat} {vs : List Value} {gs : List GV} (h : CRel w S μ k vs gs) : CRel w S μ l0 vs (gs.map (clean1 [] l0)) := by
 induction h with
 | nil => exact .nil
 | cons h1 h2 _ ih => exact .cons h1 (clean1_nil h2) ih
theorem capP_nil {k l0 : Nat} {v : Value} {g g' : GV} (hv : VRel w S μ k v g) (h : capP [] l0 g = some g') : VRel w S μ l0 v g' := by
 cases hv with
 | pure _ p hp => simp only [capP, Option.some.injEq] at h; subst h; exact .pure _ _ hp
 | pptr b o cs f hS hf h1 hr => simp only [capP, Option.some.injEq] at h; subst h; exact .pptr b o cs f hS hf h1 hr
 | nils a => simp only [capP, Option.some.injEq] at h; subst h; exact .nils a
 | bptr nm off b h1 h2 =>
  simp only [capP, Heap.get] at h
  split at h
  ·simp only [Option.some.injEq] at h; subst h; exact .bptr nm off b ‹_› h2
  ·cases h
 | _ => simp [capP] at h
theorem capsP_nil {k l0 : Nat} : ∀ {gs gs' : List GV} {f : Nat → Value}, capsP [] l0 gs = some gs' → (∀ j, j < gs.length → VRel w S μ k (f j) (gs.getD j gdead)) → gs'.length = gs.length ∧ ∀ j, j < gs'.length → VRel w S μ l0 (f j) (gs'.getD j gdead)
 | [], gs', f, h, _ => by
  simp only [capsP, Option.some.injEq] at h
  subst h
  exact ⟨rfl, fun j hj => absurd hj (Nat.not_lt_zero _)⟩
 | g :: gs, gs', f, h, hr => by
  simp only [capsP] at h
  split at h
  ·rename_i g1 r1 e1 e2
   simp only [Option.some.injEq] at h
   subst h
   obtain ⟨a, b⟩ := capsP_nil (f := fun j => f (j + 1)) e2 (fun j hj => by simpa using hr (j + 1) (by simpa using hj))
   refine ⟨by simp [a], fun j hj => ?_⟩
   cases j with
   | zero => simpa using capP_nil (by simpa using hr 0 (by simp)) e1
   | succ j => simpa using b j (by simpa using hj)
  ·cases h
theorem clean2_nil {k l0 : Nat} {v : Value} {g : GV} (hv : VRel w S μ k v g) : VRel w S μ l0 v (clean2 [] l0 g) := by
 cases g with
 | agg l =>
  obtain ⟨vs, rfl, hc⟩ := hv.cells
  exact mkAgg_rel' (clean1_nils hc)
 | func f la lc =>
  simp only [clean2]
  split
  ·rename_i ha
   have := clean1_nil (l0 := l0) hv
   simpa only [clean1, ha, if_true] using this
  ·split
   ·rename_i hf
    split
    ·rename_i cap' hc
     cases hv with
     | func _ a c _ _ h1 h2 hr1 hr2 =>
      obtain ⟨e1, e2⟩ := capsP_nil hc hr2
      exact .func f a c la cap' h1 (by rw [e1]; exact h2) (allLe_rel hf hr1) e2
    ·exact vdead _
   ·exact vdead _
 | _ => exact clean1_nil hv
theorem move_blk {cl : GV → GV} {nm nm' : Nm} {x y : Blk} (hx : BlkRel w S μ nm x) (hcl : ∀ v g, VRel w S μ nm.1 v g → VRel w S' μ' nm'.1 v (cl g)) (hc : cleanBlk cl [] nm'.1 x = some y) (hS : ∀ b, S b → S' b) (hm : ∀ t, μ' nm' t = μ nm t)
  (hs : ∀ t b, μ nm t = some b → S' b → S b) (hmu : ∀ n t b, n.1 ≤ nm'.1 → μ n t = some b → μ' n t = some b) (hty : tyOk nm'.2 y = true) : BlkRel w S' μ' nm' y := by
 have vm : ∀ {v g}, VRel w S μ nm'.1 v g → VRel w S' μ' nm'.1 v g := fun h => h.mono hS (fun _ _ => rfl) (fun _ _ h => h) hmu (Nat.le_refl _)
 have cm : ∀ {v g}, CRel w S μ nm'.1 v g → CRel w S' μ' nm'.1 v g := fun h => h.mono hS (fun _ _ => rfl) (fun _ _ h => h) hmu (Nat.le_refl _)
 have pm : ∀ {v p}, PRep w S v p → PRep w S' v p := fun h => h.mono hS (fun _ _ => rfl)
 cases x with
 | box cs =>
  simp only [cleanBlk, Option.some.injEq] at hc; subst hc
  obtain ⟨b, c, e, h1, h2, h3, h4⟩ := hx
  refine ⟨b, c, tyE nm e, by rw [hm]; exact h1, fun h => h2 (hs _ _ h1 h), by rw [tyE_low (nm := nm') (by simpa [tyOk] using hty)]; exact h3, ?_⟩
  clear h3 hty
  generalize c.toList = l at h4
  induction h4 with
  | nil => exact .nil
  | cons k1 k2 _ ih => exact .cons k1 (hcl _ _ k2) ih
 | arr es elems vf ro =>
  simp only [cleanBlk, Option.some.injEq] at hc; subst hc
  obtain ⟨h0, h1, h2, ⟨b0, h3⟩, h4⟩ := hx
  refine ⟨h0, h1, h2, ⟨b0, by rw [hm]; exact h3⟩, fun top b hb' => ?_⟩
  rw [hm] at hb'
  obtain ⟨g1, ⟨c, e, g2⟩, g3, g4⟩ := h4 top b hb'
  refine ⟨g1, ⟨c, tyE nm e, by rw [tyE_low (nm := nm') (by simpa [tyOk] using hty)]; exact g2⟩, fun hr h => g3 hr (hs _ _ hb' h), fun hv => ?_⟩
  obtain ⟨k1, k2⟩ := g4 hv
  refine ⟨fun hr => hS _ (k1 hr), fun i j hi hj => ?_⟩
  obtain ⟨u, u1, u2, u3⟩ := k2 i j hi hj
  exact ⟨u, u1, u2, pm u3⟩
 | map es =>
  simp only [cleanBlk, Option.some.injEq] at hc; subst hc
  obtain ⟨b, ms, clock, h1, h2, h3, h4, h5⟩ := hx
  refine ⟨b, ms, clock, by rw [hm]; exact h1, fun h => h2 (hs _ _ h1 h), h3, by simpa using h4, fun j hj => ?_⟩
  have hj' : j < es.length := by simpa using hj
  obtain ⟨m, m1, m2, m3⟩ := h5 j hj'
  refine ⟨m, m1, ?_, ?_⟩
  ·simp only [List.getElem_map]; exact pm m2
  ·simp only [List.getElem_map]; exact vm (clean2_nil m3)
 | loop l => simp [cleanBlk] at hc
 | gone => simp [cleanBlk] at hc
 | mat es rows n =>
  simp only [cleanBlk, Option.some.injEq] at hc; subst hc
  exact MatRel.mono hS (fun _ _ => rfl) hm (fun _ _ _ => rfl) hs hx
theorem get_cons {fr : Fr} {nm : Nm} : Heap.get (fr :: H) nm = if nm.1 = H.length then fr.get nm.2 else H.get nm := rfl
theorem move_heap {fr : Fr} {c : Nat} {ks : List Nat} {H' : Heap} (hH : HRel w S μ (fr :: H)) (hp : 0 < H.length) (hn : ks.Nodup) (h : moveOut (clM c fr H ks (H.length - 1)) fr H c ks H = some H') :
  HRel w (moveS S μ H.length ks) (moveM μ H.length c ks) H' ∧ Ev (H.length - 1) w S μ w (moveS S μ H.length ks) (moveM μ H.length c ks) ∧ H'.length = H.length := by
 obtain ⟨q1, q2, q3⟩ := moveOut_spec ks H H' hn rfl hp h
 have hlow : ∀ nm t b, nm.1 < H.length → μ nm t = some b → moveM μ H.length c ks nm t = some b := fun nm t b hl hm => by
  rcases moveM_cases (μ := μ) (L := H.length) (c := c) (ks := ks) nm with ⟨k, hk, rfl, _⟩ | ⟨_, e⟩
  ·obtain ⟨_, _, _, _, _, x4, _⟩ := q2 k hk
   obtain ⟨y, hy⟩ := hH.bnd _ _ _ hm
   rw [get_cons, if_neg (by simp; omega), x4] at hy; cases hy
  ·rw [e, dropM, if_pos hl]; exact hm
 have hsub : ∀ b, S b → moveS S μ H.length ks b := fun b h => .inl h
 have hrev : ∀ nm t b, moveM μ H.length c ks nm t = some b → ∃ nm', μ nm' t = some b ∧ ((∃ k ∈ ks, nm' = (H.length, k) ∧ nm = (H.length - 1, newKey c k)) ∨ (nm'.1 < H.length ∧ nm = nm' ∧ ∀ k ∈ ks, nm ≠ (H.length - 1, newKey c k))) := fun nm t b hm => by
  rcases moveM_cases (μ := μ) (L := H.length) (c := c) (ks := ks) nm with ⟨k, hk, e1, e⟩ | ⟨e1, e⟩
  ·rw [e] at hm; exact ⟨_, hm, .inl ⟨k, hk, rfl, e1⟩⟩
  ·rw [e] at hm
   obtain ⟨a, b⟩ := dropM_some hm
   exact ⟨nm, b, .inr ⟨a, rfl, e1⟩⟩
 refine ⟨⟨fun nm x hx t b hb => ?_, fun nm t b hb => ?_, fun nm nm' t t' b h1 h2 => ?_, fun nm t b hb => ?_, fun b hb => ?_, hH.glb.mono hsub (fun _ _ => rfl)⟩, ⟨rfl, rfl, rfl, Nat.le_refl _, hsub, fun _ _ _ => rfl, fun _ _ h => h, fun b r h => ⟨r, h⟩, fun nm t b hl hm => hlow nm t b (by omega) hm, fun nm t b hm _ => ?_, fun b hb _ => ?_⟩, q1⟩
 ·rcases moveM_cases (μ := μ) (L := H.length) (c := c) (ks := ks) nm with ⟨k, hk, rfl, e⟩ | ⟨e1, e⟩
  ·obtain ⟨x0, x', x1, x2, x3, x4, x5⟩ := q2 k hk
   rw [x3] at hx; simp only [Option.some.injEq] at hx; subst hx
   rw [e] at hb
   have hlow' : ∀ n t b, n.1 ≤ H.length - 1 → μ n t = some b → moveM μ H.length c ks n t = some b := fun n t b hl hm => hlow n t b (by omega) hm
   have hcl : ∀ v g, VRel w S μ H.length v g → VRel w (moveS S μ H.length ks) (moveM μ H.length c ks) (H.length - 1) v (clM c fr H ks (H.length - 1) g) := fun v g hv => by
    have base := (clean1_nil (l0 := H.length - 1) hv).mono hsub (fun _ _ => rfl) (fun _ _ h => h) hlow' (Nat.le_refl _)
    cases g with
    | hdr nm es top lo len =>
     simp only [clM]
     split
     ·rename_i hc
      exact .pure _ _ (hdr_pureM hH hv hsub (fun t b hm => .inr ⟨nm.2, t, hc.2, by rw [← hc.1]; exact hm⟩))
     ·split
      ·rename_i hc1 hc2
       have hin : nm.2 ∈ ks := Decidable.byContradiction fun h => hc1 ⟨hc2.1, h⟩
       cases hv with
       | hdr _ _ _ _ _ cap b n e g1 g2 g3 g4 g5 g6 =>
       refine .hdr _ es top lo len cap b n e (Nat.le_refl _) ?_ g3 g4 g5 g6
       rw [moveM_new hin]
       have : nm = (H.length, nm.2) := Prod.ext hc2.1 rfl
       rw [← this]; exact g2
      ·exact base
    | _ => exact base
   refine move_blk (nm := (H.length, k)) (hH.blk _ _ (by rw [get_cons, if_pos rfl]; exact x1) t b hb) hcl x2 hsub (fun t => e t) (fun t b hm hs => ?_) (fun n t b hl hm => hlow n t b (by simp at hl; omega) hm) x5
   rcases hs with hs | ⟨k', t', hk', hm'⟩
   ·exact hs
   ·have := (Prod.mk.inj (hH.disj _ _ _ _ _ hm hm')).2
    subst this; exact absurd hk hk'
  ·rw [e] at hb
   obtain ⟨hlt, hb⟩ := dropM_some hb
   rw [q3 nm e1] at hx
   refine (hH.blk nm x (by rw [get_cons, if_neg (by omega)]; exact hx) t b hb).mono hsub (fun _ _ => rfl) (fun _ _ h => h) (fun n t b hn hm => hlow n t b (by omega) hm) (fun t => ?_) (fun _ _ _ => rfl) (fun t' b' hm hs => ?_)
   ·rw [e, dropM, if_pos hlt]
   ·rcases hs with hs | ⟨k', t', hk', hm'⟩
    ·exact hs
    ·have := hH.disj _ _ _ _ _ hm hm'
     subst this; simp at hlt
 ·obtain ⟨nm', hm, hc⟩ := hrev nm t b hb
  rcases hc with ⟨k, hk, rfl, rfl⟩ | ⟨hl, rfl, hno⟩
  ·obtain ⟨x0, x', x1, x2, x3, x4, x5⟩ := q2 k hk
   exact ⟨x', x3⟩
  ·obtain ⟨y, hy⟩ := hH.bnd _ _ _ hm
   rw [get_cons, if_neg (by omega)] at hy
   exact ⟨y, by rw [q3 nm hno]; exact hy⟩
 ·obtain ⟨n1, m1, c1⟩ := hrev nm t b h1
  obtain ⟨n2, m2, c2⟩ := hrev nm' t' b h2
  have e := hH.disj _ _ _ _ _ m1 m2
  subst e
  rcases c1 with ⟨k, hk, rfl, rfl⟩ | ⟨hl, rfl, _⟩
  ·rcases c2 with ⟨k', hk', e, rfl⟩ | ⟨hl, _, _⟩
   ·rw [(Prod.mk.inj e).2]
   ·simp at hl
  ·rcases c2 with ⟨k', hk', e, rfl⟩ | ⟨_, rfl, _⟩
   ·subst e; simp at hl
   ·rfl
 ·obtain ⟨n1, m1, c1⟩ := hrev nm t b hb
  exact hH.lt _ _ _ m1
 ·rcases hb with hb | ⟨k, t, _, hm⟩
  ·exact hH.slt b hb
  ·exact hH.lt _ _ _ hm
 ·obtain ⟨n1, m1, c1⟩ := hrev nm t b hm
  exact ⟨n1, t, m1⟩
 ·rcases hb with hb | ⟨k, t, _, hm⟩
  ·exact .inl hb
  ·exact .inr ⟨_, t, hm⟩
section
variable {L c : Nat} {ks : List Nat}
structure RenOk (w : World) (S : Nat → Prop) (μ : Mu) (S' : Nat → Prop) (μ' : Mu) (L c : Nat) (ks : List Nat) : Prop where
 sub : ∀ b, S b → S' b
 low : ∀ nm t b, nm.1 < L → μ nm t = some b → μ' nm t = some b
 new : ∀ k t, k ∈ ks → μ' (L - 1, newKey c k) t = μ (L, k) t
 pos : 0 < L
theorem RenOk.pure (h : RenOk w S μ S' μ' L c ks) {v : Value} {p : PV} (hv : PRep w S v p) : PRep w S' v p := hv.mono h.sub (fun _ _ => rfl)
theorem ren1_rel (h : RenOk w S μ S' μ' L c ks) {v : Value} {g : GV} (hv : VRel w S μ L v g) (hr : ∀ k ∈ refs1 L g, k ∈ ks) : VRel w S' μ' (L - 1) v (ren1 L c g) := by
 have hp := h.pos
 have key : ∀ (nm : Nm) (t b : Nat), nm.1 ≤ L → μ nm t = some b → (nm.1 = L → nm.2 ∈ ks) → nm.1 = L → μ' (L - 1, newKey c nm.2) t = some b := fun nm t b hl hm hk e => by
  rw [h.new _ t (hk e), ← hm, ← e]
 cases hv with
 | pure _ p hp => exact .pure _ _ (h.pure hp)
 | pptr b o cs f hS hf h1 hq => exact .pptr b o cs f (fun x => h.sub b (hS x)) hf h1 (fun j hj => h.pure (hq j hj))
 | nils a => exact .nils a
 | bptr nm off b h1 h2 =>
  simp only [ren1]
  split
  ·rename_i e
   exact .bptr _ off b (Nat.le_refl _) (key nm 0 b h1 h2 (fun _ => hr _ (by simp [refs1, e])) e)
  ·exact .bptr nm off b (by omega) (h.low nm 0 b (by omega) h2)
 | eptr nm es top i off b h1 h2 =>
  simp only [ren1]
  split
  ·rename_i e
   exact .eptr _ es top i off b (Nat.le_refl _) (key nm top b h1 h2 (fun _ => hr _ (by simp [refs1, e])) e)
  ·exact .eptr nm es top i off b (by omega) (h.low nm top b (by omega) h2)
 | hdr nm es top lo len cap b n e h1 h2 h3 h4 h5 h6 =>
  simp only [ren1]
  split
  ·rename_i e'
   exact .hdr _ es top lo len cap b n e (Nat.le_refl _) (key nm top b h1 h2 (fun _ => hr _ (by simp [refs1, e'])) e') h3 h4 h5 h6
  ·exact .hdr nm es top lo len cap b n e (by omega) (h.low nm top b (by omega) h2) h3 h4 h5 h6
 | map nm b h1 h2 =>
  simp only [ren1]
  split
  ·rename_i e
   exact .map _ b (Nat.le_refl _) (key nm 0 b h1 h2 (fun _ => hr _ (by simp [refs1, e])) e)
  ·exact .map nm b (by omega) (h.low nm 0 b (by omega) h2)
 | yield nm b h1 h2 =>
  simp only [ren1]
  split
  ·exact vdead _
  ·exact .yield nm b (by omega) (h.low nm 0 b (by omega) h2)
 | lits b o cap es l f hS he hes hf h1 hr hcap => exact vdead _
 | lptr b o cs f hS hf h1 hr => exact vdead _
 | agg vs l h h1 hr => exact vdead _
 | tuple vs l h hr => exact vdead _
 | func f a c la lc h1 h2 hr1 hr2 => exact vdead _
 | rhdr nm es i len cap b h1 h2 h3 => exact vdead _
 | rptr nm es i j off b h1 h2 => exact vdead _
theorem ren1_list (h : RenOk w S μ S' μ' L c ks) {f : Nat → Value} {l : List GV} (hv : ∀ j, j < l.length → VRel w S μ L (f j) (l.getD j gdead)) (hr : ∀ k ∈ l.flatMap (refs1 L), k ∈ ks) (j : Nat) (hj : j < (l.map (ren1 L c)).length) :
  VRel w S' μ' (L - 1) (f j) ((l.map (ren1 L c)).getD j gdead) := by
 have hj' : j < l.length := by simpa using hj
 have e : (l.map (ren1 L c)).getD j gdead = ren1 L c (l.getD j gdead) := by simp [List.getD_eq_getElem?_getD, hj']
 rw [e]
 refine ren1_rel h (hv j hj') fun k hk => hr k (List.mem_flatMap.2 ⟨l[j], List.getElem_mem hj', ?_⟩)
 have e2 : l.getD j gdead = l[j] := by simp [List.getD_eq_getElem?_getD, hj']
 rwa [e2] at hk
theorem ren2_rel (h : RenOk w S μ S' μ' L c ks) {v : Value} {g : GV} (hv : VRel w S μ L v g) (hr : ∀ k ∈ refs2 L g, k ∈ ks) : VRel w S' μ' (L - 1) v (ren2 L c g) := by
 cases g with
 | agg l =>
  cases hv with
  | agg vs _ h1 h2 h3 =>
   refine mkAgg_rel' (.of_get _ _ (by simpa using h1) fun j hj => ?_)
   have hj' : j < l.length := by simpa using hj
   refine ⟨?_, ?_⟩
   ·have := h2 j hj'; rw [agetD] at this; exact this
   ·have := ren1_list h h3 hr j hj; rw [agetD] at this; exact this
 | func f la lc =>
  cases hv with
  | func _ a cc _ _ h1 h2 h3 h4 =>
   refine .func f a cc _ _ (by simpa using h1) (by simpa using h2) (fun j hj => ren1_list h h3 (fun k hk => hr k ?_) j hj) (fun j hj => ren1_list h h4 (fun k hk => hr k ?_) j hj)
   ·simp only [refs2, List.mem_append]; exact .inl hk
   ·simp only [refs2, List.mem_append]; exact .inr hk
 | _ => exact ren1_rel h hv hr
theorem ren_rel (h : RenOk w S μ S' μ' L c ks) {v : Value} {g : GV} (hv : VRel w S μ L v g) (hr : ∀ k ∈ refs L g, k ∈ ks) : VRel w S' μ' (L - 1) v (ren L c g) := by
 cases g with
 | tuple l =>
  cases hv with
  | tuple vs _ h1 h2 =>
   refine mkTuple_rel (by simpa using h1) fun j hj => ?_
   have hj' : j < l.length := by simpa using hj
   have e : (l.map (ren2 L c)).getD j gdead = ren2 L c (l.getD j gdead) := by simp [List.getD_eq_getElem?_getD, hj']
   rw [e]
   refine ren2_rel h (h2 j hj') fun k hk => hr k (List.mem_flatMap.2 ⟨l[j], List.getElem_mem hj', ?_⟩)
   have e2 : l.getD j gdead = l[j] := by simp [List.getD_eq_getElem?_getD, hj']
   rwa [e2] at hk
 | _ => exact ren2_rel h hv hr
end
theorem leave_ok (K : Ctx) {f : FuncId} {c : Nat} {r v : GV} {u : Value} {H0 H' : Heap} (hH : HRel w S μ H0) (hv : VRel w S μ (H0.length - 1) u r) (h1 : 1 < H0.length) (h : gleave K f c r H0 = some (v, H')) :
  ∃ S' μ', VRel w S' μ' (H'.length - 1) u v ∧ HRel w S' μ' H' ∧ Ev (H0.length - 2) w S μ w S' μ' ∧ H'.length + 1 = H0.length := by
 unfold gleave at h
 split at h
 ·cases h
 ·rename_i fr H
  simp only [List.length_cons] at h1 hv ⊢
  have e0 : H.length + 1 - 1 = H.length := by omega
  have e2 : H.length + 1 - 2 = H.length - 1 := by omega
  rw [e0] at hv
  rw [e2]
  split at h
  ·split at h
   ·rename_i H1 hm
    simp only [Option.some.injEq, Prod.mk.injEq] at h
    obtain ⟨rfl, rfl⟩ := h
    obtain ⟨a1, a2, a3⟩ := move_heap hH (by omega) (nodup_dedup _) hm
    refine ⟨_, _, ?_, a1, a2, by omega⟩
    rw [a3]
    exact ren_rel (ks := dedup (deepRefs fr H.length (refs H.length r))) ⟨a2.sub, fun nm t b hl hm => a2.mu nm t b (by omega) hm, fun k t hk => moveM_new hk t, by omega⟩ hv (fun k hk => (mem_dedup _).2 (List.mem_append.2 (.inl hk)))
   ·cases h
  ·simp only [Option.some.injEq, Prod.mk.injEq] at h
   obtain ⟨rfl, rfl⟩ := h
   have := drop_val hH (l0 := H.length - 1) hv
   have e1 : H.length - 1 + 1 = H.length := by omega
   rw [e1] at this
   exact ⟨_, _, canon_rel this, drop_heap hH, drop_ev hH (by omega), rfl⟩
end
end
end Go.Gh
