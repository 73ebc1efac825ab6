/- Addresses, parts, slices of slices, lengths. -/
import Derived.Test.YthcpepcmnmlmeaaGa
import Derived.MapKept
import Derived.RangeFuncRecord
import Derived.RangeFuncNested
import Derived.OrdersIn
namespace Go.Gh
set_option linter.unusedSimpArgs false
set_option linter.unusedVariables false
section
variable {w : World} {S : Nat → Prop} {μ : Mu} {H : Heap} {P : Program} {ℓ : Nat}
theorem pptr_drop {b o q : Nat} {cs : List PV} {f : Nat → Value} {k : Nat} (hS : cs ≠ [] → S b) (hf : ∀ j, j < cs.length → w.cell? ⟨b, o + j, none⟩ = some (f j)) (h1 : ∀ j, j < cs.length → (f j).oneCell' = true)
    (hr : ∀ j, j < cs.length → PRep w S (f j) (cs.getD j .dead)) : VRel w S μ k (.pointer (some ⟨b, o + q, none⟩)) (.pptr (cs.drop q)) := by
  refine .pptr b (o + q) (cs.drop q) (fun j => f (q + j)) (fun h => hS (by intro e; subst e; simp at h)) (fun j hj => ?_) (fun j hj => ?_) (fun j hj => ?_)
  · simp at hj; rw [Nat.add_assoc]; exact hf (q + j) (by omega)
  · simp at hj; exact h1 (q + j) (by omega)
  · simp at hj
    have := hr (q + j) (by omega)
    simpa [List.getD_eq_getElem?_getD, List.getElem?_drop] using this
theorem lptr_drop {b o q : Nat} {cs : List GV} {f : Nat → Value} {k : Nat} (hS : cs ≠ [] → S b) (hf : ∀ j, j < cs.length → w.cell? ⟨b, o + j, none⟩ = some (f j)) (h1 : ∀ j, j < cs.length → (f j).oneCell' = true)
    (hr : ∀ j, j < cs.length → VRel w S μ k (f j) (cs.getD j gdead)) : VRel w S μ k (.pointer (some ⟨b, o + q, none⟩)) (.lptr (cs.drop q)) := by
  refine .lptr b (o + q) (cs.drop q) (fun j => f (q + j)) (fun h => hS (by intro e; subst e; simp at h)) (fun j hj => ?_) (fun j hj => ?_) (fun j hj => ?_)
  · simp at hj; rw [Nat.add_assoc]; exact hf (q + j) (by omega)
  · simp at hj; exact h1 (q + j) (by omega)
  · simp at hj
    have := hr (q + j) (by omega)
    simpa [List.getD_eq_getElem?_getD, List.getElem?_drop] using this
/-- An address some cells further on. -/
theorem shift_rel {k q : Nat} {va : Value} {x r : GV} (hx : VRel w S μ k va x)
    (h : gmoved q x = some r) : ∃ a : Addr, va = .pointer (some a) ∧ a.spot = none ∧ VRel w S μ k (.pointer (some (a.add q))) r := by
  cases hx with
  | bptr nm off b h1 h2 =>
    simp only [gmoved, Option.some.injEq] at h; subst h
    exact ⟨_, rfl, rfl, by rw [add_none]; exact .bptr nm _ b h1 h2⟩
  | eptr nm es top i off b h1 h2 =>
    simp only [gmoved, Option.some.injEq] at h; subst h
    exact ⟨_, rfl, rfl, by rw [add_none, Nat.add_assoc]; exact .eptr nm es top i _ b h1 h2⟩
  | pptr b o cs f hS hf h1 hr =>
    simp only [gmoved] at h
    split at h
    · simp only [Option.some.injEq] at h; subst h
      exact ⟨_, rfl, rfl, by rw [add_none]; exact pptr_drop hS hf h1 hr⟩
    · cases h
  | lptr b o cs f hS hf h1 hr =>
    simp only [gmoved] at h
    split at h
    · simp only [Option.some.injEq] at h; subst h
      exact ⟨_, rfl, rfl, by rw [add_none]; exact lptr_drop hS hf h1 hr⟩
    · cases h
  | rptr nm es i j off b h1 h2 =>
    simp only [gmoved, Option.some.injEq] at h; subst h
    exact ⟨_, rfl, rfl, by rw [add_none, Nat.add_assoc]; exact .rptr nm es i j _ b h1 h2⟩
  | _ => cases h
theorem tarr_some {t n e : Nat} (h : tarr P t = some (n, e)) : P.underlying t = some (.array n e) := by
  unfold tarr at h
  split at h
  · rename_i n' e' he; simp at h; obtain ⟨rfl, rfl⟩ := h; exact he
  · cases h
theorem tfield_some {t f off ft : Nat} (h : tfield P t f = some (off, ft)) : ∃ fs x, P.underlying t = some (.struct fs) ∧ fs[f]? = some x ∧ x.offset = off ∧ x.type = ft := by
  unfold tfield at h
  split at h
  · rename_i fs hfs
    split at h
    · rename_i x hx; simp at h; exact ⟨fs, x, hfs, hx, h.1, h.2⟩
    · cases h
  · cases h
theorem fieldAddr_sound {k f off ft size : Nat} {st : TypeId} {va : Value} {x r : GV} (hx : VRel w S μ k va x) (hf : tfield P st f = some (off, ft)) (hs : tsize P ft = some size) (h0 : size ≠ 0)
    (h : gmoved off x = some r) : ∃ u, (Instr.fieldAt st va f).run P w = .ok u w ∧ VRel w S μ k u r := by
  obtain ⟨fs, y, hu, hy, rfl, rfl⟩ := tfield_some hf
  obtain ⟨a, rfl, _, hr⟩ := shift_rel hx h
  exact ⟨_, by simp [Instr.fieldAt, r_underlying w hu, hy, sure_ptr, fieldPlace, r_size w hs, h0], hr⟩
theorem indexAddr_sound (K : Ctx) {k : Nat} {t : TypeId} {va vi : Value} {x i r : GV} (hx : VRel w S μ k va x) (hi : VRel w S μ k vi i) (h : gindexAddr K t x i = some r) :
    ∃ u, (Instr.indexAt t va vi).run K.P w = .ok u w ∧ VRel w S μ k u r := by
  unfold gindexAddr at h
  split at h
  · rename_i kd n
    obtain rfl := hi.int_inv
    split at h
    · cases h
    · rename_i hneg
      have h0 : 0 ≤ n := by omega
      split at h
      · rename_i len e hta
        split at h
        · rename_i size hs
          split at h
          · cases h
          · rename_i hlt
            have hlt' : n < (len : Int) := by omega
            obtain ⟨a, rfl, _, hr⟩ := shift_rel hx h
            refine ⟨_, ?_, hr⟩
            simp [Instr.indexAt, asIntOf, r_underlying w (tarr_some hta), sure_ptr, h0, hlt', r_size w hs]
        · cases h
      · split at h
        · rename_i e he
          split at h
          · rename_i size hs
            split at h
            · -- a header
              rename_i nm es top lo len
              cases hx with
              | hdr _ _ _ _ _ cap b m ek h1 h2 h3 h4 h5 h6 =>
              split at h
              · rename_i hc
                obtain ⟨rfl, hlt⟩ := hc
                simp only [Option.some.injEq] at h; subst h
                refine ⟨.pointer (some ⟨b, (lo + n.toNat) * es + 0, none⟩), ?_, .eptr nm es top (lo + n.toNat) 0 b h1 h2⟩
                have ea : (⟨b, lo * es, none⟩ : Addr).add (n.toNat * es) = ⟨b, (lo + n.toNat) * es + 0, none⟩ := by rw [add_none, Nat.add_mul]; simp
                simp [Instr.indexAt, asIntOf, r_underlying w (telem_some he), h0, hlt, r_size w hs, ea]
              · cases h
            · -- a pure slice
              rename_i l
              split at h
              · rename_i cs hcs
                split at h
                · rename_i hlen
                  simp only [Option.some.injEq] at h; subst h
                  have := hx.pv
                  cases this with
                  | slice0 a cap => simp at hcs
                  | slice b o cap es _ f hS hpos hes hf h1 hr hcp =>
                  have hin : n.toNat < l.length := by rcases Nat.lt_or_ge n.toNat l.length with h | h; exact h; rw [List.getElem?_eq_none h] at hcs; cases hcs
                  have hcl : cs.length = es := hes _ (List.mem_of_getElem? hcs)
                  have hlt : n < (l.length : Int) := by omega
                  have hgd : l.getD n.toNat [] = cs := by simp [List.getD_eq_getElem?_getD, hcs]
                  have es' : es = size := by omega
                  subst es'
                  refine ⟨.pointer (some ⟨b, o + n.toNat * es, none⟩), ?_, .pptr b (o + n.toNat * es) cs (f n.toNat) (fun _ => hS) (fun j hj => ?_) (fun j hj => h1 _ _ hin (by omega)) (fun j hj => ?_)⟩
                  · simp [Instr.indexAt, asIntOf, r_underlying w (telem_some he), h0, hlt, r_size w hs, add_none]
                  · rw [Nat.add_assoc]; exact hf _ _ hin (by omega)
                  · have := hr n.toNat j hin (by omega); rwa [hgd] at this
                · cases h
              · cases h
            · -- a literal
              rename_i l
              split at h
              · rename_i cs hcs
                split at h
                · rename_i hlen
                  simp only [Option.some.injEq] at h; subst h
                  cases hx with
                  | lits b o cap es _ f hS hpos hes hf h1 hr =>
                  have hin : n.toNat < l.length := by rcases Nat.lt_or_ge n.toNat l.length with h | h; exact h; rw [List.getElem?_eq_none h] at hcs; cases hcs
                  have hcl : cs.length = es := hes _ (List.mem_of_getElem? hcs)
                  have hlt : n < (l.length : Int) := by omega
                  have hgd : l.getD n.toNat [] = cs := by simp [List.getD_eq_getElem?_getD, hcs]
                  have es' : es = size := by omega
                  subst es'
                  refine ⟨.pointer (some ⟨b, o + n.toNat * es, none⟩), ?_, .lptr b (o + n.toNat * es) cs (f n.toNat) (fun _ => hS) (fun j hj => ?_) (fun j hj => h1 _ _ hin (by omega)) (fun j hj => ?_)⟩
                  · simp [Instr.indexAt, asIntOf, r_underlying w (telem_some he), h0, hlt, r_size w hs, add_none]
                  · rw [Nat.add_assoc]; exact hf _ _ hin (by omega)
                  · have := hr n.toNat j hin (by omega); rwa [hgd] at this
                · cases h
              · cases h
            · -- a table's row
              rename_i nm es q len
              cases hx with
              | rhdr _ _ _ _ cap b h1 h2 h3 =>
              split at h
              · rename_i hc
                obtain ⟨rfl, hlt⟩ := hc
                simp only [Option.some.injEq] at h; subst h
                refine ⟨.pointer (some ⟨b, n.toNat * es + 0, none⟩), ?_, .rptr nm es q n.toNat 0 b h1 h2⟩
                have ea : (⟨b, 0, none⟩ : Addr).add (n.toNat * es) = ⟨b, n.toNat * es + 0, none⟩ := by rw [add_none]; simp
                simp [Instr.indexAt, asIntOf, r_underlying w (telem_some he), h0, hlt, r_size w hs, ea]
              · cases h
            · cases h
          · cases h
        · cases h
  · cases h
/-- A part of a value's cells. -/
theorem part_run {k off size : Nat} {ag : Bool} {t : TypeId} {vs : Array Value} {cs : List GV} {r : GV} (hc : CRel w S μ k vs.toList cs) (ha : tagg P t = some ag) (hs : tsize P t = some size)
    (hle : off + size ≤ cs.length) (h : (if ag then some (mkAgg ((cs.drop off).take size)) else cs[off]?) = some r) : ∃ u, (part t vs off).run P w = .ok u w ∧ VRel w S μ k u r := by
  cases ag with
  | true =>
    simp only [if_true, Option.some.injEq] at h; subst h
    refine ⟨.agg (vs.extract off (off + size)), by simp [part, r_agg w ha, r_size w hs], mkAgg_rel' ?_⟩
    have e : (vs.extract off (off + size)).toList = (vs.toList.drop off).take size := by simp
    rw [e]
    exact (hc.drop off).take size
  | false =>
    simp only [Bool.false_eq_true, if_false] at h
    obtain ⟨v, v1, v2, v3⟩ := hc.get off r h
    have v1' : vs[off]? = some v := by simpa using v1
    exact ⟨v, by simp [part, r_agg w ha, v1'], v3⟩
end
end Go.Gh


/- Parts of values, slices of slices, lengths, maps. -/
namespace Go.Gh
set_option linter.unusedSimpArgs false
set_option linter.unusedVariables false
section
variable {w : World} {S : Nat → Prop} {μ : Mu} {H : Heap} {P : Program} {ℓ : Nat}
theorem part_pure {k off size : Nat} {ag : Bool} {t : TypeId} {vs : Array Value} {cs : List PV} {r : GV} (hc : CRel w S μ k vs.toList (cs.map .pure)) (ha : tagg P t = some ag) (hs : tsize P t = some size)
    (hle : off + size ≤ cs.length) (h : (if ag then some (.pure (.agg ((cs.drop off).take size))) else (match cs[off]? with | some p => some (.pure p) | none => none)) = some r) :
    ∃ u, (part t vs off).run P w = .ok u w ∧ VRel w S μ k u r := by
  refine part_run hc ha hs (by simpa using hle) ?_
  cases ag with
  | true =>
    simp only [if_true, Option.some.injEq] at h ⊢
    rw [← h, ← List.map_drop, ← List.map_take, mkAgg_map]
  | false =>
    simp only [Bool.false_eq_true, if_false, List.getElem?_map] at h ⊢
    split at h
    · rename_i p hp; rw [hp]; simpa using h
    · cases h
theorem index_sound (K : Ctx) {k : Nat} {t : TypeId} {va vi : Value} {x i r : GV} (hx : VRel w S μ k va x) (hi : VRel w S μ k vi i) (h : gindex K x i t = some r) :
    ∃ u, (Instr.index t va vi).run K.P w = .ok u w ∧ VRel w S μ k u r := by
  unfold gindex at h
  split at h
  · rename_i kd n
    obtain rfl := hi.int_inv
    split at h
    · cases h
    · rename_i hneg
      have h0 : 0 ≤ n := by omega
      split at h
      · rename_i len e hta
        split at h
        · rename_i ag size ha hs
          split at h
          · cases h
          · rename_i hlt
            have hlt' : n < (len : Int) := by omega
            split at h
            · rename_i cs
              obtain ⟨vs, rfl, hc⟩ := hx.cells
              split at h
              · rename_i hle
                obtain ⟨u, u1, u2⟩ := part_run (P := K.P) hc ha hs hle h
                exact ⟨u, by simp [Instr.index, asIntOf, r_underlying w (tarr_some hta), h0, hlt', r_size w hs, u1], u2⟩
              · cases h
            · rename_i cs
              obtain ⟨vs, rfl, hc⟩ := hx.agg_inv
              split at h
              · rename_i hle
                obtain ⟨u, u1, u2⟩ := part_pure (P := K.P) hc ha hs hle h
                exact ⟨u, by simp [Instr.index, asIntOf, r_underlying w (tarr_some hta), h0, hlt', r_size w hs, u1], u2⟩
              · cases h
            · cases h
        · cases h
      · split at h
        · rename_i l hu
          obtain ⟨s, rfl, hs⟩ := hx.str_inv
          split at h
          · rename_i b hb
            simp only [Option.some.injEq] at h; subst h
            have hb' : s[n.toNat]? = some b := by
              subst hs
              have hin : n.toNat < s.size := by
                rcases Nat.lt_or_ge n.toNat s.data.toList.length with h | h
                · simpa using h
                · rw [List.getElem?_eq_none h] at hb; cases hb
              rw [getElem?_pos s n.toNat hin]
              have hin2 : n.toNat < s.data.toList.length := by simpa using hin
              rw [List.getElem?_eq_getElem hin2] at hb
              have hb2 := Option.some.inj hb
              rw [Array.getElem_toList] at hb2
              exact congrArg some hb2
            exact ⟨.int .u8 b.toNat, by simp [Instr.index, asIntOf, r_underlying w hu, h0, hb'], .pure _ _ (.int _ _)⟩
          · cases h
        · cases h
  · cases h
theorem field_sound {k f off ft size : Nat} {ag : Bool} {t : TypeId} {v : Value} {x r : GV} (hx : VRel w S μ k v x) (hf : tfield P t f = some (off, ft)) (ha : tagg P ft = some ag) (hs : tsize P ft = some size)
    (h : (match x with
      | .agg cs => if off + size ≤ cs.length then (if ag then some (mkAgg ((cs.drop off).take size)) else cs[off]?) else none
      | .pure (.agg cs) => if off + size ≤ cs.length then (if ag then some (.pure (.agg ((cs.drop off).take size))) else (match cs[off]? with | some p => some (.pure p) | none => none)) else none
      | _ => none) = some r) :
    ∃ u, (Instr.field t v f).run P w = .ok u w ∧ VRel w S μ k u r := by
  obtain ⟨fs, y, hu, hy, rfl, rfl⟩ := tfield_some hf
  split at h
  · rename_i cs hx
    obtain ⟨vs, rfl, hc⟩ := hx.cells
    split at h
    · rename_i hle
      obtain ⟨u, u1, u2⟩ := part_run (P := P) hc ha hs hle h
      exact ⟨u, by simp [Instr.field, r_underlying w hu, hy, asAgg, u1], u2⟩
    · cases h
  · rename_i cs hx
    obtain ⟨vs, rfl, hc⟩ := hx.agg_inv
    split at h
    · rename_i hle
      obtain ⟨u, u1, u2⟩ := part_pure (P := P) hc ha hs hle h
      exact ⟨u, by simp [Instr.field, r_underlying w hu, hy, asAgg, u1], u2⟩
    · cases h
  · cases h
end
end Go.Gh


/- Slices of slices, lengths, least and greatest. -/
namespace Go.Gh
set_option linter.unusedSimpArgs false
set_option linter.unusedVariables false
section
variable {w : World} {S : Nat → Prop} {μ : Mu} {H : Heap} {P : Program} {ℓ : Nat}
theorem bound_run {k : Nat} {v : Value} {g : GV} {a d y : Nat} {code : BoundsCode} (hv : VRel w S μ k v g) (h : gbound (some g) d = some a) (hy : a ≤ y) :
    (Instr.sliceBound v y code).run P w = .ok a w := by
  simp only [gbound] at h
  split at h
  · rename_i h0; cases h0
  · rename_i kd i heq
    simp only [Option.some.injEq] at heq; subst heq
    obtain rfl := hv.int_inv
    split at h
    · cases h
    · simp only [Option.some.injEq] at h; subst h
      have : 0 ≤ i ∧ i ≤ (y : Int) := by omega
      simp [Instr.sliceBound, asIntOf, this]
  · cases h
theorem bounds_run {k : Nat} {is : Bool} {len cap a b : Nat} {act : Act} {s : Slots} (hs : ∀ t, VRel w S μ k (act.tmps.getD t undef) (look s t)) {lo hi : Option Operand}
    (h1 : gbound (lo.map (ev s)) 0 = some a) (h2 : gbound (hi.map (ev s)) len = some b) (hab : a ≤ b) (hbl : b ≤ len) (hlc : len ≤ cap) :
    (Instr.sliceBounds is len cap (lo.map act.eval) (hi.map act.eval) none).run P w = .ok (a, b, cap) w := by
  have e2 : ∀ code, (match hi.map act.eval, (none : Option Value) with
      | some v, some _ => Instr.sliceBound v cap .slice3B
      | some v, none => Instr.sliceBound v cap code
      | none, none => pure len
      | none, some _ => stuck "Slice: max without high").run P w = .ok b w := by
    intro code
    cases hi with
    | none => simp only [Option.map_none, gbound, Option.some.injEq] at h2; subst h2; simp
    | some x => exact bound_run (ev_rel hs x) h2 (by omega)
  have e1 : (match lo.map act.eval with
      | some v => Instr.sliceBound v b .sliceB
      | none => pure 0).run P w = .ok a w := by
    cases lo with
    | none => simp only [Option.map_none, gbound, Option.some.injEq] at h1; subst h1; simp
    | some x => exact bound_run (ev_rel hs x) h1 hab
  unfold Instr.sliceBounds
  cases lo with
  | none =>
    cases hi with
    | none => simp only [Option.map_none] at e1 e2 ⊢; simp [e1, e2] at *; simp [h1, h2, gbound] at *; omega
    | some x => simp only [Option.map_none, Option.map_some] at e1 e2 ⊢; simp [e1, e2]; simp [gbound] at h1; omega
  | some y =>
    cases hi with
    | none => simp only [Option.map_none, Option.map_some] at e1 e2 ⊢; simp [e1, e2]; simp [gbound] at h2; subst h2; simp [e1]
    | some x => simp only [Option.map_some] at e1 e2 ⊢; simp [e1, e2]
theorem bounds3_run {k : Nat} {len cap : Nat} {act : Act} {s : Slots} (hs : ∀ t, VRel w S μ k (act.tmps.getD t undef) (look s t)) {lo hi : Option Operand} {m : Operand} {k1 k2 : IntKind}
    (h1 : gbound (lo.map (ev s)) 0 = some 0) (h2 : hi.map (ev s) = some (.pure (.int k1 0))) (h3 : ev s m = .pure (.int k2 0)) :
    (Instr.sliceBounds true len cap (lo.map act.eval) (hi.map act.eval) (some (act.eval m))).run P w = .ok (0, 0, 0) w := by
  have e3 := ev_rel hs m
  rw [h3] at e3
  have em := e3.int_inv
  cases hi with
  | none => cases h2
  | some x =>
    have e2 := ev_rel hs x
    simp only [Option.map_some, Option.some.injEq] at h2
    rw [h2] at e2
    have ex := e2.int_inv
    cases lo with
    | none => simp [Instr.sliceBounds, em, ex, Instr.sliceBound, asIntOf]
    | some y =>
      have := bound_run (P := P) (y := 0) (code := .slice3C) (ev_rel hs y) h1 (Nat.le_refl 0)
      have hq : ∀ (kk : IntKind) (n : Nat) (code : BoundsCode), (Instr.sliceBound (.int kk 0) n code).run P w = .ok 0 w := fun kk n code => by simp [Instr.sliceBound, asIntOf]
      simp only [Option.map_some]
      simp [Instr.sliceBounds, em, ex, this, hq]
theorem slice_pure_rel {n cap : Nat} {base : Option Addr} {l : List (List PV)} {a b size : Nat} (h : PRep w S (.slice base n cap) (.slice l)) (hab : a ≤ b) (hb : b ≤ l.length)
    (hall : l.all (fun r => r.length == size) = true) :
    n = l.length ∧ PRep w S (.slice (if cap = a then base else base.map (·.add (a * size))) (b - a) (cap - a)) (.slice ((l.take b).drop a)) := by
  by_cases he : a = b
  · subst he
    have : (l.take a).drop a = [] := by simp
    rw [this, Nat.sub_self]
    refine ⟨?_, .slice0 _ _⟩
    cases h <;> rfl
  · cases h with
    | slice0 a cap => simp at hb; omega
    | slice b' o cap es l f hS hpos hes hf h1 hr hcp =>
      refine ⟨rfl, ?_⟩
      have hne : es = size := by
        have hm := List.getElem_mem (l := l) (n := 0) (by omega)
        rw [← hes _ hm]
        simp only [List.all_eq_true, beq_iff_eq] at hall
        exact hall _ hm
      subst hne
      have hca : cap ≠ a := by omega
      rw [if_neg hca]
      have hlen : ((l.take b).drop a).length = b - a := by simp; omega
      have hget : ∀ i, i < b - a → ((l.take b).drop a).getD i [] = l.getD (a + i) [] := fun i hi => by
        have : a + i < b := by omega
        simp [List.getD_eq_getElem?_getD, List.getElem?_drop, List.getElem?_take, this]
      have e0 : ∀ i j, o + a * es + (i * es + j) = o + ((a + i) * es + j) := fun i j => by rw [Nat.add_mul]; omega
      have := PRep.slice (w := w) (S := S) b' (o + a * es) (cap - a) es ((l.take b).drop a) (fun i j => f (a + i) j) hS hpos
        (fun r hr => hes r (List.mem_of_mem_take (List.mem_of_mem_drop hr)))
        (fun i j hi hj => by rw [hlen] at hi; rw [e0]; exact hf (a + i) j (by omega) hj)
        (fun i j hi hj => by rw [hlen] at hi; exact h1 (a + i) j (by omega) hj)
        (fun i j hi hj => by rw [hlen] at hi; rw [hget i hi]; exact hr (a + i) j (by omega) hj)
        (by rw [hlen]; omega)
      rw [hlen] at this
      simpa [add_none] using this
theorem PRep.slice_inv {v : Value} {l : List (List PV)} (h : PRep w S v (.slice l)) : ∃ base cap, v = .slice base l.length cap ∧ l.length ≤ cap := by
  cases h with
  | slice0 a cap => exact ⟨a, cap, rfl, by simp⟩
  | slice b o cap es l f hS hpos hes hf h1 hr hcp => exact ⟨_, _, rfl, hcp⟩
theorem slice_sound (K : Ctx) {k : Nat} {t : TypeId} {va : Value} {x r : GV} {lo hi mx : Option Operand} {act : Act} {s : Slots} (hs : ∀ t, VRel w S μ k (act.tmps.getD t undef) (look s t))
    (hx : VRel w S μ k va x) (h : gslice K t x (lo.map (ev s)) (hi.map (ev s)) (mx.map (ev s)) = some r) :
    ∃ u, (Instr.sliceAt t va (lo.map act.eval) (hi.map act.eval) (mx.map act.eval)).run K.P w = .ok u w ∧ VRel w S μ k u r := by
  unfold gslice at h
  cases mx with
  | some m =>
    simp only [Option.map_some, Option.isSome_some, if_true] at h ⊢
    split at h
    · rename_i k1 k2 e h1 h2 h3 hte
      simp only [Option.some.injEq] at h3
      have hu := telem_some hte
      have hb := fun len cap => bounds3_run (P := K.P) (len := len) (cap := cap) hs h1 h2 h3
      split at h
      · rename_i size hsz
        simp only [Option.some.injEq] at h; subst h
        cases hx with
        | nils base => exact ⟨.slice base 0 0, by simp [Instr.sliceAt, Instr.slice, r_underlying w hu, hb, r_size w hsz], .nils _⟩
      · rename_i size l hsz
        simp only [Option.some.injEq] at h; subst h
        obtain ⟨base, cap, rfl, hcp⟩ := hx.pv.slice_inv
        exact ⟨.slice base 0 0, by simp [Instr.sliceAt, Instr.slice, r_underlying w hu, hb, r_size w hsz], .nils _⟩
      · rename_i size nm es top lo0 len hsz
        simp only [Option.some.injEq] at h; subst h
        cases hx with
        | hdr _ _ _ _ _ cap b0 n e0 hl hm hcl ht hsh hn => exact ⟨.slice (some ⟨b0, lo0 * es, none⟩) 0 0, by simp [Instr.sliceAt, Instr.slice, r_underlying w hu, hb, r_size w hsz], .nils _⟩
      · cases h
    · cases h
  | none =>
  simp only [Option.map_none, Option.isSome_none, Bool.false_eq_true, if_false] at h ⊢
  split at h
  · rename_i cs
    split at h
    · rename_i n e h1 h2 hta
      have hu := tarr_some hta
      split at h
      · rename_i size hsz
        split at h
        · rename_i hc
          simp only [Option.some.injEq] at h; subst h
          obtain ⟨c1, c2, c3⟩ := hc
          cases lo with
          | some _ => cases h1
          | none =>
          cases hi with
          | some _ => cases h2
          | none =>
          cases hx with
          | pptr b o _ f hS hf h1 hr =>
          have hpos : 0 < n * size := Nat.mul_pos c2 c1
          have hne : cs ≠ [] := by intro e; subst e; simp at c3; omega
          refine ⟨.slice (some ⟨b, o, none⟩) n n, by simp [Instr.sliceAt, r_underlying w hu, r_size w hsz, Instr.sureAddr, Instr.sliceBounds, add_none], .pure _ _ ?_⟩
          have hlen : (chunks size n cs).length = n := chunks_length size n cs
          have hlt : ∀ i j, i < n → j < size → i * size + j < cs.length := fun i j hi hj => by
            have h1 : (i + 1) * size ≤ n * size := Nat.mul_le_mul_right _ hi
            rw [Nat.add_mul] at h1; omega
          have hq : ∀ i j, i < n → j < size → ((chunks size n cs).getD i []).getD j PV.dead = cs.getD (i * size + j) PV.dead := fun i j hi hj => chunks_cell PV.dead i j hi hj
          have := PRep.slice (w := w) (S := S) b o n size (chunks size n cs) (fun i j => f (i * size + j)) (hS hne) c1
            (fun r hr => by
              obtain ⟨i, hi, rfl⟩ := List.getElem_of_mem hr
              rw [hlen] at hi
              have := chunks_get size n cs i hi
              have hg : (chunks size n cs)[i]? = some (chunks size n cs)[i] := by simp
              rw [hg] at this
              simp only [Option.some.injEq] at this
              rw [this]
              have h1 : (i + 1) * size ≤ n * size := Nat.mul_le_mul_right _ hi
              rw [Nat.add_mul] at h1
              simp only [List.length_take, List.length_drop]; omega)
            (fun i j hi hj => hf _ (hlt i j (hlen ▸ hi) hj)) (fun i j hi hj => h1 _ (hlt i j (hlen ▸ hi) hj))
            (fun i j hi hj => by rw [hq i j (hlen ▸ hi) hj]; exact hr _ (hlt i j (hlen ▸ hi) hj)) (by rw [hlen]; exact Nat.le_refl _)
          rw [hlen] at this
          exact this
        · cases h
      · cases h
    · cases h
  · rename_i l
    obtain ⟨str, rfl, rfl⟩ := hx.str_inv
    split at h
    · rename_i a b h1 h2 hu
      split at h
      · rename_i hc
        simp only [Option.some.injEq] at h; subst h
        have hb := bounds_run (P := K.P) (is := false) (cap := str.size) hs h1 h2 hc.1 hc.2 (by simp)
        have hsz : str.data.toList.length = str.size := by simp
        rw [hsz] at hb
        refine ⟨.string (str.extract a b), by simp [Instr.sliceAt, Instr.slice, r_underlying w hu, hb], .pure _ _ ?_⟩
        have := PRep.str (w := w) (S := S) (str.extract a b)
        have e : (str.extract a b).data.toList = (str.data.toList.take b).drop a := by simp [List.drop_take]
        rw [e] at this; exact this
      · cases h
    · cases h
  · rename_i nm es top l0 len
    split at h
    · rename_i a b e h1 h2 hte
      have hu := telem_some hte
      split at h
      · rename_i hc
        obtain ⟨c1, c2, c3⟩ := hc
        cases hx with
        | hdr nm es top lo0 len cap b0 n e0 hl hm hcl ht hsh hn =>
        have hb := bounds_run (P := K.P) (is := true) (cap := cap) hs h1 h2 c1 c2 hcl
        refine ⟨.slice (if cap = a then some ⟨b0, l0 * es, none⟩ else (some ⟨b0, l0 * es, none⟩ : Option Addr).map (·.add (a * es))) (b - a) (cap - a),
          by simp [Instr.sliceAt, Instr.slice, r_underlying w hu, hb, r_size w c3], ?_⟩
        split at h
        · simp only [Option.some.injEq] at h; subst h
          rename_i hab; subst hab
          rw [Nat.sub_self]; exact .pure _ _ (.slice0 _ _)
        · simp only [Option.some.injEq] at h; subst h
          rw [if_neg (by omega)]
          have := VRel.hdr (w := w) (S := S) (μ := μ) (ℓ := k) nm es top (l0 + a) (b - a) (cap - a) b0 n e0 hl hm (by omega) (by omega) hsh
            (by have : l0 + a + (cap - a) = l0 + cap := by omega
                rw [this]; exact hn)
          simpa [add_none, Nat.add_mul] using this
      · cases h
    · cases h
  · rename_i l
    split at h
    · rename_i a b e h1 h2 hte
      have hu := telem_some hte
      split at h
      · rename_i hc
        split at h
        · rename_i es hes
          split at h
          · rename_i hall
            simp only [Option.some.injEq] at h; subst h
            obtain ⟨base, cap, rfl, hcp⟩ := hx.pv.slice_inv
            have hb := bounds_run (P := K.P) (is := true) (cap := cap) hs h1 h2 hc.1 hc.2 hcp
            obtain ⟨_, q2⟩ := slice_pure_rel (a := a) (b := b) hx.pv hc.1 hc.2 hall
            exact ⟨_, by simp [Instr.sliceAt, Instr.slice, r_underlying w hu, hb, r_size w hes], .pure _ _ q2⟩
          · cases h
        · cases h
      · cases h
    · cases h
  · split at h
    · rename_i e h1 h2 hte
      have hu := telem_some hte
      split at h
      · rename_i hsz
        simp only [Option.some.injEq] at h; subst h
        cases hx with
        | nils base =>
        obtain ⟨es, hes⟩ := Option.isSome_iff_exists.1 hsz
        have hb := bounds_run (P := K.P) (is := true) (len := 0) (cap := 0) hs h1 h2 (Nat.le_refl _) (Nat.le_refl _) (Nat.le_refl _)
        exact ⟨.slice base 0 0, by simp [Instr.sliceAt, Instr.slice, r_underlying w hu, hb, r_size w hes], .pure _ _ (.slice0 _ _)⟩
      · cases h
    · cases h
  · cases h
theorem len_sound (K : Ctx) (hH : HRel w S μ H) {k : Nat} {t ty : TypeId} {ats : Array TypeId} {va : Value} {x : GV} {n : Int} {args : Array Value} (hx : VRel w S μ k va x) (ht : ats[0]? = some t) (ha : args[0]? = some va)
    (h : glen K t H x = some n) : (Builtin.len_ ats ty args).run K.P w = .ok (.int .i64 n) w := by
  unfold glen at h
  split at h
  · rename_i hu; simp only [Option.some.injEq] at h; subst h
    simp [Builtin.len_, ht, ha, r_underlying w hu, goInt]
  · rename_i hu; simp only [Option.some.injEq] at h; subst h
    cases hx
    simp [Builtin.len_, ht, ha, r_underlying w hu, goInt]
  · rename_i hu; simp only [Option.some.injEq] at h; subst h
    cases hx
    simp [Builtin.len_, ht, ha, r_underlying w hu, goInt]
  · rename_i hu; simp only [Option.some.injEq] at h; subst h
    cases hx
    simp [Builtin.len_, ht, ha, r_underlying w hu, goInt]
  · rename_i hu; simp only [Option.some.injEq] at h; subst h
    cases hx
    simp [Builtin.len_, ht, ha, r_underlying w hu, goInt]
  · rename_i hu; simp only [Option.some.injEq] at h; subst h
    obtain ⟨base, cap, rfl, hcp⟩ := hx.pv.slice_inv
    simp [Builtin.len_, ht, ha, r_underlying w hu, goInt]
  · rename_i hu; simp only [Option.some.injEq] at h; subst h
    obtain ⟨str, rfl, rfl⟩ := hx.str_inv
    simp [Builtin.len_, ht, ha, r_underlying w hu, goInt]
  · rename_i hu; simp only [Option.some.injEq] at h; subst h
    have := hx.pv
    cases this
    simp [Builtin.len_, ht, ha, r_underlying w hu, goInt]
  · rename_i nm hu
    split at h
    · rename_i es hg
      simp only [Option.some.injEq] at h; subst h
      cases hx with
      | map nm b' hl hm =>
      obtain ⟨b, ms, clock, h1, h2, h3, h4, h5⟩ := hH.blk _ _ hg _ _ hm
      rw [hm] at h1; simp only [Option.some.injEq] at h1; subst h1
      have hgo : (getObj b').run K.P w = .ok (.map ms clock) w := by simp [getObj, Sem.run, h3]
      simp [Builtin.len_, ht, ha, r_underlying w hu, goInt, hgo, h4]
    · cases h
  · cases h
theorem minmax_sound {k : Nat} {mx : Bool} : ∀ (gs : List GV) (vs : List Value) (r : GV) , vs.length = gs.length → (∀ j, j < gs.length → VRel w S μ k (vs.getD j undef) (gs.getD j gdead)) → gminmax mx gs = some r →
    ∃ v0 rest kd n, vs = v0 :: rest ∧ r = .pure (.int kd n) ∧ (rest.foldlM (if mx then Builtin.max2 else Builtin.min2) v0).run P w = .ok (.int kd n) w
  | [], vs, r, _, _, h => by simp [gminmax] at h
  | [g], vs, r, hl, hr, h => by
    match vs, hl with
    | [v], _ =>
    have h0 := hr 0 (by simp)
    simp at h0
    unfold gminmax at h
    split at h
    · rename_i heq; simp at heq
    · rename_i kd a heq
      simp at heq; subst heq
      simp only [Option.some.injEq] at h; subst h
      obtain rfl := h0.int_inv
      exact ⟨_, _, _, _, rfl, rfl, by simp⟩
    · rename_i heq; simp at heq
    · cases h
  | g :: g' :: gs, vs, r, hl, hr, h => by
    match vs, hl with
    | v :: v' :: vs, hl =>
    have h0 := hr 0 (by simp)
    have h1 := hr 1 (by simp)
    simp at h0 h1
    unfold gminmax at h
    split at h
    · rename_i heq; simp at heq
    · rename_i heq; simp at heq
    · rename_i kd a kd' b rest heq
      simp at heq
      obtain ⟨rfl, rfl, rfl⟩ := heq
      split at h
      · rename_i hk; subst hk
        obtain rfl := h0.int_inv
        obtain rfl := h1.int_inv
        obtain ⟨v0, rest', kd', n', e1, e2, e3⟩ := minmax_sound (k := k) (mx := mx) _ (.int kd (if mx then (if a < b then b else a) else (if b < a then b else a)) :: vs) r (by simpa using hl)
          (fun j hj => by
            cases j with
            | zero => simp; exact .pure _ _ (.int _ _)
            | succ j => have := hr (j + 2) (by simpa using hj); simpa using this) h
        simp only [List.cons.injEq] at e1
        obtain ⟨rfl, rfl⟩ := e1
        refine ⟨_, _, kd', n', rfl, e2, ?_⟩
        rw [List.foldlM_cons]
        cases mx
        · simp only [Bool.false_eq_true, if_false, Builtin.min2] at e3 ⊢
          simpa using e3
        · simp only [if_true, Builtin.max2] at e3 ⊢
          simpa using e3
      · cases h
    · cases h
termination_by gs => gs.length
end
end Go.Gh


/- Maps. -/
namespace Go.Gh
open Go.MapKept
set_option linter.unusedSimpArgs false
set_option linter.unusedVariables false
section
variable {w : World} {S : Nat → Prop} {μ : Mu} {H : Heap} {P : Program} {ℓ : Nat}
theorem keyFits_is {kt : TypeId} {v : Value} {p : PV} (hv : PRep w S v p) (h : keyFits P kt p = true) : ∃ d, P.underlying kt = some d ∧ IsKey d v ∧ v = scalV p := by
  unfold keyFits at h
  split at h
  · rename_i hu; cases hv; simp at h; exact ⟨_, hu, by simp [IsKey, h], rfl⟩
  · rename_i hu; cases hv; exact ⟨_, hu, by simp [IsKey], by simp [scalV]⟩
  · rename_i hu; cases hv; exact ⟨_, hu, by simp [IsKey], rfl⟩
  · cases h
theorem rowEq_eq : ∀ {a b : List PV}, rowEq a b = some true → a = b
  | [], b, h => by cases b <;> simp_all [rowEq]
  | x :: a, b, h => by
    cases b with
    | nil => cases x <;> simp [rowEq] at h
    | cons y b =>
      cases x <;> cases y <;> simp only [rowEq] at h
      all_goals first | (cases h; done) | skip
      · split at h
        · rename_i hk; subst hk
          split at h
          · rename_i q hq
            simp only [Option.some.injEq, Bool.and_eq_true, beq_iff_eq] at h
            obtain ⟨rfl, rfl⟩ := h
            rw [rowEq_eq hq]
          · cases h
        · cases h
      · split at h
        · rename_i q hq
          simp only [Option.some.injEq, Bool.and_eq_true, beq_iff_eq] at h
          obtain ⟨rfl, rfl⟩ := h
          rw [rowEq_eq hq]
        · cases h
      · split at h
        · rename_i q hq
          simp only [Option.some.injEq, Bool.and_eq_true, beq_iff_eq] at h
          obtain ⟨rfl, rfl⟩ := h
          rw [rowEq_eq hq]
        · cases h
theorem keyEq_eq {a b : PV} (h : keyEq a b = some true) : a = b := by
  unfold keyEq at h
  split at h
  · simp_all
  · simp_all
  · simp_all
  · rw [rowEq_eq h]
  · cases h
theorem sameNow_of {d : TypeDesc} {v u : Value} {p q : PV} {r : Bool} (hv : PRep w S v p) (hu : PRep w S u q) (hd : IsKey d v) (h : keyEq p q = some r) : Instr.sameNow d v u = some r := by
  unfold keyEq at h
  split at h
  · cases hv; cases hu
    split at h
    · rename_i hk; subst hk
      cases d <;> simp [IsKey] at hd
      simp only [Option.some.injEq] at h; subst h
      simp [Instr.sameNow]
    · cases h
  · cases hv; cases hu
    cases d <;> simp [IsKey] at hd
    simp only [Option.some.injEq] at h; subst h
    rename_i s1 s2
    have : (s1 == s2) = (s1.data.toList == s2.data.toList) := by
      rw [Bool.eq_iff_iff, bytes_beq]
      simp
      constructor
      · intro h; rw [h]
      · intro h; cases s1; cases s2; simp_all
    simp [Instr.sameNow, this]
  · cases hv; cases hu
    cases d <;> simp [IsKey] at hd
    simp only [Option.some.injEq] at h; subst h
    simp [Instr.sameNow]
  · cases hv
    cases d <;> simp [IsKey] at hd
  · cases h
theorem keyEq_scal {d : TypeDesc} {v : Value} {p q : PV} {r : Bool} (hv : PRep w S v p) (hd : IsKey d v) (h : keyEq p q = some r) : (∃ k n, p = .int k n) ∨ (∃ b, p = .bool b) ∨ ∃ l, p = .str l := by
  unfold keyEq at h
  split at h
  · exact .inl ⟨_, _, rfl⟩
  · exact .inr (.inr ⟨_, rfl⟩)
  · exact .inr (.inl ⟨_, rfl⟩)
  · cases hv
    cases d <;> simp [IsKey] at hd
  · cases h
def EntRel (w : World) (S : Nat → Prop) (μ : Mu) (k : Nat) (m : MapEntry) (e : PV × GV) : Prop := PRep w S m.key e.1 ∧ VRel w S μ k m.val e.2
theorem find_run {d : TypeDesc} {v : Value} {p : PV} {k : Nat} (hv : PRep w S v p) (hd : IsKey d v) : ∀ (ms : List MapEntry) (es : List (PV × GV)) (i : Nat) (r : Option (Nat × GV)), ms.length = es.length →
    (∀ (j : Nat) (m : MapEntry) (e : PV × GV), ms[j]? = some m → es[j]? = some e → EntRel w S μ k m e) → findEntry p es i = some r →
    ∃ r', Instr.findNow d v ms i = some r' ∧ (match r, r' with
      | none, none => True
      | some (n, g), some (n', u) => n = n' ∧ VRel w S μ k u g ∧ i ≤ n ∧ ∃ m, ms[n - i]? = some m ∧ m.key = v
      | _, _ => False)
  | [], es, i, r, hl, _, h => by
    have : es = [] := List.eq_nil_of_length_eq_zero (by simpa using hl.symm)
    subst this
    simp only [findEntry, Option.some.injEq] at h; subst h
    exact ⟨none, rfl, trivial⟩
  | m :: ms, es, i, r, hl, hr, h => by
    cases es with
    | nil => simp at hl
    | cons e es =>
    obtain ⟨q, g⟩ := e
    obtain ⟨h1, h2⟩ := hr 0 m (q, g) (by simp) (by simp)
    simp only [findEntry] at h
    split at h
    · rename_i hq
      simp only [Option.some.injEq] at h; subst h
      refine ⟨some (i, m.val), by simp [Instr.findNow, sameNow_of hv h1 hd hq], rfl, h2, Nat.le_refl _, m, by simp, ?_⟩
      have hsc := keyEq_scal hv hd hq
      have e := keyEq_eq hq
      subst e
      rw [scalV_of hv hsc]; exact scalV_of h1 hsc
    · rename_i hq
      obtain ⟨r', a1, a2⟩ := find_run hv hd ms es (i + 1) r (by simpa using hl) (fun j m' e' a b => hr (j + 1) m' e' (by simpa using a) (by simpa using b)) h
      refine ⟨r', by simp [Instr.findNow, sameNow_of hv h1 hd hq, a1], ?_⟩
      match r, r', a2 with
      | none, none, _ => trivial
      | some (n, g), some (n', u), a2 =>
        obtain ⟨b1, b2, b3, m', b4, b5⟩ := a2
        refine ⟨b1, b2, by omega, m', ?_, b5⟩
        have : n - i = (n - (i + 1)) + 1 := by omega
        rw [this]; simpa using b4
    · cases h
theorem rowEq_fits : ∀ {ks : List SK} {a b : List PV} {q : Bool}, fitsRow ks a = true → rowEq a b = some q → eqRow ks a b = some q
  | [], a, b, q, hf, h => by cases a <;> simp [fitsRow] at hf; cases b <;> simp_all [rowEq, eqRow]
  | s :: ks, [], b, q, hf, h => by cases s <;> simp [fitsRow] at hf
  | s :: ks, x :: a, [], q, hf, h => by cases x <;> simp [rowEq] at h
  | s :: ks, x :: a, y :: b, q, hf, h => by
    cases s <;> cases x <;> simp only [fitsRow, Bool.false_eq_true] at hf
    all_goals cases y <;> simp only [rowEq] at h
    all_goals first | (cases h; done) | skip
    · simp only [Bool.and_eq_true, decide_eq_true_eq] at hf
      obtain ⟨rfl, hf⟩ := hf
      split at h
      · rename_i hk; subst hk
        split at h
        · rename_i q' hq
          simp only [eqRow, and_self, if_true, rowEq_fits hf hq]; exact h
        · cases h
      · cases h
    · split at h
      · rename_i q' hq
        simp only [eqRow, rowEq_fits hf hq]; exact h
      · cases h
    · split at h
      · rename_i q' hq
        simp only [eqRow, rowEq_fits hf hq]; exact h
      · cases h
theorem rowEq_self : ∀ {ks : List SK} {a : List PV}, fitsRow ks a = true → rowEq a a = some true
  | [], a, hf => by cases a <;> simp_all [fitsRow, rowEq]
  | s :: ks, [], hf => by cases s <;> simp [fitsRow] at hf
  | s :: ks, x :: a, hf => by
    cases s <;> cases x <;> simp only [fitsRow, Bool.false_eq_true] at hf
    · simp only [Bool.and_eq_true] at hf
      simp [rowEq, rowEq_self hf.2]
    · simp [rowEq, rowEq_self hf]
    · simp [rowEq, rowEq_self hf]
theorem PRep.row_inv {v : Value} {a : List PV} (h : PRep w S v (.agg a)) (hp : ∀ p ∈ a, (∃ k n, p = .int k n) ∨ (∃ b, p = .bool b) ∨ ∃ l, p = .str l) : v = .agg (a.map scalV).toArray := by
  have h0 : VRel w S (fun _ _ => none) 0 v (.pure (.agg a)) := .pure _ _ h
  obtain ⟨vs, rfl, hc⟩ := h0.agg_inv
  have := scal_cells hc hp
  rw [← this]
theorem sameBits_self (a : List PV) (n : Nat) (hp : ∀ p ∈ a, (∃ k n, p = .int k n) ∨ (∃ b, p = .bool b) ∨ ∃ l, p = .str l) : Instr.sameBits (n + 1) (.agg (a.map scalV).toArray) (.agg (a.map scalV).toArray) = true := by
  have h1 : ∀ p ∈ a, Instr.sameBits n (scalV p) (scalV p) = true := fun p hp' => by
    rcases hp p hp' with ⟨k, m, rfl⟩ | ⟨b, rfl⟩ | ⟨l, rfl⟩
    · cases n <;> simp [scalV, Instr.sameBits]
    · cases n <;> simp [scalV, Instr.sameBits]
    · have : ((⟨l.toArray⟩ : ByteArray) == ⟨l.toArray⟩) = true := by rw [bytes_beq]
      cases n <;> simp [scalV, Instr.sameBits, this]
  simp only [Instr.sameBits, beq_self_eq_true, Bool.true_and, List.all_eq_true]
  intro x hx
  have : ∀ (l : List PV), (∀ p ∈ l, Instr.sameBits n (scalV p) (scalV p) = true) → ∀ x ∈ (l.map scalV).zip (l.map scalV), Instr.sameBits n x.1 x.2 = true := by
    intro l
    induction l with
    | nil => intro _ x hx; simp at hx
    | cons p l ih =>
      intro hl x hx
      simp only [List.map_cons, List.zip_cons_cons, List.mem_cons] at hx
      rcases hx with rfl | hx
      · exact hl p (by simp)
      · exact ih (fun q hq => hl q (by simp [hq])) x hx
  exact this a h1 x (by simpa using hx)
/-- What a key is good for. -/
theorem key_run (K : Ctx) (hK : CtxOk K) {kt : TypeId} {v : Value} {p : PV} {k : Nat} (hv : PRep w S v p) (h : keyFitsK K kt p = true) :
    (∀ em, (Instr.checkKey em 10000 kt v).run K.P w = .ok () w) ∧
    (∀ (ms : List MapEntry) (es : List (PV × GV)) (r : Option (Nat × GV)), ms.length = es.length → (∀ (j : Nat) (m : MapEntry) (e : PV × GV), ms[j]? = some m → es[j]? = some e → EntRel w S μ k m e) → findEntry p es 0 = some r →
      ∃ r', (Instr.findKey kt v ms).run K.P w = .ok r' w ∧ (match r, r' with
        | none, none => True
        | some (n, g), some (n', u) => n = n' ∧ VRel w S μ k u g ∧ ∃ m, ms[n]? = some m ∧ m.key = v
        | _, _ => False)) ∧
    (Instr.keyThatStays v v).run K.P w = .ok v w := by
  unfold keyFitsK at h
  simp only [Bool.or_eq_true] at h
  rcases h with h | h
  · obtain ⟨d, d1, d2, d3⟩ := keyFits_is hv h
    refine ⟨fun em => run_checkKey d1 d2 em 9999, fun ms es r hl hr hf => ?_, by simpa using run_keyThatStays d2⟩
    obtain ⟨r', f1, f2⟩ := find_run hv d2 ms es 0 r hl hr hf
    refine ⟨r', run_findKey (w := w) d1 f1, ?_⟩
    match r, r', f2 with
    | none, none, _ => trivial
    | some (n, g), some (n', u), f2 =>
      obtain ⟨b1, b2, _, m, b4, b5⟩ := f2
      exact ⟨b1, b2, m, by simpa using b4, b5⟩
  · split at h
    · rename_i ks a d0 hks hund
      obtain ⟨e1, e2⟩ := hK.eqs kt ks hks
      have hself := rowEq_fits h (rowEq_self h)
      have hsc := (eqRow_scal ks a a true hself).1
      have hva := hv.row_inv hsc
      subst hva
      refine ⟨fun em => (e2 a a true hself w).2 em, ?_, ?_⟩
      · have ask : ∀ (ms : List MapEntry) (es : List (PV × GV)) (i : Nat) (r : Option (Nat × GV)), ms.length = es.length → (∀ (j : Nat) (m : MapEntry) (e : PV × GV), ms[j]? = some m → es[j]? = some e → EntRel w S μ k m e) →
            findEntry (.agg a) es i = some r → ∃ r', (Instr.findAsking kt (.agg (a.map scalV).toArray) ms i).run K.P w = .ok r' w ∧ (match r, r' with
              | none, none => True
              | some (n, g), some (n', u) => n = n' ∧ VRel w S μ k u g ∧ i ≤ n ∧ ∃ m, ms[n - i]? = some m ∧ m.key = .agg (a.map scalV).toArray
              | _, _ => False) := by
          intro ms
          induction ms with
          | nil =>
            intro es i r hl hr hf
            have : es = [] := List.eq_nil_of_length_eq_zero (by simpa using hl.symm)
            subst this
            simp only [findEntry, Option.some.injEq] at hf; subst hf
            exact ⟨none, by simp [Instr.findAsking], trivial⟩
          | cons m ms ih =>
            intro es i r hl hr hf
            cases es with
            | nil => simp at hl
            | cons e es =>
            obtain ⟨q, g⟩ := e
            obtain ⟨h1, h2⟩ := hr 0 m (q, g) (by simp) (by simp)
            simp only [findEntry] at hf
            have heq : ∀ bq, keyEq (.agg a) q = some bq → (Op.equal kt (.agg (a.map scalV).toArray) m.key).run K.P w = .ok bq w := fun bq hq => by
              cases q <;> simp only [keyEq] at hq
              all_goals first | (cases hq; done) | skip
              rename_i b
              have hr := rowEq_fits h hq
              have hb := (eqRow_scal ks a b bq hr).2
              rw [h1.row_inv hb]
              exact (e2 a b bq hr w).1
            split at hf
            · rename_i hq
              simp only [Option.some.injEq] at hf; subst hf
              refine ⟨some (i, m.val), by simp [Instr.findAsking, heq true hq], rfl, h2, Nat.le_refl _, m, by simp, ?_⟩
              cases q <;> simp only [keyEq] at hq
              all_goals first | (cases hq; done) | skip
              rename_i b
              obtain rfl := rowEq_eq hq
              exact PRep.row_inv h1 hsc
            · rename_i hq
              obtain ⟨r', a1, a2⟩ := ih es (i + 1) r (by simpa using hl) (fun j m' e' a b => hr (j + 1) m' e' (by simpa using a) (by simpa using b)) hf
              refine ⟨r', by simp [Instr.findAsking, heq false hq, a1], ?_⟩
              match r, r', a2 with
              | none, none, _ => trivial
              | some (n, g), some (n', u), a2 =>
                obtain ⟨b1, b2, b3, m', b4, b5⟩ := a2
                refine ⟨b1, b2, by omega, m', ?_, b5⟩
                have : n - i = (n - (i + 1)) + 1 := by omega
                rw [this]; simpa using b4
            · cases hf
        intro ms es r hl hr hf
        have hkey : (Instr.findKey kt (.agg (a.map scalV).toArray) ms).run K.P w = (match ms with | [] => .ok none w | ms => (Instr.findAsking kt (.agg (a.map scalV).toArray) ms).run K.P w) := by
          unfold Instr.findKey
          have hd : (underlying kt).run K.P w = .ok d0 w := r_underlying w hund
          cases ms with
          | nil => simp [hd, Instr.findNow]
          | cons m ms =>
            have : Instr.sameNow d0 (.agg (a.map scalV).toArray) m.key = none := by cases d0 <;> rfl
            simp [hd, Instr.findNow, this]
        cases ms with
        | nil =>
          have : es = [] := List.eq_nil_of_length_eq_zero (by simpa using hl.symm)
          subst this
          simp only [findEntry, Option.some.injEq] at hf; subst hf
          exact ⟨none, hkey, trivial⟩
        | cons m ms =>
          obtain ⟨r', a1, a2⟩ := ask (m :: ms) es 0 r hl hr hf
          refine ⟨r', hkey.trans a1, ?_⟩
          match r, r', a2 with
          | none, none, _ => trivial
          | some (n, g), some (n', u), a2 =>
            obtain ⟨b1, b2, _, m', b4, b5⟩ := a2
            exact ⟨b1, b2, m', by simpa using b4, b5⟩
      · have := sameBits_self a 9999 hsc
        unfold Instr.keyThatStays
        rw [this]
        rfl
    · cases h
theorem tmap_some {t kt e : TypeId} (h : tmap P t = some (kt, e)) : P.underlying t = some (.map kt e) := by
  unfold tmap at h
  split at h
  · rename_i hu; simp at h; obtain ⟨rfl, rfl⟩ := h; exact hu
  · cases h
theorem mapOf_run (hH : HRel w S μ H) {k : Nat} {v : Value} {x : GV} {es : List (PV × GV)} (hx : VRel w S μ k v x) (h : mapOf H x = some es) :
    ∃ ms : Array MapEntry, ((v = .map none ∧ ms = #[]) ∨ ∃ b clock, v = .map (some b) ∧ w.heap[b]? = some (.map ms clock)) ∧ ms.toList.length = es.length ∧
      ∀ (j : Nat) (m : MapEntry) (e : PV × GV), ms.toList[j]? = some m → es[j]? = some e → EntRel w S μ k m e := by
  unfold mapOf at h
  split at h
  · simp only [Option.some.injEq] at h; subst h
    have := hx.pv
    cases this
    exact ⟨#[], .inl ⟨rfl, rfl⟩, rfl, fun j m e h => by simp at h⟩
  · rename_i nm
    split at h
    · rename_i es' hg
      simp only [Option.some.injEq] at h; subst h
      cases hx with
      | map nm b' hl hm =>
      obtain ⟨b, ms, clock, h1, h2, h3, h4, h5⟩ := hH.blk _ _ hg _ _ hm
      rw [hm] at h1; simp only [Option.some.injEq] at h1; subst h1
      refine ⟨ms, .inr ⟨b', clock, rfl, h3⟩, by simpa using h4, fun j m e a b => ?_⟩
      have hj : j < es'.length := by rcases Nat.lt_or_ge j es'.length with h | h; exact h; rw [List.getElem?_eq_none h] at b; cases b
      obtain ⟨m', m1, m2, m3⟩ := h5 j hj
      rw [List.getElem?_eq_getElem hj] at b
      simp only [Option.some.injEq] at b; subst b
      have : ms[j]? = some m := by simpa using a
      rw [this] at m1; simp only [Option.some.injEq] at m1; subst m1
      exact ⟨m2, m3.up hl⟩
    · cases h
  · cases h
theorem lookup_run {t kt e : TypeId} {vx vk : Value} {ok : Bool} {ms : Array MapEntry} {r : Option (Nat × Value)} {z : Value} (hu : P.underlying t = some (.map kt e))
    (hv : (vx = .map none ∧ ms = #[]) ∨ ∃ b clock, vx = .map (some b) ∧ w.heap[b]? = some (.map ms clock)) (hck : ∀ em, (Instr.checkKey em 10000 kt vk).run P w = .ok () w)
    (hf : (Instr.findKey kt vk ms.toList).run P w = .ok r w) (hz : r = none → (zeroValue e).run P w = .ok z w) :
    (Instr.lookup t vx vk ok).run P w = .ok (if ok then .tuple #[(match r with | some (_, v) => v | none => z), .bool r.isSome] else (match r with | some (_, v) => v | none => z)) w := by
  rcases hv with ⟨rfl, rfl⟩ | ⟨b, clock, rfl, hb⟩
  · cases r with
    | none => have := hz rfl; cases ok <;> simp at hf <;> simp [Instr.lookup, r_underlying w hu, hck, hf, this]
    | some x => cases ok <;> simp at hf <;> simp [Instr.lookup, r_underlying w hu, hck, hf]
  · have hg := Go.MapKept.run_getObj_map (P := P) hb
    cases r with
    | none => have := hz rfl; cases ok <;> simp [Instr.lookup, r_underlying w hu, hg, hck, hf, this]
    | some x => cases ok <;> simp [Instr.lookup, r_underlying w hu, hg, hck, hf]
theorem pair_rel {k : Nat} {v : Value} {g : GV} (h : VRel w S μ k v g) (b : Bool) : VRel w S μ k (.tuple #[v, .bool b]) (mkTuple [g, .pure (.bool b)]) :=
  mkTuple_rel (by simp) fun j hj => by
    simp at hj
    match j, hj with
    | 0, _ => simpa using h
    | 1, _ => simpa using VRel.pure _ _ (.bool b)
theorem lookup_sound (K : Ctx) (hK : CtxOk K) (hH : HRel w S μ H) {k : Nat} {t : TypeId} {vx vk : Value} {x y r : GV} {ok : Bool} (hx : VRel w S μ k vx x) (hy : VRel w S μ k vk y)
    (h : glookup K t H x y ok = some r) : ∃ u, (Instr.lookup t vx vk ok).run K.P w = .ok u w ∧ VRel w S μ k u r := by
  unfold glookup at h
  split at h
  · rename_i kt e p es ht hes
    have hu := tmap_some ht
    split at h
    · cases h
    · rename_i hf
      obtain ⟨hck, hfind, _⟩ := key_run (μ := μ) (k := k) K hK hy.pv (by simpa using hf)
      obtain ⟨ms, m1, m2, m3⟩ := mapOf_run hH hx hes
      split at h
      · rename_i i g hfe
        obtain ⟨r', hfk, f2⟩ := hfind _ _ _ m2 m3 hfe
        match r', f2 with
        | some (n', u), f2 =>
        obtain ⟨_, f3, _⟩ := f2
        simp only [Option.some.injEq] at h; subst h
        refine ⟨_, lookup_run (z := undef) hu m1 hck hfk (by simp), ?_⟩
        cases ok with
        | true => simpa using pair_rel f3 true
        | false => simpa using f3
      · rename_i hfe
        obtain ⟨r', hfk, f2⟩ := hfind _ _ _ m2 m3 hfe
        match r', f2 with
        | none, _ =>
        split at h
        · rename_i z hz
          simp only [Option.some.injEq] at h; subst h
          obtain ⟨v, z1, rfl⟩ := r_zero (P := K.P) w hz
          have hv : VRel w S μ k v (ofConst v) := ofConst_rel v
          refine ⟨_, lookup_run hu m1 hck hfk (fun _ => z1), ?_⟩
          cases ok with
          | true => simpa using pair_rel hv false
          | false => simpa using hv
        · cases h
      · cases h
  · cases h
/-- A map of a name's own, turned. -/
theorem HRel.mapTurn (hH : HRel w S μ H) {nm : Nm} {es es' : List (PV × GV)} {b : Nat} {ms ms' : Array MapEntry} {clock clock' : Nat} (hg : H.get nm = some (.map es)) (hm : μ nm 0 = some b) (hS : ¬ S b)
    (hb : w.heap[b]? = some (.map ms clock)) (hs : ms'.size = es'.length)
    (hr : ∀ (j : Nat) (m : MapEntry) (e : PV × GV), ms'[j]? = some m → es'[j]? = some e → EntRel w S μ nm.1 m e) :
    HRel { w with heap := w.heap.setIfInBounds b (.map ms' clock') } S μ (H.set nm (.map es')) ∧ Ev ℓ w S μ { w with heap := w.heap.setIfInBounds b (.map ms' clock') } S μ := by
  obtain ⟨e1, e2⟩ := heap_set (o' := .map ms' clock') hb
  have hne : ∀ b', S b' → b' ≠ b := fun b' h e => hS (e ▸ h)
  have hshp : ∀ b' y, w.shape? b' = some y → (({ w with heap := w.heap.setIfInBounds b (.map ms' clock') } : World)).shape? b' = some y := fun b' y h => by
    unfold World.shape? at h ⊢
    by_cases e : b' = b
    · subst e; rw [hb] at h; simp at h
    · show (match (w.heap.setIfInBounds b (.map ms' clock'))[b']? with | _ => _) = _
      simp only [e2 b' e]; exact h
  refine hH.turn ℓ (Heap.get_lt hg) rfl rfl rfl (by simp) (fun _ h => h) (fun b h => .inl h) (fun b' h => by simpa using hH.slt b' h) (fun k hk ho => ?_) hshp (fun b' r h => ?_)
    (fun n t _ => rfl) (fun t b h => h) (fun t b h => .inl ⟨t, h⟩) (fun t b' h => by simpa using hH.lt _ _ _ h) ⟨b, ms', clock', hm, hS, e1, hs, fun j hj => ?_⟩
  · refine e2 k fun e => ?_
    subst e
    rcases ho with ho | ho
    · exact hS ho
    · exact ho 0 hm
  · by_cases e : b' = b
    · subst e; rw [hb] at h; cases h
    · exact ⟨r, by show (w.heap.setIfInBounds b _)[b']? = _; rw [e2 b' e]; exact h⟩
  · have hj' : j < ms'.size := by omega
    obtain ⟨q1, q2⟩ := hr j ms'[j] es'[j] (by simp [hj']) (by simp [hj])
    refine ⟨ms'[j], by simp [hj'], q1.mono (fun _ h => h) fun b' h => e2 b' (hne b' h), q2.mono (fun _ h => h) (fun b' h => e2 b' (hne b' h)) hshp (fun _ _ _ _ h => h) (Nat.le_refl _)⟩
theorem lowerVal_rel (ℓ : Nat) (hH : HRel w S μ H) {k l0 : Nat} {v : Value} {g g' : GV} {H1 : Heap} (hv : VRel w S μ k v g) (h : lowerVal H l0 g = some (g', H1)) :
    ∃ S', HRel w S' μ H1 ∧ Ev ℓ w S μ w S' μ ∧ VRel w S' μ l0 v g' ∧ SameBox H H1 := by
  unfold lowerVal at h
  split at h
  · rename_i l
    obtain ⟨vs, rfl, hc⟩ := hv.cells
    simp only [Option.some.injEq, Prod.mk.injEq] at h
    obtain ⟨rfl, rfl⟩ := h
    obtain ⟨S', a1, a2, a3, a4⟩ := lowerCells_rel ℓ l0 hH hc
    exact ⟨S', a1, a2, mkAgg_rel' a3, a4⟩
  · cases h
  · cases h
  · simp only [Option.some.injEq, Prod.mk.injEq] at h
    obtain ⟨rfl, rfl⟩ := h
    exact lowerCell_rel ℓ hH l0 hv
theorem mapUpdate_sound (K : Ctx) (hK : CtxOk K) (hH : HRel w S μ H) {k : Nat} {t : TypeId} {vm vk vv : Value} {m y v : GV} {H' : Heap} (hm : VRel w S μ k vm m) (hy : VRel w S μ k vk y) (hv : VRel w S μ k vv v)
    (h : gmapUpdate K t H m y v = some H') :
    OpOk ℓ w S μ H ((do Instr.mapUpdate t vm vk vv; pure Next.skip : Sem Next).run K.P w) gdead H' := by
  unfold gmapUpdate at h
  split at h
  · rename_i kt e nm p ht
    have hu := tmap_some ht
    split at h
    · rename_i v' H1 hlow
      obtain ⟨S1, a1, a2, a3, a4⟩ := lowerVal_rel ℓ hH hv hlow
      split at h
      · rename_i es hg
        cases hm with
        | map nm b' hl hmm =>
        obtain ⟨b, ms, clock, h1, h2, h3, h4, h5⟩ := a1.blk _ _ hg _ _ hmm
        have hent : ∀ (j : Nat) (m : MapEntry) (e : PV × GV), ms.toList[j]? = some m → es[j]? = some e → EntRel w S1 μ nm.1 m e := fun j m e a b => by
          have hj : j < es.length := by rcases Nat.lt_or_ge j es.length with h | h; exact h; rw [List.getElem?_eq_none h] at b; cases b
          obtain ⟨m', m1, m2, m3⟩ := h5 j hj
          rw [List.getElem?_eq_getElem hj] at b
          simp only [Option.some.injEq] at b; subst b
          have : ms[j]? = some m := by simpa using a
          rw [this] at m1; simp only [Option.some.injEq] at m1; subst m1
          exact ⟨m2, m3⟩
        rw [hmm] at h1; simp only [Option.some.injEq] at h1; subst h1
        have hy1 : PRep w S1 vk p := hy.pv.mono a2.sub (fun _ _ => rfl)
        have hgo := Go.MapKept.run_getObj_map (P := K.P) h3
        split at h
        · cases h
        · rename_i hf
          obtain ⟨hck, hfind, hstay⟩ := key_run (μ := μ) (k := nm.1) K hK hy1 (by simpa using hf)
          split at h
          · rename_i i g hfe
            simp only [Option.some.injEq] at h; subst h
            obtain ⟨r', f1, f2⟩ := hfind _ _ _ (by simpa using h4) hent hfe
            match r', f1, f2 with
            | some (n', u), hfk, f2 =>
            obtain ⟨f0, f3, m, f5, f6⟩ := f2
            subst f0
            have hmi : ms[i]? = some m := by simpa using f5
            obtain ⟨q1, q2⟩ := HRel.mapTurn (ℓ := ℓ) a1 hg hmm h2 h3 (ms' := ms.modify i fun e => { e with key := vk, val := vv }) (es' := es.set i (p, v')) (clock' := clock) (by simpa using h4)
              (fun j m e a b => by
                rw [Array.getElem?_modify] at a
                rw [List.getElem?_set] at b
                by_cases hij : i = j
                · subst hij
                  rw [if_pos rfl] at a b
                  rw [hmi] at a
                  simp only [Option.map_some, Option.some.injEq] at a; subst a
                  split at b
                  · simp only [Option.some.injEq] at b; subst b
                    exact ⟨hy1, a3⟩
                  · cases b
                · rw [if_neg hij] at a b
                  exact hent j m e (by simpa using a) b)
            refine ⟨.skip, undef, _, S1, μ, ?_, .inr ⟨rfl, rfl⟩, vdead _, q1, a2.trans q2, by rw [Heap.length_set]; exact a4.1⟩
            simp [Instr.mapUpdate, r_underlying w hu, hgo, hck, hfk, hmi, f6, hstay, run_setObj_map _ h3]
          · rename_i hfe
            simp only [Option.some.injEq] at h; subst h
            obtain ⟨r', f1, f2⟩ := hfind _ _ _ (by simpa using h4) hent hfe
            match r', f1, f2 with
            | none, hfk, f2 =>
            obtain ⟨q1, q2⟩ := HRel.mapTurn (ℓ := ℓ) a1 hg hmm h2 h3 (ms' := ms.push { key := vk, val := vv, born := clock }) (es' := es ++ [(p, v')]) (clock' := clock + 1) (by simp [h4])
              (fun j m e a b => by
                rw [Array.getElem?_push] at a
                split at a
                · rename_i hj
                  simp only [Option.some.injEq] at a; subst a
                  rw [hj, h4] at b
                  simp at b; subst b
                  exact ⟨hy1, a3⟩
                · rename_i hj
                  have hlt : j < ms.size := by rcases Nat.lt_or_ge j ms.size with h | h; exact h; rw [Array.getElem?_eq_none h] at a; cases a
                  rw [List.getElem?_append_left (by omega)] at b
                  exact hent j m e (by simpa using a) b)
            refine ⟨.skip, undef, _, S1, μ, ?_, .inr ⟨rfl, rfl⟩, vdead _, q1, a2.trans q2, by rw [Heap.length_set]; exact a4.1⟩
            simp [Instr.mapUpdate, r_underlying w hu, hgo, hck, hfk, run_setObj_map _ h3]
          · cases h
      · cases h
    · cases h
  · cases h
end
end Go.Gh


/- Tables: slices of rows of one's own. -/
namespace Go.Gh
set_option linter.unusedSimpArgs false
set_option linter.unusedVariables false
section
variable {w w' : World} {S : Nat → Prop} {μ : Mu} {H : Heap} {P : Program} {ℓ : Nat}
theorem rix_inj {i j : Nat} (h : rix i = rix j) : i = j := by unfold rix at h; omega
theorem rix_ge (i : Nat) : rix 0 ≤ rix i := by unfold rix; omega
theorem MatRel.void {nm : Nm} {es : Nat} (hpos : 0 < es) (hno : ∀ t b, μ nm t ≠ some b) : MatRel w S μ nm es [] 0 where
  pos := hpos
  le := Nat.zero_le _
  lim := by unfold rix; omega
  wid := by simp
  row := fun i hi => by simp at hi
  inj := fun i j b h => absurd h (hno _ _)
  bnd := fun i b h => absurd h (hno _ _)
  top := fun t b _ h => absurd h (hno _ _)
/-- One row more. -/
theorem MatRel.push {nm : Nm} {es n b : Nat} {rows : List (List (List PV))} {r : List (List PV)} (m : MatRel w S μ nm es rows n) (hno : ∀ t, μ nm t ≠ some b) (hr : RowRel w S b es r) (hw : ∀ x ∈ r, x.length = es) :
    MatRel w S (μ.upd nm (rix rows.length) b) nm es (rows ++ [r]) n where
  pos := m.pos
  le := by have := m.le; simp; omega
  lim := m.lim
  wid := fun x hx => by
    rcases List.mem_append.1 hx with hx | hx
    · exact m.wid x hx
    · simp at hx; subst hx; exact hw
  row := fun i hi => by
    by_cases e : i = rows.length
    · subst e
      exact ⟨b, Mu.upd_self _ _ _ _, by simpa [List.getD_eq_getElem?_getD] using hr⟩
    · have hi' : i < rows.length := by simp at hi; omega
      obtain ⟨b', h1, h2⟩ := m.row i hi'
      refine ⟨b', by rw [Mu.upd_top _ _ _ (fun e2 => e (rix_inj e2))]; exact h1, ?_⟩
      have e3 : (rows ++ [r]).getD i [] = rows.getD i [] := by simp [List.getD_eq_getElem?_getD, List.getElem?_append_left hi']
      rw [e3]; exact h2
  inj := fun i j b' h1 h2 => by
    by_cases e : i = rows.length
    · by_cases e' : j = rows.length
      · rw [e, e']
      · subst e
        rw [Mu.upd_self] at h1; cases h1
        rw [Mu.upd_top _ _ _ (fun e2 => e' (rix_inj e2))] at h2
        exact absurd h2 (hno _)
    · rw [Mu.upd_top _ _ _ (fun e2 => e (rix_inj e2))] at h1
      by_cases e' : j = rows.length
      · subst e'
        rw [Mu.upd_self] at h2; cases h2
        exact absurd h1 (hno _)
      · rw [Mu.upd_top _ _ _ (fun e2 => e' (rix_inj e2))] at h2
        exact m.inj i j b' h1 h2
  bnd := fun i b' h1 => by
    by_cases e : i = rows.length
    · subst e; simp
    · rw [Mu.upd_top _ _ _ (fun e2 => e (rix_inj e2))] at h1
      have := m.bnd i b' h1; simp; omega
  top := fun t b' ht h1 => by
    have hne : t ≠ rix rows.length := by have := rix_ge rows.length; omega
    rw [Mu.upd_top _ _ _ hne] at h1
    obtain ⟨g1, g2, g3, g4, g5⟩ := m.top t b' ht h1
    have hml := m.le
    refine ⟨g1, g2, g3, fun i => ?_, fun i hi => ?_⟩
    · by_cases e : i = rows.length
      · subst e
        rw [Mu.upd_self]; intro e2; cases e2; exact hno t h1
      · rw [Mu.upd_top _ _ _ (fun e2 => e (rix_inj e2))]; exact g4 i
    · obtain ⟨bi, cap, k1, k2, k3⟩ := g5 i hi
      have hi' : i < rows.length := by omega
      have e3 : (rows ++ [r]).getD i [] = rows.getD i [] := by simp [List.getD_eq_getElem?_getD, List.getElem?_append_left hi']
      refine ⟨bi, cap, by rw [e3]; exact k1, by rw [Mu.upd_top _ _ _ (fun e2 => by have := rix_inj e2; omega)]; exact k2, by rw [e3]; exact k3⟩
/-- One row more is told. -/
theorem MatRel.tell {nm : Nm} {es n b : Nat} {rows : List (List (List PV))} (m : MatRel w S μ nm es rows n) (hn : n < rows.length) (hlim : n + 1 < rix 0) (hcells : ∃ c e, w.heap[b]? = some (.cells c e (0, 0))) (hS : ¬ S b) (hno : ∀ i, μ nm (rix i) ≠ some b)
    (hb : ∀ i, i < n + 1 → ∃ bi cap, w.cell? ⟨b, i, none⟩ = some (.slice (some ⟨bi, 0, none⟩) (rows.getD i []).length cap) ∧ μ nm (rix i) = some bi ∧ (rows.getD i []).length ≤ cap) :
    MatRel w S (μ.upd nm (n + 1) b) nm es rows (n + 1) := by
  have hrx : ∀ i, μ.upd nm (n + 1) b nm (rix i) = μ nm (rix i) := fun i => Mu.upd_top _ _ _ (by have := rix_ge i; omega)
  exact {
    pos := m.pos
    le := hn
    lim := hlim
    wid := m.wid
    row := fun i hi => by rw [hrx]; exact m.row i hi
    inj := fun i j b' h1 h2 => by rw [hrx] at h1 h2; exact m.inj i j b' h1 h2
    bnd := fun i b' h1 => by rw [hrx] at h1; exact m.bnd i b' h1
    top := fun t b' ht h1 => by
      by_cases e : t = n + 1
      · subst e
        rw [Mu.upd_self] at h1; cases h1
        exact ⟨Nat.le_refl _, hcells, hS, fun i => by rw [hrx]; exact hno i, fun i hi => by
          obtain ⟨bi, cap, k1, k2, k3⟩ := hb i hi
          exact ⟨bi, cap, k1, by rw [hrx]; exact k2, k3⟩⟩
      · rw [Mu.upd_top _ _ _ e] at h1
        obtain ⟨g1, g2, g3, g4, g5⟩ := m.top t b' ht h1
        exact ⟨by omega, g2, g3, fun i => by rw [hrx]; exact g4 i, fun i hi => by
          obtain ⟨bi, cap, k1, k2, k3⟩ := g5 i hi
          exact ⟨bi, cap, k1, by rw [hrx]; exact k2, k3⟩⟩ }
theorem MatRel.alloc {nm : Nm} {es n : Nat} {rows : List (List (List PV))} (hH : HRel w S μ H) (m : MatRel w S μ nm es rows n) (o : Obj) : MatRel (w.alloc o) S μ nm es rows n :=
  m.mono (fun _ h => h) (fun b hb => alloc_heap w o b (hH.slt b hb)) (fun _ => rfl) (fun t b h => alloc_heap w o b (hH.lt _ _ _ h)) (fun _ _ _ h => h)
/-- A new block of a table. -/
theorem mat_new {nm : Nm} {o : Obj} {top : Nat} {x : Blk} (hH : HRel w S μ H) (hl : nm.1 < H.length) (hno : ∀ b, μ nm top ≠ some b) (hx : BlkRel (w.alloc o) S (μ.upd nm top w.heap.size) nm x) :
    HRel (w.alloc o) S (μ.upd nm top w.heap.size) (H.set nm x) ∧ Ev ℓ w S μ (w.alloc o) S (μ.upd nm top w.heap.size) := by
  refine hH.turn ℓ hl rfl rfl rfl (by rw [alloc_size]; omega) (fun _ h => h) (fun b h => .inl h) (fun b h => by have := hH.slt b h; rw [alloc_size]; omega)
    (fun k hk _ => alloc_heap w o k hk) (alloc_shp w o) (alloc_lp w o) (fun n t h => Mu.upd_other μ _ _ _ h) (fun t b h => ?_) (fun t b h => ?_) (fun t b h => ?_) hx
  · by_cases e : t = top
    · subst e; exact absurd h (hno b)
    · rw [Mu.upd_top μ nm _ e]; exact h
  · by_cases e : t = top
    · subst e; rw [Mu.upd_self] at h; cases h; exact .inr (Nat.le_refl _)
    · rw [Mu.upd_top μ nm _ e] at h; exact .inl ⟨t, h⟩
  · by_cases e : t = top
    · subst e; rw [Mu.upd_self] at h; cases h; rw [alloc_size]; omega
    · rw [Mu.upd_top μ nm _ e] at h; have := hH.lt _ _ _ h; rw [alloc_size]; omega
theorem leads_get {nm : Nm} : ∀ {cs : List GV}, leads nm cs = true → ∃ j es top lo len, j < cs.length ∧ cs.getD j gdead = .hdr nm es top lo len
  | [], h => by simp [leads] at h
  | g :: r, h => by
    have tail : leads nm r = true → ∃ j es top lo len, j < (g :: r).length ∧ (g :: r).getD j gdead = .hdr nm es top lo len := fun h => by
      obtain ⟨j, es, top, lo, len, h1, h2⟩ := leads_get h
      exact ⟨j + 1, es, top, lo, len, by simpa using h1, by simpa using h2⟩
    cases g with
    | hdr m es top lo len =>
      simp only [leads, Bool.or_eq_true, decide_eq_true_eq] at h
      rcases h with h | h
      · subst h; exact ⟨0, es, top, lo, len, by simp, by simp⟩
      · exact tail h
    | _ => exact tail h
theorem addRow_some {bn : Nm} {key es i k off : Nat} {r : List (List PV)} {H' : Heap} {vb : Value} (hpos : 0 < es) (hH : HRel w S μ H) (hb : VRel w S μ k vb (.bptr bn off)) (h : addRow H bn key es r = some (i, H')) :
    ∃ rows n, bn.1 < H.length ∧ i = rows.length ∧ MatRel w S μ (bn.1, key) es rows n ∧ H' = H.set (bn.1, key) (.mat es (rows ++ [r]) n) := by
  unfold addRow at h
  split at h
  · cases h
  · rename_i hl
    split at h
    · rename_i hg
      simp only [Option.some.injEq, Prod.mk.injEq] at h
      obtain ⟨rfl, rfl⟩ := h
      exact ⟨[], 0, by omega, rfl, .void hpos (fun t b h => by obtain ⟨y, hy⟩ := hH.bnd _ _ _ h; rw [hg] at hy; cases hy), rfl⟩
    · rename_i es' rows n hg
      split at h
      · rename_i cs hgb
        split at h
        · rename_i hc
          obtain ⟨e, hle⟩ := hc
          subst e
          simp only [Option.some.injEq, Prod.mk.injEq] at h
          obtain ⟨rfl, rfl⟩ := h
          refine ⟨rows, n, by omega, rfl, ?_, rfl⟩
          cases hb with
          | bptr _ _ b h1 h2 =>
          obtain ⟨b', c, e, q1, q2, q3, q4⟩ := hH.blk _ _ hgb _ _ h2
          obtain ⟨j, es1, top, lo, len, j1, j2⟩ := leads_get hle
          have := (q4.getD j j1).2
          rw [j2] at this
          generalize c.toList.getD j undef = vj at this
          cases this with
          | hdr _ _ _ _ _ cap bb nn ee p1 p2 p3 p4 p5 p6 => exact hH.blk _ _ hg _ _ p2
        · cases h
      · cases h
    · cases h
/-- A row out of new cells. -/
theorem layRow_sound (K : Ctx) {k off key size bytes : Nat} {bn : Nm} {t e : TypeId} {s x : GV} {vb vs vx : Value} {v : GV} {H' : Heap} {ats : Array TypeId} {ty : TypeId} (hH : HRel w S μ H) (hb : VRel w S μ k vb (.bptr bn off)) (hs : VRel w S μ k vs s) (hx : VRel w S μ k vx x)
    (h0 : ats[0]? = some t) (h1 : spreads K.P ats[1]? = true) (hu : K.P.underlying t = some (.slice e)) (hsz : tsize K.P e = some size) (hby : tbytes K.P e = some bytes) (hzs : zsize K.P e = some size) (hpos : 0 < size) (hb0 : 0 < bytes) (hb1 : bytes ≤ 1048576)
    (h : layRow H bn key size bytes s x = some (v, H')) :
    OpOk ℓ w S μ H ((do pure (Next.value (← Builtin.append_ ats ty #[vs, vx])) : Sem Next).run K.P w) v H' := by
  unfold layRow at h
  split at h
  · rename_i xs H1 hge
    split at h
    · rename_i hcond
      simp only [Bool.and_eq_true, decide_eq_true_eq, List.all_eq_true, beq_iff_eq, Bool.not_eq_true'] at hcond
      obtain ⟨⟨hrows, hemp⟩, hmax⟩ := hcond
      have hx0 : 0 < xs.length := by cases xs; simp at hemp; simp
      obtain ⟨S1, a1, a2, a3, a4, a5⟩ := gelems_sound ℓ (P := K.P) hH hx hge hpos hrows
      split at h
      · rename_i i H2 hadd
        simp only [Option.some.injEq, Prod.mk.injEq] at h
        obtain ⟨rfl, rfl⟩ := h
        cases hs with | nils a =>
        obtain ⟨z, z1, z2⟩ := zsize_run hzs w.drew
        obtain ⟨cells2, d1, d2⟩ := a5 w.drew rfl
        have hold : (Builtin.firstCells size 0 (.slice a 0 0)).run K.P w.drew = .ok #[] w.drew := by cases a <;> simp [Builtin.firstCells, loadCells, loadCellsFrom]
        obtain ⟨newCap, n1, n2⟩ := append_grows_run (ty := ty) (cap := 0) (len := 0) h0 h1 hu hsz hby hb0 hb1 (by simpa using hmax) (a4 w) hold d1 z1 (by omega)
        obtain ⟨b1, b2⟩ := a1.drew (ℓ := ℓ)
        have hthree := rows_three (w := w) (S := S1) (old := #[]) (z := Builtin.zeroCells z.cells (newCap - (0 + xs.length))) (xs := []) ⟨by simp, by simp⟩ d2
        have hb2 : VRel w.drew S1 μ k vb (.bptr bn off) := by
          cases hb with
          | bptr _ _ b p1 p2 => exact .bptr bn off b p1 p2
        obtain ⟨rows, n, hl, rfl, m, rfl⟩ := addRow_some hpos b1 hb2 hadd
        let c : Array Value := #[] ++ cells2 ++ Builtin.zeroCells z.cells (newCap - (0 + xs.length))
        have hcsz : c.size = newCap * size := by
          simp only [c, Array.size_append, zeroCells_size, z2, d2.1, Array.size_empty]
          have : newCap = xs.length + (newCap - (0 + xs.length)) := by omega
          rw [this, Nat.add_mul]; simp
        have hrr : RowRel (w.drew.alloc (.cells c e)) S1 w.drew.heap.size size xs := by
          refine ⟨⟨c, e, alloc_new _ _⟩, fun hS => by have := b1.slt _ hS; omega, fun i j hi hj => ?_⟩
          obtain ⟨z3, z4⟩ := hthree i j (by simpa using hi) hj
          simp only [List.nil_append] at z4
          have hlt : i * size + j < c.size := by have := rows_lt (n := newCap) (show i < newCap by omega) hj; omega
          refine ⟨c.getD (i * size + j) undef, ?_, z3, ?_⟩
          · simp only [World.cell?, alloc_new]
            simp [Array.getD_eq_getD_getElem?, hlt]
          · exact (PRep.mono (w := w) (w' := w.drew) (fun _ h => h) (fun _ _ => rfl) z4).mono (fun _ h => h) (fun b hb => alloc_heap w.drew _ b (b1.slt b hb))
        have hno : ∀ t, μ (bn.1, key) t ≠ some w.drew.heap.size := fun t ht => by have := b1.lt _ _ _ ht; omega
        obtain ⟨e1, e2⟩ := mat_new (ℓ := ℓ) (nm := (bn.1, key)) (o := .cells c e) (top := rix rows.length) (x := .mat size (rows ++ [xs]) n) b1 hl (fun b hb => by have := m.bnd _ _ hb; omega)
          ((m.alloc b1 _).push hno hrr hrows)
        refine ⟨_, _, _, S1, _, by simp only [Sem.run_bind, n2, Result.andThen_ok]; rfl, .inl rfl, ?_, e1, (a2.trans b2).trans e2, by rw [Heap.length_set]; exact a3.1⟩
        simp only [Nat.zero_add]
        exact .rhdr _ size _ _ newCap _ (by rw [Heap.length_set]; simp only; omega) (Mu.upd_self _ _ _ _) (by omega)
      · cases h
    · cases h
  · cases h
/-- The slice of slices is written behind what it tells. -/
theorem MatRel.outer {nm : Nm} {es n b : Nat} {rows : List (List (List PV))} (m : MatRel w S μ nm es rows n) (hb : μ nm n = some b) {c c' : Array Value} {e : TypeId} (hg : w.heap[b]? = some (.cells c e (0, 0))) (hs : c'.size = c.size)
    (hk : ∀ i, i < n → c'.toList[i]? = c.toList[i]?) : MatRel (w.setRow b c') S μ nm es rows n := by
  obtain ⟨t1, t2, t3, t4, t5⟩ := m.top n b m.lim hb
  have oth : ∀ b', b' ≠ b → (w.setRow b c').heap[b']? = w.heap[b']? := fun b' hb' => setRow_other w b b' _ hb'
  exact {
    pos := m.pos
    le := m.le
    lim := m.lim
    wid := m.wid
    row := fun i hi => by
      obtain ⟨b', h1, h2⟩ := m.row i hi
      exact ⟨b', h1, h2.mono (fun _ h => h) (fun k hk => oth k fun e => t3 (e ▸ hk)) (oth _ fun e => t4 i (e ▸ h1)) (fun h => h)⟩
    inj := m.inj
    bnd := m.bnd
    top := fun t b' ht h1 => by
      obtain ⟨g1, ⟨c2, e2, g2⟩, g3, g4, g5⟩ := m.top t b' ht h1
      refine ⟨g1, ?_, g3, g4, fun i hi => ?_⟩
      · by_cases eb : b' = b
        · subst eb; exact ⟨_, e, setRow_heap w b' c _ e _ hg⟩
        · exact ⟨c2, e2, by rw [oth _ eb]; exact g2⟩
      · obtain ⟨bi, cap, k1, k2, k3⟩ := g5 i hi
        refine ⟨bi, cap, ?_, k2, k3⟩
        by_cases eb : b' = b
        · subst eb
          rw [cell_setRow_same w b' _ c _ e (0, 0) hg]
          have := hk i (by omega)
          simp only [World.cell?, hg] at k1
          simp only [Array.getElem?_toList] at this
          simpa [this] using k1
        · rw [cell_of_heap (oth _ eb)]; exact k1 }
theorem tellRow_sound (K : Ctx) {k bytes es i len : Nat} {nm : Nm} {t e : TypeId} {s : GV} {vs vx : Value} {v : GV} {H' : Heap} {ats : Array TypeId} {ty : TypeId} (hH : HRel w S μ H) (hs : VRel w S μ k vs s) (hx : VRel w S μ k vx (.lits [[.rhdr nm es i len]])) (hk : k = H.length - 1)
    (h0 : ats[0]? = some t) (h1 : spreads K.P ats[1]? = true) (hu : K.P.underlying t = some (.slice e)) (hsz : tsize K.P e = some 1) (hby : tbytes K.P e = some bytes) (hzs : zsize K.P e = some 1) (hb0 : 0 < bytes) (hb1 : bytes ≤ 1048576)
    (h : tellRow H bytes s nm es i len = some (v, H')) :
    OpOk ℓ w S μ H ((do pure (Next.value (← Builtin.append_ ats ty #[vs, vx])) : Sem Next).run K.P w) v H' := by
  unfold tellRow at h
  split at h
  · rename_i es' rows n hg
    split at h
    · rename_i hc
      obtain ⟨rfl, rfl, hn, hlen, hmax⟩ := hc
      cases hx with
      | lits bl o capl es1 _ f hS he hes hf hone hr =>
      obtain rfl : es1 = 1 := by have := hes _ (List.mem_singleton.2 rfl); simpa using this.symm
      have hv := hr 0 0 (by simp) (by omega)
      simp only [List.getD_cons_zero] at hv
      generalize hfv : f 0 0 = fv at hv
      cases hv with
      | rhdr _ _ _ _ cap2 bi p1 p2 p3 =>
      have m : MatRel w S μ nm es' rows i := hH.blk _ _ hg _ _ p2
      have hlim : i + 1 < rix 0 := by
        have : i + 1 ≤ (i + 1) * bytes := Nat.le_mul_of_pos_right _ hb0
        unfold rix; omega
      have hl : nm.1 < H.length := Heap.get_lt hg
      have hln : ∀ w2 : World, (Builtin.lenOf (.slice (some ⟨bl, o, none⟩) [[GV.rhdr nm es' i len]].length capl)).run K.P w2 = .ok 1 w2 := fun w2 => rfl
      have hcell : ∀ w2 : World, w2.heap = w.heap → ∃ cells, (Builtin.firstCells 1 1 (.slice (some ⟨bl, o, none⟩) [[GV.rhdr nm es' i len]].length capl)).run K.P w2 = .ok cells w2 ∧ cells = #[.slice (some ⟨bi, 0, none⟩) len cap2] := fun w2 hw => by
        obtain ⟨cells, c1, c2, c3⟩ := load_rows (P := K.P) (w2 := w2) hw he f hf
        refine ⟨cells, by simpa [Builtin.firstCells] using c1, ?_⟩
        have c4 := c3 0 0 (by simp) (by omega)
        rw [hfv] at c4
        apply Array.ext
        · simpa using c2
        · intro q hq1 hq2
          have : q = 0 := by simp at hq2; omega
          subst this
          rw [Array.getD_eq_getD_getElem?, Array.getElem?_eq_getElem (by simpa using hq1)] at c4
          simpa using c4
      have hnew : (∀ b, μ nm (i + 1) ≠ some b) := fun b hb => by have := (m.top (i + 1) b hlim hb).1; omega
      -- a new slice of slices
      have grow : ∀ (c : Array Value) (newCap : Nat), i + 1 ≤ newCap → newCap ≤ c.size →
          (∀ q, q < i → ∃ bi cap, c[q]? = some (.slice (some ⟨bi, 0, none⟩) (rows.getD q []).length cap) ∧ μ nm (rix q) = some bi ∧ (rows.getD q []).length ≤ cap) → c[i]? = some (.slice (some ⟨bi, 0, none⟩) len cap2) →
          ∃ μ', VRel (w.drew.alloc (.cells c e)) S μ' (H.length - 1) (.slice (some ⟨w.heap.size, 0, none⟩) (i + 1) newCap) (.hdr nm 1 (i + 1) 0 (i + 1)) ∧ HRel (w.drew.alloc (.cells c e)) S μ' (H.set nm (.mat es' rows (i + 1))) ∧ Ev ℓ w S μ (w.drew.alloc (.cells c e)) S μ' := by
        intro c newCap n1 n2 hq hi
        obtain ⟨b1, b2⟩ := hH.drew (ℓ := ℓ)
        have m1 : MatRel w.drew S μ nm es' rows i := MatRel.mono (w := w) (w' := w.drew) (fun _ h => h) (fun _ _ => rfl) (fun _ => rfl) (fun _ _ _ => rfl) (fun _ _ _ h => h) m
        have hcl : ∀ q u, c[q]? = some u → (w.drew.alloc (.cells c e)).cell? ⟨w.heap.size, q, none⟩ = some u := fun q u hu => by
          have : (w.drew.alloc (.cells c e)).heap[w.heap.size]? = some (.cells c e (0, 0)) := alloc_new w.drew _
          simp only [World.cell?, this]
          exact hu
        obtain ⟨e1, e2⟩ := mat_new (ℓ := ℓ) (nm := nm) (o := .cells c e) (top := i + 1) (x := .mat es' rows (i + 1)) b1 hl hnew
          ((m1.alloc b1 _).tell (b := w.heap.size) hn hlim ⟨c, e, alloc_new w.drew _⟩ (fun hS => by have := hH.slt _ hS; omega) (fun q hq => by have := hH.lt _ _ _ hq; omega) (fun q hq' => by
            by_cases e3 : q = i
            · subst e3; exact ⟨bi, cap2, by rw [hlen]; exact hcl _ _ hi, p2, by rw [hlen]; exact p3⟩
            · obtain ⟨bq, cq, k1, k2, k3⟩ := hq q (by omega)
              exact ⟨bq, cq, hcl _ _ k1, k2, k3⟩))
        refine ⟨_, ?_, e1, b2.trans e2⟩
        have := VRel.hdr (w := w.drew.alloc (.cells c e)) (S := S) (μ := μ.upd nm (i + 1) w.drew.heap.size) (ℓ := H.length - 1) nm 1 (i + 1) 0 (i + 1) newCap w.drew.heap.size c.size e
          (by omega) (Mu.upd_self _ _ _ _) n1 (by omega) (by unfold World.shape?; rw [alloc_new]) (by omega)
        rw [Nat.zero_mul] at this
        exact this
      obtain ⟨z, z1, z2⟩ := zsize_run hzs w.drew
      obtain ⟨cells2, d1, d2⟩ := hcell w.drew rfl
      subst d2
      split at h
      · -- the first one
        split at h
        · rename_i hn0
          subst hn0
          simp only [Option.some.injEq, Prod.mk.injEq] at h
          obtain ⟨rfl, rfl⟩ := h
          cases hs with | nils a =>
          have hold : (Builtin.firstCells 1 0 (.slice a 0 0)).run K.P w.drew = .ok #[] w.drew := by cases a <;> simp [Builtin.firstCells, loadCells, loadCellsFrom]
          obtain ⟨newCap, n1, n2⟩ := append_grows_run (ty := ty) (cap := 0) (len := 0) h0 h1 hu hsz hby hb0 hb1 (by simpa using hmax) (hln w) hold d1 z1 (by omega)
          obtain ⟨μ', g1, g2, g3⟩ := grow (#[] ++ #[.slice (some ⟨bi, 0, none⟩) len cap2] ++ Builtin.zeroCells z.cells (newCap - (0 + 1))) newCap (by omega)
            (by simp only [Array.size_append, zeroCells_size, z2, Array.size_empty]; simp; omega) (fun q hq => by omega) (by
              rw [Array.getElem?_append_left (by simp), Array.getElem?_append_right (by simp)]
              simp)
          simp only [Nat.zero_add] at n2 g1 g2 g3
          exact ⟨_, _, _, S, μ', by simp only [Sem.run_bind, n2, Result.andThen_ok]; rfl, .inl rfl, by rw [Heap.length_set]; exact g1, g2, g3, by rw [Heap.length_set]⟩
        · cases h
      · rename_i nm' es1 top lo ln
        split at h
        · rename_i hc
          obtain ⟨rfl, rfl, rfl, rfl, rfl⟩ := hc
          simp only [Option.some.injEq, Prod.mk.injEq] at h
          obtain ⟨rfl, rfl⟩ := h
          cases hs with
          | hdr _ _ _ _ _ cap b sz ek q1 q2 q3 q4 q5 q6 =>
          obtain ⟨t1, ⟨c0, e0, t2⟩, t3, t4, t5⟩ := m.top ln b m.lim q2
          have hcs : c0.size = sz := by unfold World.shape? at q5; rw [t2] at q5; simp at q5; exact q5.2
          have hc0 : ∀ q, q < ln → ∃ bi cap, c0[q]? = some (.slice (some ⟨bi, 0, none⟩) (rows.getD q []).length cap) ∧ μ nm' (rix q) = some bi ∧ (rows.getD q []).length ≤ cap := fun q hq => by
            obtain ⟨bq, cq, k1, k2, k3⟩ := t5 q hq
            simp only [World.cell?, t2] at k1
            exact ⟨bq, cq, k1, k2, k3⟩
          by_cases hfit : ln + 1 ≤ cap
          · have hbnd : ln * 1 + #[Value.slice (some ⟨bi, 0, none⟩) len cap2].toList.length ≤ c0.toList.length := by simp; omega
            have hst := run_storeCells_at (P := K.P) b (ln * 1) e0 [Value.slice (some ⟨bi, 0, none⟩) len cap2] 0 c0 w t2 (by simpa using hbnd) (by intro v hv; simp at hv; subst hv; rfl)
            simp only [Nat.add_zero] at hst
            have hsize : (splice c0.toList (ln * 1) [Value.slice (some ⟨bi, 0, none⟩) len cap2]).toArray.size = c0.size := by
              simp only [List.size_toArray]; rw [splice_length _ _ _ (by simpa using hbnd)]; simp
            have hget : ∀ q, (splice c0.toList (ln * 1) [Value.slice (some ⟨bi, 0, none⟩) len cap2])[q]? = if q < ln * 1 then c0.toList[q]? else if q < ln * 1 + 1 then [Value.slice (some ⟨bi, 0, none⟩) len cap2][q - ln * 1]? else c0.toList[q]? := fun q =>
              splice_get _ _ _ _ (by simpa using hbnd)
            have m2 : MatRel (w.setRow b (splice c0.toList (ln * 1) [Value.slice (some ⟨bi, 0, none⟩) len cap2]).toArray) S μ nm' es' rows ln := m.outer q2 t2 hsize (fun q hq => by
              rw [List.toList_toArray, hget, if_pos (by omega)])
            have hcl : ∀ q u, (splice c0.toList (ln * 1) [Value.slice (some ⟨bi, 0, none⟩) len cap2])[q]? = some u → (w.setRow b (splice c0.toList (ln * 1) [Value.slice (some ⟨bi, 0, none⟩) len cap2]).toArray).cell? ⟨b, q, none⟩ = some u := fun q u hu => by
              rw [cell_setRow_same w b _ c0 _ e0 (0, 0) t2]; simpa using hu
            have m3 := m2.tell (b := b) hn hlim ⟨_, e0, setRow_heap w b c0 _ e0 _ t2⟩ t3 t4 (fun q hq' => by
              by_cases e3 : q = ln
              · subst e3
                refine ⟨bi, cap2, hcl _ _ ?_, p2, by rw [hlen]; exact p3⟩
                rw [hget, if_neg (by omega), if_pos (by omega), hlen]; simp
              · obtain ⟨bq, cq, k1, k2, k3⟩ := hc0 q (by omega)
                refine ⟨bq, cq, hcl _ _ ?_, k2, k3⟩
                rw [hget, if_pos (by omega)]
                simpa using k1)
            have := hH.row ℓ (x := .mat es' rows (ln + 1)) hl q2 t3 t2 hsize (ln + 1) m3 (fun b' hb' => absurd hb' (hnew b'))
            obtain ⟨cells1, e1, e2⟩ := hcell w rfl
            subst e2
            have hrun := append_fits_run (ty := ty) (base := some ⟨b, 0 * 1, none⟩) (len := ln) (cap := cap) h0 h1 hu hsz (hln w) e1 hfit (w' := w.setRow b (splice c0.toList (ln * 1) [Value.slice (some ⟨bi, 0, none⟩) len cap2]).toArray)
              (by simp only [Nat.zero_mul]; rw [add_none, Nat.zero_add]; simpa [splice] using hst) (r := .ok () w)
            refine ⟨_, _, _, S, _, by simp only [Sem.run_bind, hrun, Result.andThen_ok]; rfl, .inl rfl, ?_, this.1, this.2, by rw [Heap.length_set]⟩
            have hv := VRel.hdr (w := w.setRow b (splice c0.toList (ln * 1) [Value.slice (some ⟨bi, 0, none⟩) len cap2]).toArray) (S := S) (μ := μ.upd nm' (ln + 1) b) (ℓ := (H.set nm' (.mat es' rows (ln + 1))).length - 1) nm' 1 (ln + 1) 0 (ln + 1) cap b sz ek
              (by rw [Heap.length_set]; omega) (Mu.upd_self _ _ _ _) hfit (by omega) (setRow_shp w b c0 _ e0 (0, 0) t2 hsize b _ q5) q6
            exact hv
          · obtain ⟨old, o1, o2, o3⟩ := load_rows (w := w) (w2 := w.drew) (P := K.P) (b := b) (o := 0 * 1) (n := ln) (size := 1) rfl (by omega) (fun i j => (c0[i]?).getD undef) (fun i j hi hj => by
              obtain ⟨bq, cq, k1, k2, k3⟩ := hc0 i hi
              obtain rfl : j = 0 := by omega
              simp only [World.cell?, t2]
              simp [k1])
            obtain ⟨newCap, n1, n2⟩ := append_grows_run (ty := ty) (base := some ⟨b, 0 * 1, none⟩) (cap := cap) (len := ln) h0 h1 hu hsz hby hb0 hb1 hmax (hln w) (by simpa [Builtin.firstCells] using o1) d1 z1 hfit
            have hos : old.size = ln := by simpa using o2
            obtain ⟨μ', g1, g2, g3⟩ := grow (old ++ #[.slice (some ⟨bi, 0, none⟩) len cap2] ++ Builtin.zeroCells z.cells (newCap - (ln + 1))) newCap (by omega)
              (by simp only [Array.size_append, zeroCells_size, z2, hos]; simp; omega) (fun q hq => by
                obtain ⟨bq, cq, k1, k2, k3⟩ := hc0 q hq
                refine ⟨bq, cq, ?_, k2, k3⟩
                have := o3 q 0 hq (by omega)
                rw [k1, Array.getD_eq_getD_getElem?] at this
                rw [Array.getElem?_append_left (by simp; omega), Array.getElem?_append_left (by omega)]
                rw [Array.getElem?_eq_getElem (show q < old.size by omega)]
                rw [Array.getElem?_eq_getElem (show q * 1 + 0 < old.size by omega)] at this
                simpa using this) (by
                rw [Array.getElem?_append_left (by simp; omega), Array.getElem?_append_right (by omega)]
                simp [hos])
            refine ⟨_, _, _, S, μ', by simp only [Sem.run_bind, n2, Result.andThen_ok]; rfl, .inl rfl, by rw [Heap.length_set]; exact g1, g2, g3, by rw [Heap.length_set]⟩
        · cases h
      · cases h
    · cases h
  · cases h
theorem upBox_some {s : Slots} {u : Up} {bn : Nm} (h : upBox s u = some bn) : ∃ t off, u = .box t ∧ look s t = .bptr bn off := by
  unfold upBox at h
  split at h
  · split at h
    · rename_i nm off e
      simp only [Option.some.injEq] at h; subst h
      exact ⟨_, off, rfl, e⟩
    · cases h
  · cases h
theorem rowLit_some {x : GV} {nm : Nm} {es i len : Nat} (h : rowLit x = some (nm, es, i, len)) : x = .lits [[.rhdr nm es i len]] := by
  unfold rowLit at h
  split at h
  · simp only [Option.some.injEq, Prod.mk.injEq] at h
    obtain ⟨rfl, rfl, rfl, rfl⟩ := h
    rfl
  · cases h
theorem gappendR_sound (K : Ctx) {k off key : Nat} {bn : Nm} {t : TypeId} {s x : GV} {vb vs vx : Value} {v : GV} {H' : Heap} {ats : Array TypeId} {ty : TypeId} (hH : HRel w S μ H) (hb : VRel w S μ k vb (.bptr bn off)) (hs : VRel w S μ k vs s) (hx : VRel w S μ k vx x)
    (hk : k = H.length - 1) (h0 : ats[0]? = some t) (h1 : spreads K.P ats[1]? = true) (h : gappendR K H bn key t s x = some (v, H')) :
    OpOk ℓ w S μ H ((do pure (Next.value (← Builtin.append_ ats ty #[vs, vx])) : Sem Next).run K.P w) v H' := by
  unfold gappendR at h
  split at h
  · rename_i e hu0
    have hu := telem_some hu0
    split at h
    · rename_i size bytes hsz hby
      split at h
      · rename_i hcond
        simp only [Bool.and_eq_true, decide_eq_true_eq] at hcond
        obtain ⟨⟨⟨hzs, hpos⟩, hb0⟩, hb1⟩ := hcond
        split at h
        · rename_i nm es i len hrl
          obtain rfl := rowLit_some hrl
          split at h
          · rename_i hs1
            subst hs1
            exact tellRow_sound K hH hs hx hk h0 h1 hu hsz hby hzs hb0 hb1 h
          · cases h
        · exact layRow_sound K hH hb hs hx h0 h1 hu hsz hby hzs hpos hb0 hb1 h
      · cases h
    · cases h
  · cases h
end
end Go.Gh


/- Every operation but a call of Go code. -/
namespace Go.Gh
set_option linter.unusedSimpArgs false
set_option linter.unusedVariables false
section
variable {w : World} {S : Nat → Prop} {μ : Mu} {H : Heap} {P : Program} {ℓ : Nat}
theorem OpOk.ofRun {k : Nat} {s : Sem Value} {v : GV} (hH : HRel w S μ H) (hk : k ≤ H.length - 1) (h : ∃ u, s.run P w = .ok u w ∧ VRel w S μ k u v) :
    OpOk ℓ w S μ H ((do pure (Next.value (← s)) : Sem Next).run P w) v H := by
  obtain ⟨u, h1, h2⟩ := h
  exact .of hH (h2.up hk) (by simp [h1])
theorem mkFunc_rel {k : Nat} {f : FuncId} {a c : Array Value} {la lc : List GV} (h1 : a.size = la.length) (h2 : c.size = lc.length) (hr1 : ∀ j, j < la.length → VRel w S μ k (a.getD j undef) (la.getD j gdead))
    (hr2 : ∀ j, j < lc.length → VRel w S μ k (c.getD j undef) (lc.getD j gdead)) : VRel w S μ k (.func (.func f) a c) (mkFunc f la lc) := by
  unfold mkFunc
  split
  · rename_i he
    simp only [Bool.and_eq_true, List.isEmpty_iff] at he
    obtain ⟨rfl, rfl⟩ := he
    have ea : a = #[] := by simpa using h1
    have ec : c = #[] := by simpa using h2
    subst ea; subst ec
    exact .pure _ _ (.fn f)
  · exact .func f a c la lc h1 h2 hr1 hr2
theorem evs_rel {k : Nat} {a : Act} {s : Slots} (hs : ∀ t, VRel w S μ k (a.tmps.getD t undef) (look s t)) (xs : Array Operand) :
    (xs.map a.eval).size = (xs.toList.map (ev s)).length ∧ ∀ j, j < (xs.toList.map (ev s)).length → VRel w S μ k ((xs.map a.eval).getD j undef) ((xs.toList.map (ev s)).getD j gdead) := by
  refine ⟨by simp, fun j hj => ?_⟩
  have hj' : j < xs.size := by simpa using hj
  have := ev_rel hs xs[j]
  simpa [Array.getD_eq_getD_getElem?, List.getD_eq_getElem?_getD, hj'] using this
theorem tuple_inv {k : Nat} {v : Value} {l : List GV} (h : VRel w S μ k v (.tuple l)) : ∃ vs : Array Value, v = .tuple vs ∧ vs.size = l.length ∧ ∀ j, j < l.length → VRel w S μ k (vs.getD j undef) (l.getD j gdead) := by
  cases h with
  | tuple vs l h hr => exact ⟨vs, rfl, h, hr⟩
theorem tuple_pure_inv {k : Nat} {v : Value} {l : List PV} (h : VRel w S μ k v (.pure (.tuple l))) : ∃ vs : Array Value, v = .tuple vs ∧ vs.size = l.length ∧ ∀ j, j < l.length → PRep w S (vs.getD j undef) (l.getD j .dead) := by
  have := h.pv
  cases this with
  | tuple vs l h hr => exact ⟨vs, rfl, h, hr⟩
theorem gop_sound (K : Ctx) (hK : CtxOk K) {fn : FuncId} {o : Oper} {a : Act} {s : Slots} {v : GV} {H' : Heap} (hH : HRel w S μ H)
    (hs : ∀ t, VRel w S μ (H.length - 1) (a.tmps.getD t undef) (look s t)) (h : gop K fn o s H = some (v, H')) : OpOk ℓ w S μ H ((execOp a.eval o).run K.P w) v H' := by
  obtain ⟨dst, op, type, pos, after, guard⟩ := o
  have hev := fun x => ev_rel hs x
  unfold gop at h
  unfold execOp
  cases op with
  | move x =>
    simp only [Option.some.injEq, Prod.mk.injEq] at h ⊢
    obtain ⟨rfl, rfl⟩ := h
    exact .same hH (hev x)
  | assign x =>
    simp only [Option.some.injEq, Prod.mk.injEq] at h ⊢
    obtain ⟨rfl, rfl⟩ := h
    exact .same hH (hev x)
  | pick c x y =>
    simp only at h ⊢
    split at h
    · rename_i b hb
      have hc := hev c
      rw [hb] at hc
      simp only [Option.some.injEq, Prod.mk.injEq] at h
      obtain ⟨rfl, rfl⟩ := h
      rw [hc.bool_inv]
      cases b with
      | true => exact .of hH (by simpa using hev x) (by simp [asBool])
      | false => exact .of hH (by simpa using hev y) (by simp [asBool])
    · cases h
  | alloc t =>
    simp only at h ⊢
    split at h
    · rename_i d z hz
      split at h
      · rename_i cs hcs
        split at h
        · rename_i nm H1 hnew
          simp only [Option.some.injEq, Prod.mk.injEq] at h
          obtain ⟨rfl, rfl⟩ := h
          exact alloc_sound hH hz hcs hnew
        · cases h
      · cases h
    · cases h
  | box t x =>
    simp only at h ⊢
    split at h
    · rename_i d cs hcs
      split at h
      · rename_i nm H1 hnew
        simp only [Option.some.injEq, Prod.mk.injEq] at h
        obtain ⟨rfl, rfl⟩ := h
        exact box_sound hH (hev x) hcs hnew
      · cases h
    · cases h
  | build t parts =>
    simp only at h ⊢
    split at h
    · rename_i z hz
      split at h
      · rename_i zs hzs
        split at h
        · rename_i cs hcs
          simp only [Option.some.injEq, Prod.mk.injEq] at h
          obtain ⟨rfl, rfl⟩ := h
          exact build_sound hH hs hz hzs hcs
        · cases h
      · cases h
    · cases h
  | buildSlice t len parts =>
    simp only at h ⊢
    split at h
    · rename_i e hu
      split at h
      · rename_i size z hsz hz
        split at h
        · rename_i zs hzs
          split at h
          · rename_i hc
            split at h
            · rename_i cs hcs
              split at h
              · rename_i h0
                simp only [Option.some.injEq, Prod.mk.injEq] at h
                obtain ⟨rfl, rfl⟩ := h
                have := lits_sound (ℓ := ℓ) hH hs hu hsz hz hzs hc.1 hc.2.1 hc.2.2 hcs
                rwa [if_pos h0] at this
              · rename_i h0
                split at h
                · rename_i ps hps
                  split at h
                  · rename_i d
                    split at h
                    · split at h
                      · rename_i nm H1 hnew
                        simp only [Option.some.injEq, Prod.mk.injEq] at h
                        obtain ⟨rfl, rfl⟩ := h
                        exact ownLit_sound hH hs hu hsz hz hzs hc.1 hc.2.1 hc.2.2 hcs hps hnew
                      · cases h
                    · simp only [Option.some.injEq, Prod.mk.injEq] at h
                      obtain ⟨rfl, rfl⟩ := h
                      exact lit_sound hH hs hu hsz hz hzs hc.1 hc.2.1 hc.2.2 hcs hps h0
                  · cases h
                · simp only [Option.some.injEq, Prod.mk.injEq] at h
                  obtain ⟨rfl, rfl⟩ := h
                  have := lits_sound (ℓ := ℓ) hH hs hu hsz hz hzs hc.1 hc.2.1 hc.2.2 hcs
                  rwa [if_neg h0] at this
            · cases h
          · cases h
        · cases h
      · cases h
    · cases h
  | load t x =>
    simp only at h ⊢
    split at h
    · rename_i r hr
      simp only [Option.some.injEq, Prod.mk.injEq] at h
      obtain ⟨rfl, rfl⟩ := h
      exact .ofRun hH (Nat.le_refl _) (gload_sound hH (hev x) hr)
    · cases h
  | store t x y =>
    simp only at h ⊢
    split at h
    · rename_i H1 hr
      simp only [Option.some.injEq, Prod.mk.injEq] at h
      obtain ⟨rfl, rfl⟩ := h
      obtain ⟨w', S', μ', h1, h2, h3, h4⟩ := gstore_sound ℓ hH (hev x) (hev y) hr
      exact ⟨.skip, undef, w', S', μ', by simp [h1], .inr ⟨rfl, rfl⟩, vdead _, h2, h3, h4⟩
    · cases h
  | nilCheck x =>
    simp only at h ⊢
    have hx := hev x
    split at h
    all_goals first | (cases h; done) | skip
    all_goals
      rename_i he
      simp only [Option.some.injEq, Prod.mk.injEq] at h
      obtain ⟨rfl, rfl⟩ := h
      rw [he] at hx
      refine .of hH hx ?_
    all_goals generalize a.eval x = y at hx ⊢
    all_goals first | (cases hx; rfl; done) | (have hp := hx.pv; cases hp; rfl)
  | binOp op t x y z =>
    simp only at h ⊢
    split at h
    · rename_i p hp
      simp only [Option.some.injEq, Prod.mk.injEq] at h
      obtain ⟨rfl, rfl⟩ := h
      have hb : ∃ u, (eqGuard op t x y (a.eval x) (a.eval y)).run K.P w = .ok () w ∧ (binOp op t (a.eval x) (a.eval y)).run K.P w = .ok u w ∧ PRep w S u p := by
        unfold gbinN at hp
        split at hp
        · rename_i hn
          obtain rfl := isNilC_eq hn
          exact gnilEq_sound K (hev x) hp
        · exact gbin_sound K hK (x := x) (y := y) (hev x) (hev y) hp
      obtain ⟨u, h1, h2, h3⟩ := hb
      exact .of hH (.pure _ _ h3) (by simp [h1, h2])
    · cases h
  | unOp op t x =>
    simp only at h ⊢
    have hx := hev x
    split at h
    · rename_i b he
      simp only [Option.some.injEq, Prod.mk.injEq] at h
      obtain ⟨rfl, rfl⟩ := h
      rw [he] at hx; rw [hx.bool_inv]
      exact .of hH (.pure _ _ (.bool _)) (by simp [Op.unary])
    · rename_i k n he
      simp only [Option.some.injEq, Prod.mk.injEq] at h
      obtain ⟨rfl, rfl⟩ := h
      rw [he] at hx; rw [hx.int_inv]
      exact .of hH (.pure _ _ (.int k (k.wrap (-n)))) (by simp [Op.unary, Op.intArith])
    · cases h
  | convert src d x =>
    simp only at h ⊢
    have hx := hev x
    split at h
    · rename_i k k' n h1 h2 he
      simp only [Option.some.injEq, Prod.mk.injEq] at h
      obtain ⟨rfl, rfl⟩ := h
      rw [he] at hx; rw [hx.int_inv]
      exact .of hH (.pure _ _ (.int _ _)) (by simp [convert, r_underlying w h1, r_underlying w h2, Conv.intToInt])
    · rename_i k l h1 h2 he
      simp only [Option.some.injEq, Prod.mk.injEq] at h
      obtain ⟨rfl, rfl⟩ := h
      rw [he] at hx
      obtain ⟨str, e1, e2⟩ := hx.str_inv
      rw [e1] at hx ⊢
      exact .of hH hx (by simp [convert, r_underlying w h1, r_underlying w h2])
    · cases h
  | makeFunc f first cap =>
    cases f with
    | func f =>
      simp only [Option.some.injEq, Prod.mk.injEq] at h ⊢
      obtain ⟨rfl, rfl⟩ := h
      exact .of hH (mkFunc_rel (evs_rel hs first).1 (evs_rel hs cap).1 (evs_rel hs first).2 (evs_rel hs cap).2) (by simp [Instr.makeFunc])
    | _ => cases h
  | makeMap t r =>
    cases r with
    | some r => cases h
    | none =>
    simp only at h ⊢
    split at h
    · rename_i d
      split at h
      · rename_i nm H1 hnew
        simp only [Option.some.injEq, Prod.mk.injEq] at h
        obtain ⟨rfl, rfl⟩ := h
        obtain ⟨rfl, hl, hg, rfl⟩ := gnewAt_some hnew
        obtain ⟨h1, h2⟩ := hH.new ℓ hg hl (.map #[] 0) 0 (.map []) (by
          refine ⟨w.heap.size, #[], 0, Mu.upd_self _ _ _ _, fun h => ?_, alloc_new w _, rfl, fun j hj => by simp at hj⟩
          have := hH.slt _ h; omega)
        exact ⟨.value (.map (some w.heap.size)), _, _, S, _, by simp [Instr.makeMap], .inl rfl, .map _ _ (by simp [Heap.length_set]) (Mu.upd_self _ _ _ _), h1, h2, Heap.length_set _ _ _⟩
      · cases h
    · cases h
  | makeSlice t l c =>
    simp only at h ⊢
    split at h
    · rename_i e hu
      split at h
      · rename_i size bytes z kl l' kc c' d hsz hby hz hl hc
        split at h
        · rename_i zs hzs
          split at h
          · rename_i ps hps
            split at h
            · rename_i hcond
              obtain ⟨c1, c2, c3, c4, c5, c6⟩ := hcond
              split at h
              · rename_i nm H1 hnew
                simp only [Option.some.injEq, Prod.mk.injEq] at h
                obtain ⟨rfl, rfl⟩ := h
                have h1 := hev l
                have h2 := hev c
                rw [hl] at h1; rw [hc] at h2
                rw [h1.int_inv, h2.int_inv]
                exact makeSlice_sound hH hu hsz hby hz hzs hps c1 c2 c3 c4 c5 c6 hnew
              · cases h
            · cases h
          · cases h
        · cases h
      · cases h
    · cases h
  | slice t x lo hi mx =>
    simp only at h ⊢
    split at h
    · rename_i r hr
      simp only [Option.some.injEq, Prod.mk.injEq] at h
      obtain ⟨rfl, rfl⟩ := h
      exact .ofRun hH (Nat.le_refl _) (slice_sound K hs (hev x) hr)
    · cases h
  | fieldAddr st x f =>
    simp only at h ⊢
    split at h
    · rename_i off ft hf
      split at h
      · rename_i size hsz
        split at h
        · cases h
        · rename_i h0
          split at h
          · rename_i r hr
            simp only [Option.some.injEq, Prod.mk.injEq] at h
            obtain ⟨rfl, rfl⟩ := h
            exact .ofRun hH (Nat.le_refl _) (fieldAddr_sound (hev x) hf hsz h0 hr)
          · cases h
      · cases h
    · cases h
  | field t x f =>
    simp only at h ⊢
    split at h
    · rename_i off ft hf
      have hx := hev x
      split at h
      · rename_i ag size cs ha hsz he
        rw [he] at hx
        split at h
        · rename_i hle
          have key : ∃ r, (if off + size ≤ cs.length then (if ag then some (mkAgg ((cs.drop off).take size)) else cs[off]?) else none) = some r ∧ (r, H) = (v, H') := by
            rw [if_pos hle]
            cases ag with
            | true => simp at h ⊢; exact h
            | false =>
              simp at h ⊢
              split at h
              · rename_i q hq; simp at h; exact ⟨q, hq, h⟩
              · cases h
          obtain ⟨r, k1, k2⟩ := key
          simp only [Prod.mk.injEq] at k2
          obtain ⟨rfl, rfl⟩ := k2
          exact .ofRun hH (Nat.le_refl _) (field_sound hx hf ha hsz k1)
        · cases h
      · rename_i ag size cs ha hsz he
        rw [he] at hx
        split at h
        · rename_i hle
          have key : ∃ r, (if off + size ≤ cs.length then (if ag then some (GV.pure (.agg ((cs.drop off).take size))) else (match cs[off]? with | some p => some (.pure p) | none => none)) else none) = some r ∧ (r, H) = (v, H') := by
            rw [if_pos hle]
            cases ag with
            | true => simp at h ⊢; exact h
            | false =>
              simp at h ⊢
              split at h
              · rename_i q hq; simp at h; simp [hq]; exact h
              · cases h
          obtain ⟨r, k1, k2⟩ := key
          simp only [Prod.mk.injEq] at k2
          obtain ⟨rfl, rfl⟩ := k2
          exact .ofRun hH (Nat.le_refl _) (field_sound hx hf ha hsz k1)
        · cases h
      · cases h
    · cases h
  | indexAddr t x i =>
    simp only at h ⊢
    split at h
    · rename_i r hr
      simp only [Option.some.injEq, Prod.mk.injEq] at h
      obtain ⟨rfl, rfl⟩ := h
      exact .ofRun hH (Nat.le_refl _) (indexAddr_sound K (hev x) (hev i) hr)
    · cases h
  | index t x i =>
    simp only at h ⊢
    split at h
    · rename_i r hr
      simp only [Option.some.injEq, Prod.mk.injEq] at h
      obtain ⟨rfl, rfl⟩ := h
      exact .ofRun hH (Nat.le_refl _) (index_sound K (hev x) (hev i) hr)
    · cases h
  | lookup t x k ok =>
    simp only at h ⊢
    split at h
    · rename_i r hr
      simp only [Option.some.injEq, Prod.mk.injEq] at h
      obtain ⟨rfl, rfl⟩ := h
      exact .ofRun hH (Nat.le_refl _) (lookup_sound K hK hH (hev x) (hev k) hr)
    · cases h
  | mapUpdate t m k x =>
    simp only at h ⊢
    split at h
    · rename_i H1 hr
      simp only [Option.some.injEq, Prod.mk.injEq] at h
      obtain ⟨rfl, rfl⟩ := h
      exact mapUpdate_sound K hK hH (hev m) (hev k) (hev x) hr
    · cases h
  | insert t m k x =>
    simp only at h ⊢
    split at h
    · rename_i H1 hr
      simp only [Option.some.injEq, Prod.mk.injEq] at h
      obtain ⟨rfl, rfl⟩ := h
      exact mapUpdate_sound K hK hH (hev m) (hev k) (hev x) hr
    · cases h
  | extract t ix =>
    simp only at h ⊢
    have hx := hev t
    split at h
    · rename_i l he
      rw [he] at hx
      obtain ⟨vs, e1, e2, e3⟩ := tuple_inv hx
      split at h
      · rename_i q hq
        simp only [Option.some.injEq, Prod.mk.injEq] at h
        obtain ⟨rfl, rfl⟩ := h
        have hlt : ix < l.length := by rcases Nat.lt_or_ge ix l.length with h | h; exact h; rw [List.getElem?_eq_none h] at hq; cases hq
        have := e3 ix hlt
        rw [List.getD_eq_getElem?_getD, hq] at this
        have hv : vs[ix]? = some (vs.getD ix undef) := by simp [Array.getD_eq_getD_getElem?, show ix < vs.size by omega]
        rw [e1]
        exact .of hH this (by simp only [Instr.extract, hv]; rfl)
      · cases h
    · rename_i l he
      rw [he] at hx
      obtain ⟨vs, e1, e2, e3⟩ := tuple_pure_inv hx
      split at h
      · rename_i q hq
        simp only [Option.some.injEq, Prod.mk.injEq] at h
        obtain ⟨rfl, rfl⟩ := h
        have hlt : ix < l.length := by rcases Nat.lt_or_ge ix l.length with h | h; exact h; rw [List.getElem?_eq_none h] at hq; cases hq
        have := e3 ix hlt
        rw [List.getD_eq_getElem?_getD, hq] at this
        have hv : vs[ix]? = some (vs.getD ix undef) := by simp [Array.getD_eq_getD_getElem?, show ix < vs.size by omega]
        rw [e1]
        exact .of hH (.pure _ _ this) (by simp only [Instr.extract, hv]; rfl)
      · cases h
    · cases h
  | call c =>
    obtain ⟨callee, args, argTypes⟩ := c
    have hargs : ∀ (j : Nat) (x : Operand), args[j]? = some x → (args.map a.eval)[j]? = some (a.eval x) := fun j x h => by simp [h]
    cases callee with
    | value f => cases h
    | invoke r n => cases h
    | builtin b =>
      cases b with
      | len =>
        simp only at h ⊢
        split at h
        · rename_i t x ht hx
          split at h
          · rename_i n hn
            simp only [Option.some.injEq, Prod.mk.injEq] at h
            obtain ⟨rfl, rfl⟩ := h
            have := len_sound K hH (ty := type) (hev x) ht (hargs 0 x hx) hn
            refine .of hH (.pure _ _ (.int .i64 n)) ?_
            simp [resolve, invoke, builtin, this]
          · cases h
        · cases h
      | append =>
        simp only at h ⊢
        split at h
        · rename_i t x y d ht hx hy
          split at h
          · rename_i hsp
            have h1 := hargs 0 x hx
            have h2 := hargs 1 y hy
            have e : Builtin.append_ argTypes type (args.map a.eval) = Builtin.append_ argTypes type #[a.eval x, a.eval y] := by
              unfold Builtin.append_
              rw [h1, h2]; rfl
            split at h
            · split at h
              · rename_i l hl
                have := gappend_sound (ℓ := ℓ) K (ty := type) hH (hev x) (hev y) rfl ht hsp h
                simpa [resolve, invoke, builtin, e] using this
              · cases h
            · split at h
              · rename_i bn hbn
                obtain ⟨tb, off, _, hlk⟩ := upBox_some hbn
                have hvb := hs tb
                rw [hlk] at hvb
                have := gappendR_sound (ℓ := ℓ) K (ty := type) hH hvb (hev x) (hev y) rfl ht hsp h
                simpa [resolve, invoke, builtin, e] using this
              · cases h
          · cases h
        · cases h
      | min =>
        simp only at h ⊢
        split at h
        · rename_i r hr
          simp only [Option.some.injEq, Prod.mk.injEq] at h
          obtain ⟨rfl, rfl⟩ := h
          obtain ⟨e1, e2⟩ := evs_rel hs args
          obtain ⟨v0, rest, kd, n, f1, f2, f3⟩ := minmax_sound (P := K.P) (w := w) (mx := false) (args.toList.map (ev s)) (args.map a.eval).toList _ (by simp) (fun j hj => by rw [← agetD]; exact e2 j hj) hr
          subst f2
          refine .of hH (.pure _ _ (.int kd n)) ?_
          have : (Builtin.min_ argTypes type (args.map a.eval)).run K.P w = .ok (.int kd n) w := by simp only [Builtin.min_, f1]; simpa using f3
          simp [resolve, invoke, builtin, this]
        · cases h
      | max =>
        simp only at h ⊢
        split at h
        · rename_i r hr
          simp only [Option.some.injEq, Prod.mk.injEq] at h
          obtain ⟨rfl, rfl⟩ := h
          obtain ⟨e1, e2⟩ := evs_rel hs args
          obtain ⟨v0, rest, kd, n, f1, f2, f3⟩ := minmax_sound (P := K.P) (w := w) (mx := true) (args.toList.map (ev s)) (args.map a.eval).toList _ (by simp) (fun j hj => by rw [← agetD]; exact e2 j hj) hr
          subst f2
          refine .of hH (.pure _ _ (.int kd n)) ?_
          have : (Builtin.max_ argTypes type (args.map a.eval)).run K.P w = .ok (.int kd n) w := by simp only [Builtin.max_, f1]; simpa using f3
          simp [resolve, invoke, builtin, this]
        · cases h
      | _ => cases h
  | _ => cases h
end
end Go.Gh


/- States, scopes, marks. -/
namespace Go.Gh
set_option linter.unusedSimpArgs false
set_option linter.unusedVariables false
/-- The fence: wide; in a round or in none. -/
def Fw (r : Option Nat) : Fence := { Fence.wide with round := r }
theorem CallsIn.fw {r r' : Option Nat} {n : Nat} {P : Program} {f : FuncId} {args : Array Value} {w : World} {R : Ending → World → Prop} (h : CallsIn (Fw r) n P f args w R) : CallsIn (Fw r') n P f args w R := h
def exitOf : GX → Exit
  | .normal => .normal
  | .exit id => .exit id
  | .ret => .ret
/-- The marks of an activation. -/
structure DefOk (base : Nat) (w : World) (S : Nat → Prop) (μ : Mu) (ds : List Deferred) : Prop where
  each : ∀ d ∈ ds, ∃ q, d.target = .collected q ∧ base ≤ q ∧ w.heap[q]? = some (.deferred (some [])) ∧ ¬ S q ∧ ∀ nm t, μ nm t ≠ some q
  apart : ds.Pairwise fun d d' => d.target ≠ d'.target
structure StOk (base : Nat) (r : Option Nat) (w : World) (S : Nat → Prop) (μ : Mu) (st : GSt) (a : Act) : Prop where
  heap : HRel w S μ st.h
  slots : ∀ t, VRel w S μ (st.h.length - 1) (a.tmps.getD t undef) (look st.s t)
  nt : a.tmps.size = st.nt
  pos : 0 < st.h.length
  low : base ≤ w.heap.size
  defs : DefOk base w S μ a.defers
  round : ∀ l, r = some l → ∃ q : Loop, w.heap[l]? = some (.loop q)
def Post (base : Nat) (r : Option Nat) (st : GSt) (w : World) (S : Nat → Prop) (μ : Mu) (e : GX) (st' : GSt) : Exit → Act → World → Prop := fun e' a' w' =>
  e' = exitOf e ∧ st'.h.length = st.h.length ∧ st'.nt = st.nt ∧ ∃ S' μ', StOk base r w' S' μ' st' a' ∧ Ev (st.h.length - 2) w S μ w' S' μ'
def RecOk (P : Program) (rec : Rec) : Prop := ∀ fn c st e st', rec fn c st = some (e, st') → ∀ base r w S μ a, StOk base r w S μ st a → c.wpIn (Fw r) 0 P (Post base r st w S μ e st') a w
section
variable {w w' : World} {S S' : Nat → Prop} {μ μ' : Mu} {H : Heap} {P : Program} {ℓ base : Nat} {r : Option Nat}
theorem DefOk.ev {ds : List Deferred} (h : DefOk base w S μ ds) (e : Ev ℓ w S μ w' S' μ') : DefOk base w' S' μ' ds where
  each := fun d hd => by
    obtain ⟨q, h1, h2, h3, h4, h5⟩ := h.each d hd
    have hlt : q < w.heap.size := (Array.getElem?_eq_some_iff.1 h3).1
    refine ⟨q, h1, h2, ?_, fun hs => ?_, fun nm t hm => ?_⟩
    · rw [e.same q hlt (.inr h5)]; exact h3
    · rcases e.snew q hs hlt with h | ⟨nm, t, h⟩
      · exact h4 h
      · exact h5 _ _ h
    · obtain ⟨nm', t', h'⟩ := e.own nm t q hm hlt
      exact h5 _ _ h'
  apart := h.apart
theorem round_ev (h : ∀ l, r = some l → ∃ q : Loop, w.heap[l]? = some (.loop q)) (e : Ev ℓ w S μ w' S' μ') : ∀ l, r = some l → ∃ q : Loop, w'.heap[l]? = some (.loop q) := fun l hl => by
  obtain ⟨q, hq⟩ := h l hl
  exact e.lp l q hq
theorem slots_ev {a : Act} {s : Slots} {k k' : Nat} (h : ∀ t, VRel w S μ k (a.tmps.getD t undef) (look s t)) (hH : HRel w S μ H) (e : Ev ℓ w S μ w' S' μ') (hk : k ≤ ℓ) (hk' : k ≤ k') :
    ∀ t, VRel w' S' μ' k' (a.tmps.getD t undef) (look s t) := fun t => (e.val hH.slt hk (h t)).up hk'
theorem look_cons (d : Nat) (v : GV) (s : Slots) (t : Nat) : look ((d, v) :: s) t = if t = d then v else look s t := rfl
theorem put_getD (a : Act) (d : Nat) (u : Value) (t : Nat) (hd : d < a.tmps.size) : (a.put (some d) u).tmps.getD t undef = if t = d then u else a.tmps.getD t undef := by
  simp only [Act.put, Array.getD_eq_getD_getElem?]
  by_cases h : t = d
  · subst h; simp [hd]
  · rw [if_neg h, Array.getElem?_setIfInBounds_ne (Ne.symm h)]
theorem put_slots {a : Act} {s : Slots} {k nt : Nat} {dst : Option Tmp} {u : Value} {v : GV} (h : ∀ t, VRel w S μ k (a.tmps.getD t undef) (look s t)) (hn : a.tmps.size = nt)
    (hv : VRel w S μ k u v) {st st' : GSt} (hst : st.s = s) (hnt : st.nt = nt) (hp : st.put dst v = some st') :
    (∀ t, VRel w S μ k ((a.put dst u).tmps.getD t undef) (look st'.s t)) ∧ (a.put dst u).tmps.size = nt ∧ st'.nt = nt ∧ st'.h = st.h ∧ (a.put dst u).defers = a.defers := by
  cases dst with
  | none =>
    simp only [GSt.put, Option.some.injEq] at hp; subst hp; subst hst
    exact ⟨h, hn, hnt, rfl, rfl⟩
  | some d =>
    simp only [GSt.put] at hp
    split at hp
    · rename_i hd
      simp only [Option.some.injEq] at hp; subst hp; subst hst; subst hnt
      refine ⟨fun t => ?_, by simpa [Act.put] using hn, rfl, rfl, rfl⟩
      rw [put_getD a d u t (by rw [hn]; exact hd), look_cons]
      split
      · exact hv
      · exact h t
    · cases hp
theorem undef_rel {k : Nat} : VRel w S μ k undef gundef := .pure _ _ (.tuple #[] [] rfl (by simp))
theorem wanted_ok {all : List Oper} {s : Slots} {o : Oper} {b : Bool} {a : Act} {k : Nat} (h : ∀ t, VRel w S μ k (a.tmps.getD t undef) (look s t)) (hw : wantedG all s o = some b) :
    Region.wanted o (yielded all.toArray a.tmps) = b := by
  unfold wantedG at hw
  unfold Region.wanted
  cases hg : o.guard with
  | none => simpa [hg] using hw
  | some x =>
    obtain ⟨j, want⟩ := x
    simp only [hg] at hw ⊢
    split at hw
    · rename_i oj hj
      split at hw
      · rename_i d hd
        have hv := h d
        split at hw
        · rename_i c hc
          rw [hc] at hv
          have e := hv.bool_inv
          have hin : a.tmps[d]? = some (.bool c) := by
            rw [Array.getD_eq_getD_getElem?] at e
            cases ht : a.tmps[d]? with
            | none => rw [ht] at e; simp [undef] at e
            | some v => rw [ht] at e; simpa using e
          simp only [Option.some.injEq] at hw; subst hw
          have : yielded all.toArray a.tmps j = some c := by simp [yielded, hj, hd, hin]
          rw [this]; rfl
        · rename_i hc
          rw [hc] at hv
          obtain ⟨vs, e, _, _⟩ := tuple_pure_inv hv
          simp only [Option.some.injEq] at hw; subst hw
          have : yielded all.toArray a.tmps j = none := by
            simp only [yielded, List.getElem?_toArray, hj, Option.bind_some, hd]
            cases ht : a.tmps[d]? with
            | none => rfl
            | some v =>
              rw [Array.getD_eq_getD_getElem?, ht] at e
              simp only [Option.getD_some] at e; subst e; rfl
          rw [this]; rfl
        · cases hw
      · cases hw
    · cases hw
def dropS (S : Nat → Prop) (μ : Mu) (L : Nat) : Nat → Prop := fun b => S b ∨ ∃ nm t, L ≤ nm.1 ∧ μ nm t = some b
def dropM (μ : Mu) (L : Nat) : Mu := fun nm t => if nm.1 < L then μ nm t else none
theorem dropM_some {L : Nat} {nm : Nm} {t b : Nat} (h : dropM μ L nm t = some b) : nm.1 < L ∧ μ nm t = some b := by
  unfold dropM at h
  split at h
  · exact ⟨by assumption, h⟩
  · cases h
theorem drop_ev {L : Nat} (hH : HRel w S μ H) (hl : ℓ < L) : Ev ℓ w S μ w (dropS S μ L) (dropM μ L) where
  os := rfl
  tape := rfl
  out := rfl
  size := Nat.le_refl _
  sub := fun b h => .inl h
  same := fun _ _ _ => rfl
  shp := fun _ _ h => h
  lp := fun b r h => ⟨r, h⟩
  mu := fun nm t b h1 h2 => by simp only [dropM]; rw [if_pos (by omega)]; exact h2
  own := fun nm t b h _ => ⟨nm, t, (dropM_some h).2⟩
  snew := fun b h _ => by
    rcases h with h | ⟨nm, t, _, h⟩
    · exact .inl h
    · exact .inr ⟨nm, t, h⟩
theorem drop_heap {fr : Fr} (hH : HRel w S μ (fr :: H)) : HRel w (dropS S μ H.length) (dropM μ H.length) H where
  blk := fun nm x hx t b hb => by
    obtain ⟨hlt, hb⟩ := dropM_some hb
    have hg : Heap.get (fr :: H) nm = some x := by
      show (if nm.1 = H.length then _ else _) = _
      rw [if_neg (by omega)]; exact hx
    refine (hH.blk nm x hg t b hb).mono (fun b h => .inl h) (fun _ _ => rfl) (fun _ _ h => h) (fun n t b hn hm => ?_) (fun t => ?_) (fun _ _ _ => rfl) (fun t' b' hm hs => ?_)
    · simp only [dropM]; rw [if_pos (by omega)]; exact hm
    · simp only [dropM]; rw [if_pos hlt]
    · rcases hs with hs | ⟨n, t2, hn, h2⟩
      · exact hs
      · have := hH.disj _ _ _ _ _ hm h2
        subst this; omega
  bnd := fun nm t b hb => by
    obtain ⟨hlt, hb⟩ := dropM_some hb
    obtain ⟨x, hx⟩ := hH.bnd nm t b hb
    have hg : Heap.get (fr :: H) nm = Heap.get H nm := by
      show (if nm.1 = H.length then _ else _) = _
      rw [if_neg (by omega)]
    exact ⟨x, by rw [← hg]; exact hx⟩
  disj := fun nm nm' t t' b h h' => hH.disj _ _ _ _ _ (dropM_some h).2 (dropM_some h').2
  lt := fun nm t b h => hH.lt _ _ _ (dropM_some h).2
  slt := fun b h => by
    rcases h with h | ⟨nm, t, _, h⟩
    · exact hH.slt b h
    · exact hH.lt _ _ _ h
theorem drop_val {k : Nat} {v : Value} {g : GV} (hH : HRel w S μ H) {l0 : Nat} (hv : VRel w S μ k v g) : VRel w (dropS S μ (l0 + 1)) (dropM μ (l0 + 1)) l0 v (clean H l0 g) := by
  have := clean_rel (S' := dropS S μ (l0 + 1)) (l0 := l0) hH hv (fun b h => .inl h) (fun nm t b h1 h2 => .inr ⟨nm, t, h1, h2⟩)
  exact this.mono (fun _ h => h) (fun _ _ => rfl) (fun _ _ h => h) (fun nm t b h1 h2 => by simp only [dropM]; rw [if_pos (by omega)]; exact h2) (Nat.le_refl _)
theorem look_clean (l0 : Nat) (t : Nat) : ∀ s : Slots, look (cleanSlots H l0 s) t = clean H l0 (look s t) ∨ look (cleanSlots H l0 s) t = gdead
  | [] => .inr rfl
  | (d, v) :: s => by
    simp only [cleanSlots, look_cons]
    split
    · exact .inl rfl
    · exact look_clean l0 t s
theorem look_keep (s : Slots) (t : Nat) : ∀ l : List Nat, look (keepSlots s l) t = look s t ∨ look (keepSlots s l) t = gdead
  | [] => .inr rfl
  | d :: l => by
    simp only [keepSlots, look_cons]
    split
    · rename_i h; subst h; exact .inl rfl
    · exact look_keep s t l
theorem keep_slots {a : Act} {s : Slots} {k : Nat} (h : ∀ t, VRel w S μ k (a.tmps.getD t undef) (look s t)) (l : List Nat) : ∀ t, VRel w S μ k (a.tmps.getD t undef) (look (keepSlots s l) t) := fun t => by
  rcases look_keep s t l with e | e
  · rw [e]; exact h t
  · rw [e]; exact vdead _
theorem gscope_ok {ks : Option (List Nat)} {st st' : GSt} {a : Act} (h : StOk base r w S μ st a) (hs : gscope ks st = some st') :
    st'.h.length + 1 = st.h.length ∧ st'.nt = st.nt ∧ ∃ S' μ', StOk base r w S' μ' st' a ∧ Ev (st'.h.length - 1) w S μ w S' μ' := by
  unfold gscope at hs
  split at hs
  · rename_i fr H hh
    split at hs
    · cases hs
    · rename_i h0
      simp only [Option.some.injEq] at hs; subst hs
      have hH : HRel w S μ (fr :: H) := hh ▸ h.heap
      have e1 : H.length - 1 + 1 = H.length := by omega
      have hev : Ev (H.length - 1) w S μ w (dropS S μ H.length) (dropM μ H.length) := drop_ev hH (by omega)
      refine ⟨by simp [hh], rfl, _, _, ⟨drop_heap hH, fun t => ?_, h.nt, by simp; omega, h.low, h.defs.ev hev, h.round⟩, hev⟩
      have hb : ∀ t, VRel w S μ (st.h.length - 1) (a.tmps.getD t undef) (look (keepO ks st.s) t) := by
        intro t
        cases ks with
        | none => exact h.slots t
        | some l => exact keep_slots h.slots l t
      show VRel _ _ _ (H.length - 1) _ (look (cleanSlots (fr :: H) (H.length - 1) (keepO ks st.s)) t)
      rcases look_clean (H := fr :: H) (H.length - 1) t (keepO ks st.s) with e | e
      · rw [e]
        have := drop_val hH (l0 := H.length - 1) (hb t)
        rw [e1] at this; exact this
      · rw [e]; exact vdead _
  · cases hs
theorem HRel.skip (ℓ : Nat) (hH : HRel w S μ H) (o : Obj) : HRel (w.alloc o) S μ H ∧ Ev ℓ w S μ (w.alloc o) S μ := by
  have hw : ∀ b, S b → (w.alloc o).heap[b]? = w.heap[b]? := fun b hb => alloc_heap w o b (hH.slt b hb)
  constructor
  · refine ⟨fun n b hb t0 b0 hb0 => ?_, hH.bnd, hH.disj, fun n t b h => ?_, fun b h => ?_⟩
    · exact (hH.blk n b hb t0 b0 hb0).mono (fun b h => h) hw (alloc_shp w o) (fun _ _ _ _ h => h) (fun _ => rfl) (fun t b' h' => alloc_heap w o b' (hH.lt _ _ _ h')) (fun t b' h' hs => hs)
    · have := hH.lt n t b h; rw [alloc_size]; omega
    · have := hH.slt b h; rw [alloc_size]; omega
  · exact ⟨rfl, rfl, rfl, by rw [alloc_size]; omega, fun _ h => h, fun b hb _ => alloc_heap w o b hb, alloc_shp w o, alloc_lp w o, fun _ _ _ _ h => h, fun nm t b h _ => ⟨nm, t, h⟩, fun b h _ => .inl h⟩
theorem poke_shp {q : Nat} {x : Option (List Deferred)} {o : Obj} (hq : w.heap[q]? = some (.deferred x)) (b : Nat) (y : TypeId × Nat) (h : w.shape? b = some y) : (w.putObj q o).shape? b = some y := by
  unfold World.shape? at h ⊢
  by_cases e : b = q
  · subst e; rw [hq] at h; simp at h
  · rw [World.putObj_heap_other e]; exact h
theorem HRel.poke {q : Nat} {x : Option (List Deferred)} {o : Obj} (hH : HRel w S μ H) (hq : w.heap[q]? = some (.deferred x)) (hS : ¬ S q) (hm : ∀ nm t, μ nm t ≠ some q) :
    HRel (w.putObj q o) S μ H := by
  have hw : ∀ b, S b → (w.putObj q o).heap[b]? = w.heap[b]? := fun b hb => World.putObj_heap_other fun e => hS (e ▸ hb)
  refine ⟨fun n b hb t0 b0 hb0 => ?_, hH.bnd, hH.disj, fun n t b h => ?_, fun b h => ?_⟩
  · exact (hH.blk n b hb t0 b0 hb0).mono (fun b h => h) hw (poke_shp hq) (fun _ _ _ _ h => h) (fun _ => rfl) (fun t b' h' => World.putObj_heap_other fun e => hm _ _ (e ▸ h')) (fun t b' h' hs => hs)
  · rw [World.putObj_size]; exact hH.lt n t b h
  · rw [World.putObj_size]; exact hH.slt b h
theorem Ev.poke {w0 : World} {S0 : Nat → Prop} {μ0 : Mu} {q : Nat} {x : Option (List Deferred)} {o : Obj} (h : Ev ℓ w0 S0 μ0 w S μ) (hq : w.heap[q]? = some (.deferred x)) (hb : w0.heap.size ≤ q) :
    Ev ℓ w0 S0 μ0 (w.putObj q o) S μ where
  os := h.os
  tape := h.tape
  out := h.out
  size := by rw [World.putObj_size]; exact h.size
  sub := h.sub
  same := fun b hb' ho => by rw [World.putObj_heap_other (by omega)]; exact h.same b hb' ho
  shp := fun b y hy => poke_shp hq b y (h.shp b y hy)
  lp := fun b r hr => by
    obtain ⟨r', hr'⟩ := h.lp b r hr
    refine ⟨r', ?_⟩
    rw [World.putObj_heap_other (fun e => by subst e; rw [hq] at hr'; cases hr')]; exact hr'
  mu := h.mu
  own := h.own
  snew := h.snew
end
end Go.Gh


/- A call's end: its scope goes, its result stays. -/
namespace Go.Gh
set_option linter.unusedSimpArgs false
set_option linter.unusedVariables false
section
variable {w w' : World} {S S' : Nat → Prop} {μ μ' : Mu} {H : Heap} {P : Program} {ℓ base : Nat}
theorem newKey_inj {c k k' : Nat} (h : newKey c k = newKey c k') : k = k' := by unfold newKey at h; omega
theorem newKey_sub (c k : Nat) : (newKey c k - (c + 1)) / 4096 = k := by unfold newKey; omega
theorem newKey_le (c k : Nat) : c + 1 ≤ newKey c k ∧ (newKey c k - (c + 1)) % 4096 = 0 := by unfold newKey; omega
theorem mem_dedup {x : Nat} : ∀ l : List Nat, x ∈ dedup l ↔ x ∈ l
  | [] => by simp [dedup]
  | k :: r => by
    unfold dedup
    split
    · rename_i h
      rw [mem_dedup r]
      simp only [List.contains_iff_mem] at h
      simp only [List.mem_cons]
      constructor
      · exact .inr
      · rintro (rfl | h')
        · exact h
        · exact h'
    · simp only [List.mem_cons, mem_dedup r]
theorem nodup_dedup : ∀ l : List Nat, (dedup l).Nodup
  | [] => by simp [dedup]
  | k :: r => by
    unfold dedup
    split
    · exact nodup_dedup r
    · rename_i h
      simp only [List.contains_iff_mem] at h
      exact List.nodup_cons.2 ⟨fun h' => h ((mem_dedup r).1 h'), nodup_dedup r⟩
theorem moveOut_spec {cl : GV → GV} {f : Fr} {c : Nat} : ∀ (ks : List Nat) (H0 H' : Heap), ks.Nodup → H0.length = H.length → 0 < H.length → moveOut cl f H c ks H0 = some H' →
    H'.length = H.length ∧ (∀ k ∈ ks, ∃ b b', f.get k = some b ∧ cleanBlk cl [] (H.length - 1) b = some b' ∧ H'.get (H.length - 1, newKey c k) = some b' ∧ H0.get (H.length - 1, newKey c k) = none) ∧
      ∀ nm, (∀ k ∈ ks, nm ≠ (H.length - 1, newKey c k)) → H'.get nm = H0.get nm
  | [], H0, H', _, hl, _, h => by
    simp only [moveOut, Option.some.injEq] at h; subst h
    exact ⟨hl, fun k hk => by simp at hk, fun _ _ => rfl⟩
  | k :: ks, H0, H', hn, hl, hp, h => by
    obtain ⟨n1, n2⟩ := List.nodup_cons.1 hn
    simp only [moveOut] at h
    split at h
    · rename_i b hb
      split at h
      · rename_i b' hc hg
        obtain ⟨q1, q2, q3⟩ := moveOut_spec ks _ H' n2 (by rw [Heap.length_set]; exact hl) hp h
        have hne : ∀ k' ∈ ks, ((H.length - 1, newKey c k) : Nm) ≠ (H.length - 1, newKey c k') := fun k' hk' e => by
          have := newKey_inj (Prod.mk.inj e).2
          subst this; exact n1 hk'
        refine ⟨q1, fun k' hk' => ?_, fun nm hnm => ?_⟩
        · rcases List.mem_cons.1 hk' with rfl | hk'
          · refine ⟨b, b', hb, hc, ?_, hg⟩
            rw [q3 _ hne]
            exact Heap.get_set _ (by simp [hl]; omega)
          · obtain ⟨x, x', x1, x2, x3, x4⟩ := q2 k' hk'
            refine ⟨x, x', x1, x2, x3, ?_⟩
            rw [Heap.get_set_other _ (Ne.symm (hne k' hk'))] at x4
            exact x4
        · rw [q3 nm fun k' hk' => hnm k' (List.mem_cons_of_mem _ hk')]
          exact Heap.get_set_other _ (hnm k (List.mem_cons_self ..))
      · cases h
    · cases h
def moveS (S : Nat → Prop) (μ : Mu) (L : Nat) (ks : List Nat) : Nat → Prop := fun b => S b ∨ ∃ k t, k ∉ ks ∧ μ (L, k) t = some b
def moveM (μ : Mu) (L c : Nat) (ks : List Nat) : Mu := fun nm t => if nm.1 = L - 1 ∧ (c + 1 ≤ nm.2 ∧ (nm.2 - (c + 1)) % 4096 = 0) ∧ (nm.2 - (c + 1)) / 4096 ∈ ks then μ (L, (nm.2 - (c + 1)) / 4096) t else dropM μ L nm t
theorem moveM_new {L c k : Nat} {ks : List Nat} (h : k ∈ ks) (t : Nat) : moveM μ L c ks (L - 1, newKey c k) t = μ (L, k) t := by
  unfold moveM
  rw [if_pos ⟨rfl, newKey_le c k, by rw [newKey_sub]; exact h⟩, newKey_sub]
theorem moveM_cases {L c : Nat} {ks : List Nat} (nm : Nm) : (∃ k ∈ ks, nm = (L - 1, newKey c k) ∧ ∀ t, moveM μ L c ks nm t = μ (L, k) t) ∨ ((∀ k ∈ ks, nm ≠ (L - 1, newKey c k)) ∧ ∀ t, moveM μ L c ks nm t = dropM μ L nm t) := by
  by_cases h : nm.1 = L - 1 ∧ (c + 1 ≤ nm.2 ∧ (nm.2 - (c + 1)) % 4096 = 0) ∧ (nm.2 - (c + 1)) / 4096 ∈ ks
  · refine .inl ⟨_, h.2.2, ?_, fun t => ?_⟩
    · refine Prod.ext h.1 ?_
      have := h.2.1
      simp only [newKey]; omega
    · unfold moveM; rw [if_pos h]
  · refine .inr ⟨fun k hk e => h ?_, fun t => ?_⟩
    · subst e
      exact ⟨rfl, newKey_le c k, by rw [newKey_sub]; exact hk⟩
    · unfold moveM; rw [if_neg h]
theorem clean1_nil {k l0 : Nat} {v : Value} {g : GV} (hv : VRel w S μ k v g) : VRel w S μ l0 v (clean1 [] l0 g) :=
  clean1_gen hv (fun _ h => h) fun nm es top lo len e hl => by simp only [sliceOfM, sliceOf, Heap.get]; exact .dead _
theorem clean1_nils {k l0 : Nat} {vs : List Value} {gs : List GV} (h : CRel w S μ k vs gs) : CRel w S μ l0 vs (gs.map (clean1 [] l0)) := by
  induction h with
  | nil => exact .nil
  | cons h1 h2 _ ih => exact .cons h1 (clean1_nil h2) ih
theorem capP_nil {k l0 : Nat} {v : Value} {g g' : GV} (hv : VRel w S μ k v g) (h : capP [] l0 g = some g') : VRel w S μ l0 v g' := by
  cases hv with
  | pure _ p hp => simp only [capP, Option.some.injEq] at h; subst h; exact .pure _ _ hp
  | pptr b o cs f hS hf h1 hr => simp only [capP, Option.some.injEq] at h; subst h; exact .pptr b o cs f hS hf h1 hr
  | nils a => simp only [capP, Option.some.injEq] at h; subst h; exact .nils a
  | bptr nm off b h1 h2 =>
    simp only [capP, Heap.get] at h
    split at h
    · simp only [Option.some.injEq] at h; subst h; exact .bptr nm off b ‹_› h2
    · cases h
  | _ => simp [capP] at h
theorem capsP_nil {k l0 : Nat} : ∀ {gs gs' : List GV} {f : Nat → Value}, capsP [] l0 gs = some gs' → (∀ j, j < gs.length → VRel w S μ k (f j) (gs.getD j gdead)) → gs'.length = gs.length ∧ ∀ j, j < gs'.length → VRel w S μ l0 (f j) (gs'.getD j gdead)
  | [], gs', f, h, _ => by
    simp only [capsP, Option.some.injEq] at h
    subst h
    exact ⟨rfl, fun j hj => absurd hj (Nat.not_lt_zero _)⟩
  | g :: gs, gs', f, h, hr => by
    simp only [capsP] at h
    split at h
    · rename_i g1 r1 e1 e2
      simp only [Option.some.injEq] at h
      subst h
      obtain ⟨a, b⟩ := capsP_nil (f := fun j => f (j + 1)) e2 (fun j hj => by simpa using hr (j + 1) (by simpa using hj))
      refine ⟨by simp [a], fun j hj => ?_⟩
      cases j with
      | zero => simpa using capP_nil (by simpa using hr 0 (by simp)) e1
      | succ j => simpa using b j (by simpa using hj)
    · cases h
theorem clean2_nil {k l0 : Nat} {v : Value} {g : GV} (hv : VRel w S μ k v g) : VRel w S μ l0 v (clean2 [] l0 g) := by
  cases g with
  | agg l =>
    obtain ⟨vs, rfl, hc⟩ := hv.cells
    exact mkAgg_rel' (clean1_nils hc)
  | func f la lc =>
    simp only [clean2]
    split
    · rename_i ha
      have := clean1_nil (l0 := l0) hv
      simpa only [clean1, ha, if_true] using this
    · split
      · rename_i hf
        split
        · rename_i cap' hc
          cases hv with
          | func _ a c _ _ h1 h2 hr1 hr2 =>
            obtain ⟨e1, e2⟩ := capsP_nil hc hr2
            exact .func f a c la cap' h1 (by rw [e1]; exact h2) (allLe_rel hf hr1) e2
        · exact vdead _
      · exact vdead _
  | _ => exact clean1_nil hv
/-- A block under another name. -/
theorem move_blk {cl : GV → GV} {nm nm' : Nm} {x y : Blk} (hx : BlkRel w S μ nm x) (hcl : ∀ v g, VRel w S μ nm.1 v g → VRel w S' μ' nm'.1 v (cl g)) (hc : cleanBlk cl [] nm'.1 x = some y) (hS : ∀ b, S b → S' b) (hm : ∀ t, μ' nm' t = μ nm t)
    (hs : ∀ t b, μ nm t = some b → S' b → S b) (hmu : ∀ n t b, n.1 ≤ nm'.1 → μ n t = some b → μ' n t = some b) : BlkRel w S' μ' nm' y := by
  have vm : ∀ {v g}, VRel w S μ nm'.1 v g → VRel w S' μ' nm'.1 v g := fun h => h.mono hS (fun _ _ => rfl) (fun _ _ h => h) hmu (Nat.le_refl _)
  have cm : ∀ {v g}, CRel w S μ nm'.1 v g → CRel w S' μ' nm'.1 v g := fun h => h.mono hS (fun _ _ => rfl) (fun _ _ h => h) hmu (Nat.le_refl _)
  have pm : ∀ {v p}, PRep w S v p → PRep w S' v p := fun h => h.mono hS (fun _ _ => rfl)
  cases x with
  | box cs =>
    simp only [cleanBlk, Option.some.injEq] at hc; subst hc
    obtain ⟨b, c, e, h1, h2, h3, h4⟩ := hx
    refine ⟨b, c, e, by rw [hm]; exact h1, fun h => h2 (hs _ _ h1 h), h3, ?_⟩
    clear h3
    generalize c.toList = l at h4
    induction h4 with
    | nil => exact .nil
    | cons k1 k2 _ ih => exact .cons k1 (hcl _ _ k2) ih
  | arr es elems vf ro =>
    simp only [cleanBlk, Option.some.injEq] at hc; subst hc
    obtain ⟨h0, h1, h2, ⟨b0, h3⟩, h4⟩ := hx
    refine ⟨h0, h1, h2, ⟨b0, by rw [hm]; exact h3⟩, fun top b hb' => ?_⟩
    rw [hm] at hb'
    obtain ⟨g1, g2, g3, g4⟩ := h4 top b hb'
    refine ⟨g1, g2, fun hr h => g3 hr (hs _ _ hb' h), fun hv => ?_⟩
    obtain ⟨k1, k2⟩ := g4 hv
    refine ⟨fun hr => hS _ (k1 hr), fun i j hi hj => ?_⟩
    obtain ⟨u, u1, u2, u3⟩ := k2 i j hi hj
    exact ⟨u, u1, u2, pm u3⟩
  | map es =>
    simp only [cleanBlk, Option.some.injEq] at hc; subst hc
    obtain ⟨b, ms, clock, h1, h2, h3, h4, h5⟩ := hx
    refine ⟨b, ms, clock, by rw [hm]; exact h1, fun h => h2 (hs _ _ h1 h), h3, by simpa using h4, fun j hj => ?_⟩
    have hj' : j < es.length := by simpa using hj
    obtain ⟨m, m1, m2, m3⟩ := h5 j hj'
    refine ⟨m, m1, ?_, ?_⟩
    · simp only [List.getElem_map]; exact pm m2
    · simp only [List.getElem_map]; exact vm (clean2_nil m3)
  | loop l => simp [cleanBlk] at hc
  | mat es rows n =>
    simp only [cleanBlk, Option.some.injEq] at hc; subst hc
    exact MatRel.mono hS (fun _ _ => rfl) hm (fun _ _ _ => rfl) hs hx
theorem get_cons {fr : Fr} {nm : Nm} : Heap.get (fr :: H) nm = if nm.1 = H.length then fr.get nm.2 else H.get nm := rfl
theorem move_heap {fr : Fr} {c : Nat} {ks : List Nat} {H' : Heap} (hH : HRel w S μ (fr :: H)) (hp : 0 < H.length) (hn : ks.Nodup) (h : moveOut (clM c fr H ks (H.length - 1)) fr H c ks H = some H') :
    HRel w (moveS S μ H.length ks) (moveM μ H.length c ks) H' ∧ Ev (H.length - 1) w S μ w (moveS S μ H.length ks) (moveM μ H.length c ks) ∧ H'.length = H.length := by
  obtain ⟨q1, q2, q3⟩ := moveOut_spec ks H H' hn rfl hp h
  have hlow : ∀ nm t b, nm.1 < H.length → μ nm t = some b → moveM μ H.length c ks nm t = some b := fun nm t b hl hm => by
    rcases moveM_cases (μ := μ) (L := H.length) (c := c) (ks := ks) nm with ⟨k, hk, rfl, _⟩ | ⟨_, e⟩
    · obtain ⟨_, _, _, _, _, x4⟩ := q2 k hk
      obtain ⟨y, hy⟩ := hH.bnd _ _ _ hm
      rw [get_cons, if_neg (by simp; omega), x4] at hy; cases hy
    · rw [e, dropM, if_pos hl]; exact hm
  have hsub : ∀ b, S b → moveS S μ H.length ks b := fun b h => .inl h
  have hrev : ∀ nm t b, moveM μ H.length c ks nm t = some b → ∃ nm', μ nm' t = some b ∧ ((∃ k ∈ ks, nm' = (H.length, k) ∧ nm = (H.length - 1, newKey c k)) ∨ (nm'.1 < H.length ∧ nm = nm' ∧ ∀ k ∈ ks, nm ≠ (H.length - 1, newKey c k))) := fun nm t b hm => by
    rcases moveM_cases (μ := μ) (L := H.length) (c := c) (ks := ks) nm with ⟨k, hk, e1, e⟩ | ⟨e1, e⟩
    · rw [e] at hm; exact ⟨_, hm, .inl ⟨k, hk, rfl, e1⟩⟩
    · rw [e] at hm
      obtain ⟨a, b⟩ := dropM_some hm
      exact ⟨nm, b, .inr ⟨a, rfl, e1⟩⟩
  refine ⟨⟨fun nm x hx t b hb => ?_, fun nm t b hb => ?_, fun nm nm' t t' b h1 h2 => ?_, fun nm t b hb => ?_, fun b hb => ?_⟩, ⟨rfl, rfl, rfl, Nat.le_refl _, hsub, fun _ _ _ => rfl, fun _ _ h => h, fun b r h => ⟨r, h⟩, fun nm t b hl hm => hlow nm t b (by omega) hm, fun nm t b hm _ => ?_, fun b hb _ => ?_⟩, q1⟩
  · rcases moveM_cases (μ := μ) (L := H.length) (c := c) (ks := ks) nm with ⟨k, hk, rfl, e⟩ | ⟨e1, e⟩
    · obtain ⟨x0, x', x1, x2, x3, x4⟩ := q2 k hk
      rw [x3] at hx; simp only [Option.some.injEq] at hx; subst hx
      rw [e] at hb
      have hlow' : ∀ n t b, n.1 ≤ H.length - 1 → μ n t = some b → moveM μ H.length c ks n t = some b := fun n t b hl hm => hlow n t b (by omega) hm
      have hcl : ∀ v g, VRel w S μ H.length v g → VRel w (moveS S μ H.length ks) (moveM μ H.length c ks) (H.length - 1) v (clM c fr H ks (H.length - 1) g) := fun v g hv => by
        have base := (clean1_nil (l0 := H.length - 1) hv).mono hsub (fun _ _ => rfl) (fun _ _ h => h) hlow' (Nat.le_refl _)
        cases g with
        | hdr nm es top lo len =>
          simp only [clM]
          split
          · rename_i hc
            exact .pure _ _ (hdr_pureM hH hv hsub (fun t b hm => .inr ⟨nm.2, t, hc.2, by rw [← hc.1]; exact hm⟩))
          · split
            · rename_i hc1 hc2
              have hin : nm.2 ∈ ks := Decidable.byContradiction fun h => hc1 ⟨hc2.1, h⟩
              cases hv with
              | hdr _ _ _ _ _ cap b n e g1 g2 g3 g4 g5 g6 =>
              refine .hdr _ es top lo len cap b n e (Nat.le_refl _) ?_ g3 g4 g5 g6
              rw [moveM_new hin]
              have : nm = (H.length, nm.2) := Prod.ext hc2.1 rfl
              rw [← this]; exact g2
            · exact base
        | _ => exact base
      refine move_blk (nm := (H.length, k)) (hH.blk _ _ (by rw [get_cons, if_pos rfl]; exact x1) t b hb) hcl x2 hsub (fun t => e t) (fun t b hm hs => ?_) (fun n t b hl hm => hlow n t b (by simp at hl; omega) hm)
      rcases hs with hs | ⟨k', t', hk', hm'⟩
      · exact hs
      · have := (Prod.mk.inj (hH.disj _ _ _ _ _ hm hm')).2
        subst this; exact absurd hk hk'
    · rw [e] at hb
      obtain ⟨hlt, hb⟩ := dropM_some hb
      rw [q3 nm e1] at hx
      refine (hH.blk nm x (by rw [get_cons, if_neg (by omega)]; exact hx) t b hb).mono hsub (fun _ _ => rfl) (fun _ _ h => h) (fun n t b hn hm => hlow n t b (by omega) hm) (fun t => ?_) (fun _ _ _ => rfl) (fun t' b' hm hs => ?_)
      · rw [e, dropM, if_pos hlt]
      · rcases hs with hs | ⟨k', t', hk', hm'⟩
        · exact hs
        · have := hH.disj _ _ _ _ _ hm hm'
          subst this; simp at hlt
  · obtain ⟨nm', hm, hc⟩ := hrev nm t b hb
    rcases hc with ⟨k, hk, rfl, rfl⟩ | ⟨hl, rfl, hno⟩
    · obtain ⟨x0, x', x1, x2, x3, x4⟩ := q2 k hk
      exact ⟨x', x3⟩
    · obtain ⟨y, hy⟩ := hH.bnd _ _ _ hm
      rw [get_cons, if_neg (by omega)] at hy
      exact ⟨y, by rw [q3 nm hno]; exact hy⟩
  · obtain ⟨n1, m1, c1⟩ := hrev nm t b h1
    obtain ⟨n2, m2, c2⟩ := hrev nm' t' b h2
    have e := hH.disj _ _ _ _ _ m1 m2
    subst e
    rcases c1 with ⟨k, hk, rfl, rfl⟩ | ⟨hl, rfl, _⟩
    · rcases c2 with ⟨k', hk', e, rfl⟩ | ⟨hl, _, _⟩
      · rw [(Prod.mk.inj e).2]
      · simp at hl
    · rcases c2 with ⟨k', hk', e, rfl⟩ | ⟨_, rfl, _⟩
      · subst e; simp at hl
      · rfl
  · obtain ⟨n1, m1, c1⟩ := hrev nm t b hb
    exact hH.lt _ _ _ m1
  · rcases hb with hb | ⟨k, t, _, hm⟩
    · exact hH.slt b hb
    · exact hH.lt _ _ _ hm
  · obtain ⟨n1, m1, c1⟩ := hrev nm t b hm
    exact ⟨n1, t, m1⟩
  · rcases hb with hb | ⟨k, t, _, hm⟩
    · exact .inl hb
    · exact .inr ⟨_, t, hm⟩
section
variable {L c : Nat} {ks : List Nat}
structure RenOk (w : World) (S : Nat → Prop) (μ : Mu) (S' : Nat → Prop) (μ' : Mu) (L c : Nat) (ks : List Nat) : Prop where
  sub : ∀ b, S b → S' b
  low : ∀ nm t b, nm.1 < L → μ nm t = some b → μ' nm t = some b
  new : ∀ k t, k ∈ ks → μ' (L - 1, newKey c k) t = μ (L, k) t
  pos : 0 < L
theorem RenOk.pure (h : RenOk w S μ S' μ' L c ks) {v : Value} {p : PV} (hv : PRep w S v p) : PRep w S' v p := hv.mono h.sub (fun _ _ => rfl)
theorem ren1_rel (h : RenOk w S μ S' μ' L c ks) {v : Value} {g : GV} (hv : VRel w S μ L v g) (hr : ∀ k ∈ refs1 L g, k ∈ ks) : VRel w S' μ' (L - 1) v (ren1 L c g) := by
  have hp := h.pos
  have key : ∀ (nm : Nm) (t b : Nat), nm.1 ≤ L → μ nm t = some b → (nm.1 = L → nm.2 ∈ ks) → nm.1 = L → μ' (L - 1, newKey c nm.2) t = some b := fun nm t b hl hm hk e => by
    rw [h.new _ t (hk e), ← hm, ← e]
  cases hv with
  | pure _ p hp => exact .pure _ _ (h.pure hp)
  | pptr b o cs f hS hf h1 hq => exact .pptr b o cs f (fun x => h.sub b (hS x)) hf h1 (fun j hj => h.pure (hq j hj))
  | nils a => exact .nils a
  | bptr nm off b h1 h2 =>
    simp only [ren1]
    split
    · rename_i e
      exact .bptr _ off b (Nat.le_refl _) (key nm 0 b h1 h2 (fun _ => hr _ (by simp [refs1, e])) e)
    · exact .bptr nm off b (by omega) (h.low nm 0 b (by omega) h2)
  | eptr nm es top i off b h1 h2 =>
    simp only [ren1]
    split
    · rename_i e
      exact .eptr _ es top i off b (Nat.le_refl _) (key nm top b h1 h2 (fun _ => hr _ (by simp [refs1, e])) e)
    · exact .eptr nm es top i off b (by omega) (h.low nm top b (by omega) h2)
  | hdr nm es top lo len cap b n e h1 h2 h3 h4 h5 h6 =>
    simp only [ren1]
    split
    · rename_i e'
      exact .hdr _ es top lo len cap b n e (Nat.le_refl _) (key nm top b h1 h2 (fun _ => hr _ (by simp [refs1, e'])) e') h3 h4 h5 h6
    · exact .hdr nm es top lo len cap b n e (by omega) (h.low nm top b (by omega) h2) h3 h4 h5 h6
  | map nm b h1 h2 =>
    simp only [ren1]
    split
    · rename_i e
      exact .map _ b (Nat.le_refl _) (key nm 0 b h1 h2 (fun _ => hr _ (by simp [refs1, e])) e)
    · exact .map nm b (by omega) (h.low nm 0 b (by omega) h2)
  | yield nm b h1 h2 =>
    simp only [ren1]
    split
    · exact vdead _
    · exact .yield nm b (by omega) (h.low nm 0 b (by omega) h2)
  | lits b o cap es l f hS he hes hf h1 hr => exact vdead _
  | lptr b o cs f hS hf h1 hr => exact vdead _
  | agg vs l h h1 hr => exact vdead _
  | tuple vs l h hr => exact vdead _
  | func f a c la lc h1 h2 hr1 hr2 => exact vdead _
  | rhdr nm es i len cap b h1 h2 h3 => exact vdead _
  | rptr nm es i j off b h1 h2 => exact vdead _
theorem ren1_list (h : RenOk w S μ S' μ' L c ks) {f : Nat → Value} {l : List GV} (hv : ∀ j, j < l.length → VRel w S μ L (f j) (l.getD j gdead)) (hr : ∀ k ∈ l.flatMap (refs1 L), k ∈ ks) (j : Nat) (hj : j < (l.map (ren1 L c)).length) :
    VRel w S' μ' (L - 1) (f j) ((l.map (ren1 L c)).getD j gdead) := by
  have hj' : j < l.length := by simpa using hj
  have e : (l.map (ren1 L c)).getD j gdead = ren1 L c (l.getD j gdead) := by simp [List.getD_eq_getElem?_getD, hj']
  rw [e]
  refine ren1_rel h (hv j hj') fun k hk => hr k (List.mem_flatMap.2 ⟨l[j], List.getElem_mem hj', ?_⟩)
  have e2 : l.getD j gdead = l[j] := by simp [List.getD_eq_getElem?_getD, hj']
  rwa [e2] at hk
theorem ren2_rel (h : RenOk w S μ S' μ' L c ks) {v : Value} {g : GV} (hv : VRel w S μ L v g) (hr : ∀ k ∈ refs2 L g, k ∈ ks) : VRel w S' μ' (L - 1) v (ren2 L c g) := by
  cases g with
  | agg l =>
    cases hv with
    | agg vs _ h1 h2 h3 =>
      refine mkAgg_rel' (.of_get _ _ (by simpa using h1) fun j hj => ?_)
      have hj' : j < l.length := by simpa using hj
      refine ⟨?_, ?_⟩
      · have := h2 j hj'; rw [agetD] at this; exact this
      · have := ren1_list h h3 hr j hj; rw [agetD] at this; exact this
  | func f la lc =>
    cases hv with
    | func _ a cc _ _ h1 h2 h3 h4 =>
      refine .func f a cc _ _ (by simpa using h1) (by simpa using h2) (fun j hj => ren1_list h h3 (fun k hk => hr k ?_) j hj) (fun j hj => ren1_list h h4 (fun k hk => hr k ?_) j hj)
      · simp only [refs2, List.mem_append]; exact .inl hk
      · simp only [refs2, List.mem_append]; exact .inr hk
  | _ => exact ren1_rel h hv hr
theorem ren_rel (h : RenOk w S μ S' μ' L c ks) {v : Value} {g : GV} (hv : VRel w S μ L v g) (hr : ∀ k ∈ refs L g, k ∈ ks) : VRel w S' μ' (L - 1) v (ren L c g) := by
  cases g with
  | tuple l =>
    cases hv with
    | tuple vs _ h1 h2 =>
      refine mkTuple_rel (by simpa using h1) fun j hj => ?_
      have hj' : j < l.length := by simpa using hj
      have e : (l.map (ren2 L c)).getD j gdead = ren2 L c (l.getD j gdead) := by simp [List.getD_eq_getElem?_getD, hj']
      rw [e]
      refine ren2_rel h (h2 j hj') fun k hk => hr k (List.mem_flatMap.2 ⟨l[j], List.getElem_mem hj', ?_⟩)
      have e2 : l.getD j gdead = l[j] := by simp [List.getD_eq_getElem?_getD, hj']
      rwa [e2] at hk
  | _ => exact ren2_rel h hv hr
end
theorem leave_ok (K : Ctx) {f : FuncId} {c : Nat} {r v : GV} {u : Value} {H0 H' : Heap} (hH : HRel w S μ H0) (hv : VRel w S μ (H0.length - 1) u r) (h1 : 1 < H0.length) (h : gleave K f c r H0 = some (v, H')) :
    ∃ S' μ', VRel w S' μ' (H'.length - 1) u v ∧ HRel w S' μ' H' ∧ Ev (H0.length - 2) w S μ w S' μ' ∧ H'.length + 1 = H0.length := by
  unfold gleave at h
  split at h
  · cases h
  · rename_i fr H
    simp only [List.length_cons] at h1 hv ⊢
    have e0 : H.length + 1 - 1 = H.length := by omega
    have e2 : H.length + 1 - 2 = H.length - 1 := by omega
    rw [e0] at hv
    rw [e2]
    split at h
    · split at h
      · rename_i H1 hm
        simp only [Option.some.injEq, Prod.mk.injEq] at h
        obtain ⟨rfl, rfl⟩ := h
        obtain ⟨a1, a2, a3⟩ := move_heap hH (by omega) (nodup_dedup _) hm
        refine ⟨_, _, ?_, a1, a2, by omega⟩
        rw [a3]
        exact ren_rel (ks := dedup (deepRefs fr H.length (refs H.length r))) ⟨a2.sub, fun nm t b hl hm => a2.mu nm t b (by omega) hm, fun k t hk => moveM_new hk t, by omega⟩ hv (fun k hk => (mem_dedup _).2 (List.mem_append.2 (.inl hk)))
      · cases h
    · simp only [Option.some.injEq, Prod.mk.injEq] at h
      obtain ⟨rfl, rfl⟩ := h
      have := drop_val hH (l0 := H.length - 1) hv
      have e1 : H.length - 1 + 1 = H.length := by omega
      rw [e1] at this
      exact ⟨_, _, canon_rel this, drop_heap hH, drop_ev hH (by omega), rfl⟩
end
end Go.Gh


/- Calls. -/
namespace Go.Gh
set_option linter.unusedSimpArgs false
set_option linter.unusedVariables false
def Done (ℓ n : Nat) (w : World) (S : Nat → Prop) (μ : Mu) (v : GV) (H' : Heap) : Ending → World → Prop := fun e w' =>
  ∃ u S' μ', e = .returned u ∧ VRel w' S' μ' (H'.length - 1) u v ∧ HRel w' S' μ' H' ∧ Ev ℓ w S μ w' S' μ' ∧ H'.length = n
section
variable {w w' : World} {S S' : Nat → Prop} {μ μ' : Mu} {H : Heap} {P : Program} {ℓ base : Nat} {r : Option Nat}
theorem HRel.push (hH : HRel w S μ H) : HRel w S μ ([] :: H) :=
  ⟨fun nm x hx t b hb => hH.blk nm x (by rw [← Heap.get_push]; exact hx) t b hb, fun nm t b hb => by obtain ⟨x, hx⟩ := hH.bnd nm t b hb; exact ⟨x, by rw [Heap.get_push]; exact hx⟩, hH.disj, hH.lt, hH.slt⟩
theorem look_slotsOf : ∀ (l : List GV) (i t : Nat), look (slotsOf i l) t = if i ≤ t then l.getD (t - i) gdead else gdead
  | [], i, t => by simp [slotsOf, look]
  | v :: l, i, t => by
    simp only [slotsOf, look_cons, look_slotsOf l (i + 1) t]
    by_cases h : t = i
    · subst h; simp
    · rw [if_neg h]
      by_cases h2 : i + 1 ≤ t
      · rw [if_pos h2, if_pos (by omega)]
        have : t - i = (t - (i + 1)) + 1 := by omega
        rw [this]; simp
      · rw [if_neg h2, if_neg (by omega)]
theorem gload_ptr {k : Nat} {t : TypeId} {v : Value} {g x : GV} (hv : VRel w S μ k v g) (h : gload P t H g = some x) : ∃ a, v = .pointer (some a) := by
  cases hv with
  | bptr nm off b h1 h2 => exact ⟨_, rfl⟩
  | eptr nm es top i off b h1 h2 => exact ⟨_, rfl⟩
  | pptr b o cs f hS hf h1 hr => exact ⟨_, rfl⟩
  | lptr b o cs f hS hf h1 hr => exact ⟨_, rfl⟩
  | rptr nm es i j off b h1 h2 => exact ⟨_, rfl⟩
  | _ => unfold gload at h; split at h <;> cases h
theorem mapM_rel {α : Type} {k : Nat} (f : α → Sem Value) (g : α → Option GV) : ∀ (l : List α) (rs : List GV), (∀ a b, g a = some b → ∃ u, (f a).run P w = .ok u w ∧ VRel w S μ k u b) →
    l.mapM g = some rs → ∃ us : List Value, (l.mapM f).run P w = .ok us w ∧ us.length = rs.length ∧ ∀ j, j < rs.length → VRel w S μ k (us.getD j undef) (rs.getD j gdead)
  | [], rs, _, h => by simp at h; subst h; exact ⟨[], by simp, rfl, fun j hj => by simp at hj⟩
  | a :: l, rs, hf, h => by
    rw [List.mapM_cons] at h
    cases hg : g a with
    | none => simp [hg] at h
    | some b =>
      cases hl : l.mapM g with
      | none => simp [hg, hl] at h
      | some rs' =>
        simp [hg, hl] at h; subst h
        obtain ⟨u, u1, u2⟩ := hf a b hg
        obtain ⟨us, q1, q2, q3⟩ := mapM_rel f g l rs' hf hl
        refine ⟨u :: us, by rw [List.mapM_cons]; simp [u1, q1], by simp [q2], fun j hj => ?_⟩
        cases j with
        | zero => simpa using u2
        | succ j => simpa using q3 j (by simpa using hj)
def packG (rs : List GV) : GV := match rs with | [r] => r | rs => mkTuple rs
theorem results_run (K : Ctx) {fn : Func} {st : GSt} {rs : List GV} {tmps : Array Value} {k : Nat} (hH : HRel w S μ st.h) (hs : ∀ t, VRel w S μ k (tmps.getD t undef) (look st.s t)) (h : gresults K fn st = some rs) :
    ∃ u, (results fn tmps).run K.P w = .ok u w ∧ VRel w S μ k u (packG rs) := by
  unfold gresults at h
  obtain ⟨us, q1, q2, q3⟩ := mapM_rel (P := K.P) (w := w) (S := S) (μ := μ) (k := k) (fun x : ResultVar => match x with
    | .tmp t => (pure (tmps.getD t undef) : Sem Value)
    | .cell a t => do loadVar t (← asAddr (tmps.getD a undef))) _ fn.results.toList rs (fun x b hx => by
      cases x with
      | tmp t => simp only [Option.some.injEq] at hx; subst hx; exact ⟨_, rfl, hs t⟩
      | cell a t =>
        simp only at hx
        obtain ⟨ad, had⟩ := gload_ptr (hs a) hx
        obtain ⟨u, u1, u2⟩ := gload_sound hH (hs a) hx
        refine ⟨u, ?_, u2⟩
        show (do loadVar t (← asAddr (tmps.getD a undef)) : Sem Value).run K.P w = _
        rw [had] at u1 ⊢
        simpa [Instr.loadAt, Instr.sureAddr, asAddr] using u1) h
  have hr : (results fn tmps).run K.P w = .ok (if h : us.toArray.size = 1 then us.toArray[0] else .tuple us.toArray) w := by
    unfold results
    simp only [Array.mapM_eq_mapM_toList]
    have e : (List.mapM (fun x : ResultVar => match x with
      | .tmp t => (pure (tmps.getD t undef) : Sem Value)
      | .cell a t => do loadVar t (← asAddr (tmps.getD a undef))) fn.results.toList).run K.P w = .ok us w := q1
    simp only [Sem.run_bind, Sem.run_pure, Array.getD_eq_getD_getElem?, map_eq_pure_bind, Result.andThen_ok] at e ⊢
    generalize hM : Sem.run K.P (List.mapM _ fn.results.toList) w = M
    have hM' : M = .ok us w := hM.symm.trans e
    subst hM'
    rfl
  refine ⟨_, hr, ?_⟩
  match us, rs, q2, q3 with
  | [], [], _, q3 => exact mkTuple_rel (vs := #[]) (gs := []) rfl fun j hj => absurd hj (by simp)
  | [u], [x], _, q3 => simpa [packG] using q3 0 (by simp)
  | u1 :: u2 :: us, x1 :: x2 :: rs, q2, q3 =>
    have : (if h : (u1 :: u2 :: us).toArray.size = 1 then (u1 :: u2 :: us).toArray[0] else Value.tuple (u1 :: u2 :: us).toArray) = Value.tuple (u1 :: u2 :: us).toArray := dif_neg (by simp)
    rw [this]
    exact mkTuple_rel (by simpa using q2) fun j hj => by rw [agetD]; exact q3 j hj
theorem vrel_poke {k q : Nat} {x : Option (List Deferred)} {o : Obj} (hq : w.heap[q]? = some (.deferred x)) (hS : ¬ S q) {v : Value} {g : GV} (hv : VRel w S μ k v g) : VRel (w.putObj q o) S μ k v g :=
  hv.mono (fun _ h => h) (fun b hb => World.putObj_heap_other (fun e : b = q => hS (e ▸ hb))) (poke_shp hq) (fun _ _ _ _ h => h) (Nat.le_refl _)
theorem marks_ok {n k : Nat} {F : Fence} {fn : Func} {tmps : Array Value} {s : Slots} {R : Ending → World → Prop} {w0 : World} {S0 : Nat → Prop} {μ0 : Mu} :
    ∀ (ds : List Deferred) (w : World), DefOk base w S μ ds → HRel w S μ H → Ev ℓ w0 S0 μ0 w S μ → w0.heap.size ≤ base → (∀ t, VRel w S μ k (tmps.getD t undef) (look s t)) →
    (∀ w2, HRel w2 S μ H → Ev ℓ w0 S0 μ0 w2 S μ → (∀ t, VRel w2 S μ k (tmps.getD t undef) (look s t)) → ∃ v, (results fn tmps).run P w2 = .ok v w2 ∧ R (.returned v) w2) →
    LeavesInM F n P fn tmps R ds .returning w
  | [], w, _, hH, he, _, hs, fin => fin w hH he hs
  | d :: ds, w, hd, hH, he, hb, hs, fin => by
    obtain ⟨q, h1, h2, h3, h4, h5⟩ := hd.each d (List.mem_cons_self ..)
    refine ⟨by simp, .inl ⟨q, w.putObj q (.deferred none), h1, run_takeDeferred h3, ?_⟩⟩
    refine marks_ok ds (w.putObj q (.deferred none)) ⟨fun d' hd' => ?_, (List.pairwise_cons.1 hd.apart).2⟩ (hH.poke h3 h4 h5) (he.poke h3 (Nat.le_trans hb h2)) hb (fun t => vrel_poke h3 h4 (hs t)) fin
    obtain ⟨q', g1, g2, g3, g4, g5⟩ := hd.each d' (List.mem_cons_of_mem _ hd')
    refine ⟨q', g1, g2, ?_, g4, g5⟩
    rw [World.putObj_heap_other]; exact g3
    intro e; subst e
    exact (List.pairwise_cons.1 hd.apart).1 d' hd' (h1.trans g1.symm)
theorem args_getD (vs : Array Value) (n t : Nat) : (vs ++ Array.replicate n undef).getD t undef = vs.getD t undef := by
  simp only [Array.getD_eq_getD_getElem?, Array.getElem?_append]
  split
  · rfl
  · rename_i h
    have h1 : vs[t]? = none := Array.getElem?_eq_none (by omega)
    rw [h1, Array.getElem?_replicate]
    split <;> rfl
/-- A call of a function. -/
theorem call_ok0 (K : Ctx) {rec : Rec} (hrec : RecOk K.P rec) {f : FuncId} {args : List GV} {c : Nat} {H' : Heap} {v : GV} (h : gcall0 K rec f args c H = some (v, H')) {vs : Array Value} (hH : HRel w S μ H)
    (hvs : vs.size = args.length) (hrel : ∀ j, j < args.length → VRel w S μ (H.length - 1) (vs.getD j undef) (args.getD j gdead)) :
    (callFunc f vs).run K.P w = .ok (.enter f vs) w ∧ CallsIn (Fw none) 0 K.P f vs w (Done (H.length - 1) H.length w S μ v H') := by
  unfold gcall0 at h
  split at h
  · cases h
  · rename_i fn hf
    split at h
    · cases h
    · rename_i code hb
      split at h
      · cases h
      · rename_i hc
        simp only [Bool.or_eq_true, decide_eq_true_eq, not_or, Bool.not_eq_true, Nat.not_lt] at hc
        obtain ⟨⟨hname, hnt⟩, hlen⟩ := hc
        refine ⟨by simp only [callFunc, Sem.run_bind, run_program, Result.andThen, hf, hname, hb]; rfl, ?_⟩
        have hst : StOk w.heap.size none w S μ ⟨slotsOf 0 (args.map canon), [] :: H, fn.ntmps⟩ { tmps := vs ++ Array.replicate (fn.ntmps - vs.size) undef, defers := [] } := by
          refine ⟨hH.push, fun t => ?_, ?_, by simp, Nat.le_refl _, ⟨fun d hd => by simp at hd, .nil⟩, fun l hl => by cases hl⟩
          · simp only [args_getD, look_slotsOf, Nat.zero_le, if_true, Nat.sub_zero, List.length_cons, Nat.add_sub_cancel]
            by_cases ht : t < args.length
            · have := canon_rel ((hrel t ht).up (show H.length - 1 ≤ H.length by omega))
              have e : (args.map canon).getD t gdead = canon (args.getD t gdead) := by simp [List.getD_eq_getElem?_getD, ht]
              rw [e]; exact this
            · have e : (args.map canon).getD t gdead = gdead := by
                rw [List.getD_eq_getElem?_getD, List.getElem?_eq_none (by simpa using ht)]; rfl
              rw [e]; exact vdead _
          · simp; omega
        have done : ∀ e st, rec f code ⟨slotsOf 0 (args.map canon), [] :: H, fn.ntmps⟩ = some (e, st) → (e = .normal ∨ e = .ret) →
            (match gresults K fn st with
              | some rs => (match rs with
                | [r] => gleave K f c r st.h
                | rs => gleave K f c (mkTuple rs) st.h)
              | none => none) = some (v, H') → CallsIn (Fw none) 0 K.P f vs w (Done (H.length - 1) H.length w S μ v H') := by
          intro e st hr he hres
          have hwp := hrec f code _ e st hr _ _ w S μ _ hst
          refine callsIn_of_wp_marks hf hb trivial (wpIn_mono hwp fun e' a' w' hq => ?_)
          obtain ⟨q1, q2, q3, S', μ', q4, q5⟩ := hq
          simp only [List.length_cons, Nat.add_sub_cancel] at q2 q5
          have main : LeavesInM (Fw none) 0 K.P fn a'.tmps (Done (H.length - 1) H.length w S μ v H') a'.defers .returning w' := by
            refine marks_ok (s := st.s) (k := st.h.length - 1) a'.defers w' q4.defs q4.heap q5 (Nat.le_refl _) q4.slots fun w2 h2 e2 s2 => ?_
            split at hres
            · rename_i rs hrs
              obtain ⟨u, u1, u2⟩ := results_run K h2 s2 hrs
              have hl : gleave K f c (packG rs) st.h = some (v, H') := by
                unfold packG
                split at hres <;> exact hres
              obtain ⟨S3, μ3, l1, l2, l3, l4⟩ := leave_ok K h2 u2 (by omega) hl
              refine ⟨u, u1, u, S3, μ3, rfl, l1, l2, ?_, by omega⟩
              have : st.h.length - 2 = H.length - 1 := by omega
              rw [this] at l3
              exact (e2.level (by omega)).trans l3
            · cases hres
          rcases he with rfl | rfl
          · simp only [exitOf] at q1; subst q1; exact main
          · simp only [exitOf] at q1; subst q1; exact main
        split at h
        · cases h
        · rename_i e st hne hr
          refine done e st hr ?_ h
          cases e with
          | normal => exact .inl rfl
          | ret => exact .inr rfl
          | exit id => exact absurd rfl (hne id)
        · cases h
theorem frzCell_rel (ℓ : Nat) (hH : HRel w S μ H) {k : Nat} {v : Value} {g : GV} (hv : VRel w S μ k v g) :
    ∃ S', HRel w S' μ (frzCell H g).2 ∧ Ev ℓ w S μ w S' μ ∧ VRel w S' μ k v (frzCell H g).1 ∧ SameBox H (frzCell H g).2 := by
  cases g with
  | hdr nm es top lo len =>
    obtain ⟨S', a1, a2, a3, a4⟩ := pureCell_rel ℓ hH hv
    exact ⟨S', a1, a2, .pure _ _ a3, a4⟩
  | _ => exact ⟨S, hH, .refl _ _ _ _, hv, .refl H⟩
theorem frzCells_rel (ℓ : Nat) : ∀ {gs : List GV} {vs : List Value} {S : Nat → Prop} {H : Heap} {k : Nat}, HRel w S μ H → CRel w S μ k vs gs →
    ∃ S', HRel w S' μ (frzCells H gs).2 ∧ Ev ℓ w S μ w S' μ ∧ CRel w S' μ k vs (frzCells H gs).1 ∧ SameBox H (frzCells H gs).2
  | [], vs, S, H, k, hH, hc => by cases hc; exact ⟨S, hH, .refl _ _ _ _, .nil, .refl H⟩
  | g :: gs, vs, S, H, k, hH, hc => by
    cases hc with
    | cons h1 h2 h3 =>
    obtain ⟨S1, a1, a2, a3, a4⟩ := frzCell_rel ℓ hH h2
    have h3' : CRel w S1 μ k _ gs := h3.mono a2.sub (fun _ _ => rfl) (fun _ _ h => h) (fun _ _ _ _ h => h) (Nat.le_refl _)
    obtain ⟨S2, b1, b2, b3, b4⟩ := frzCells_rel ℓ a1 h3'
    exact ⟨S2, b1, a2.trans b2, .cons h1 (a3.mono b2.sub (fun _ _ => rfl) (fun _ _ h => h) (fun _ _ _ _ h => h) (Nat.le_refl _)) b3, a4.trans b4⟩
theorem frzVal_rel (ℓ : Nat) (hH : HRel w S μ H) {k : Nat} {v : Value} {g : GV} (hv : VRel w S μ k v g) :
    ∃ S', HRel w S' μ (frzVal H g).2 ∧ Ev ℓ w S μ w S' μ ∧ VRel w S' μ k v (frzVal H g).1 ∧ SameBox H (frzVal H g).2 := by
  cases g with
  | agg l =>
    obtain ⟨vs, rfl, hc⟩ := hv.cells
    obtain ⟨S', a1, a2, a3, a4⟩ := frzCells_rel ℓ hH hc
    exact ⟨S', a1, a2, mkAgg_rel' a3, a4⟩
  | _ => exact frzCell_rel ℓ hH hv
theorem frzVals_rel (ℓ : Nat) : ∀ {gs : List GV} {f : Nat → Value} {S : Nat → Prop} {H : Heap} {k : Nat}, HRel w S μ H → (∀ j, j < gs.length → VRel w S μ k (f j) (gs.getD j gdead)) →
    ∃ S', HRel w S' μ (frzVals H gs).2 ∧ Ev ℓ w S μ w S' μ ∧ (∀ j, j < gs.length → VRel w S' μ k (f j) ((frzVals H gs).1.getD j gdead)) ∧ SameBox H (frzVals H gs).2 ∧ (frzVals H gs).1.length = gs.length
  | [], f, S, H, k, hH, hv => ⟨S, hH, .refl _ _ _ _, fun j hj => by simp at hj, .refl H, rfl⟩
  | g :: gs, f, S, H, k, hH, hv => by
    obtain ⟨S1, a1, a2, a3, a4⟩ := frzVal_rel ℓ hH (show VRel w S μ k (f 0) g from hv 0 (by simp))
    have hmono : ∀ {S1 S2 : Nat → Prop} {v : Value} {g : GV}, (∀ b, S1 b → S2 b) → VRel w S1 μ k v g → VRel w S2 μ k v g := fun hs h => h.mono hs (fun _ _ => rfl) (fun _ _ h => h) (fun _ _ _ _ h => h) (Nat.le_refl _)
    obtain ⟨S2, b1, b2, b3, b4, b5⟩ := frzVals_rel ℓ (gs := gs) (f := fun j => f (j + 1)) a1 (fun j hj => hmono a2.sub (by simpa using hv (j + 1) (by simpa using hj)))
    refine ⟨S2, b1, a2.trans b2, fun j hj => ?_, a4.trans b4, congrArg (· + 1) b5⟩
    cases j with
    | zero => exact hmono b2.sub (by simpa [frzVals] using a3)
    | succ j => simpa [frzVals] using b3 j (by simpa using hj)
theorem flatPL_get : ∀ {l : List PV}, flatPL l = true → ∀ j, flatP (l.getD j .dead) = true
  | [], _, j => by simp [flatP]
  | g :: r, h, j => by
    simp only [flatPL, Bool.and_eq_true] at h
    cases j with
    | zero => simpa using h.1
    | succ j => simpa using flatPL_get h.2 j
theorem PRep.flat {v : Value} {p : PV} (h : PRep w S v p) (hf : flatP p = true) : PRep w' S' v p := by
  induction h with
  | int k n => exact .int k n
  | bool b => exact .bool b
  | str s => exact .str s
  | slice0 a cap => exact .slice0 a cap
  | slice b o cap es l f hb he hes hf' h1 _ hc ih =>
    cases l with
    | nil => exact .slice0 _ _
    | cons x r => simp [flatP] at hf
  | agg vs l h h1 _ ih => exact .agg vs l h h1 fun j hj => ih j hj (flatPL_get (by simpa only [flatP] using hf) j)
  | tuple vs l h _ ih => exact .tuple vs l h fun j hj => ih j hj (flatPL_get (by simpa only [flatP] using hf) j)
  | fn f => exact .fn f
  | nilp => exact .nilp
  | nilf => exact .nilf
  | nilm => exact .nilm
  | nili => exact .nili
  | iface t v p _ ih => exact .iface t v p (ih (by simpa only [flatP] using hf))
  | dead v => exact .dead v
theorem VRel.flat {k k' : Nat} {v : Value} {g : GV} (h : VRel w S μ k v g) (hf : flatG g = true) : VRel w' S' μ' k' v g := by
  cases g with
  | pure p => exact .pure _ _ (h.pv.flat (by simpa only [flatG] using hf))
  | nils => cases h with | nils a => exact .nils a
  | _ => simp [flatG] at hf
theorem CRel.flat {k k' : Nat} {vs : List Value} {gs : List GV} (h : CRel w S μ k vs gs) (hf : flatGL gs = true) : CRel w' S' μ' k' vs gs := by
  induction h with
  | nil => exact .nil
  | cons h1 h _ ih =>
    simp only [flatGL, Bool.and_eq_true] at hf
    exact .cons h1 (h.flat hf.1) (ih hf.2)
def okArg (q : Option Nm) : GV → Prop
  | .pure _ | .nils => True
  | .func _ a c => (allPure a).isSome = true ∧ (allPure c).isSome = true
  | .bptr nm _ => q = some nm
  | _ => False
theorem okArg.none {q : Option Nm} {g : GV} (h : okArg none g) : okArg q g := by
  cases g with
  | bptr nm off => cases h
  | _ => exact h
theorem borBox_ok : ∀ {l : List GV} {q : Option Nm}, borBox l = some q → ∀ g ∈ l, okArg q g
  | [], q, _, g, hg => by simp at hg
  | x :: r, q, h, g, hg => by
    simp only [borBox] at h
    split at h
    · cases h
    · rename_i q' hr
      have ih := borBox_ok hr
      split at h
      · cases h
        rcases List.mem_cons.1 hg with rfl | hg
        · trivial
        · exact ih g hg
      · cases h
        rcases List.mem_cons.1 hg with rfl | hg
        · trivial
        · exact ih g hg
      · split at h
        · rename_i hc
          cases h
          rcases List.mem_cons.1 hg with rfl | hg
          · simpa only [okArg, Bool.and_eq_true] using hc
          · exact ih g hg
        · cases h
      · rename_i nm off
        split at h
        · cases h
          rcases List.mem_cons.1 hg with rfl | hg
          · rfl
          · exact (ih g hg).none
        · rename_i nm'
          split at h
          · rename_i e
            cases h
            rcases List.mem_cons.1 hg with rfl | hg
            · simp [okArg, e]
            · exact ih g hg
          · cases h
      · cases h
theorem allPure_get : ∀ {l : List GV}, (allPure l).isSome = true → ∀ j, ∃ p, l.getD j gdead = .pure p
  | [], _, j => ⟨.dead, by simp [gdead]⟩
  | g :: r, h, j => by
    cases g with
    | pure p =>
      have h2 : (allPure r).isSome = true := by
        simp only [allPure] at h
        split at h
        · rename_i ps hps; rw [hps]; rfl
        · cases h
      cases j with
      | zero => exact ⟨p, by simp⟩
      | succ j => simpa using allPure_get h2 j
    | _ => simp [allPure] at h
theorem okArg_rel {q : Option Nm} {k : Nat} {v : Value} {g : GV} (h : VRel w S μ k v g) (ho : okArg q g) (hS : ∀ b, S b → S' b) (hm : ∀ nm b, q = some nm → μ nm 0 = some b → μ' nm 0 = some b) : VRel w S' μ' k v g := by
  have hp : ∀ {v p}, PRep w S v p → PRep w S' v p := fun h => h.mono hS (fun _ _ => rfl)
  have hl : ∀ {l : List GV} {f : Nat → Value}, (allPure l).isSome = true → (∀ j, j < l.length → VRel w S μ k (f j) (l.getD j gdead)) → ∀ j, j < l.length → VRel w S' μ' k (f j) (l.getD j gdead) := fun {l f} h hv j hj => by
    obtain ⟨p, e⟩ := allPure_get h j
    have := hv j hj
    rw [e] at this ⊢
    exact .pure _ _ (hp this.pv)
  cases h with
  | pure v p h => exact .pure _ _ (hp h)
  | nils a => exact .nils a
  | func f a c la lc h1 h2 h3 h4 => exact .func f a c la lc h1 h2 (hl ho.1 h3) (hl ho.2 h4)
  | bptr nm off b h1 h2 => exact .bptr nm off b h1 (hm nm b ho h2)
  | _ => exact ho.elim
theorem emptyH_length (H : Heap) : (emptyH H).length = H.length := by simp [emptyH]
theorem flatRows_get : ∀ {l : List (List PV)}, flatRows l = true → ∀ i j, flatP ((l.getD i []).getD j .dead) = true
  | [], _, i, j => by simp [flatP]
  | g :: r, h, i, j => by
    simp only [flatRows, Bool.and_eq_true] at h
    cases i with
    | zero => simpa using flatPL_get h.1 j
    | succ i => simpa using flatRows_get h.2 i j
theorem lentIns_spec {H0 : Heap} {L : Nat} : ∀ (ks : List Nat) (H H' : Heap), ks.Nodup → L < H.length → lentIns H0 L ks H = some H' →
    H'.length = H.length ∧ (∀ k ∈ ks, ∃ es rows vf, H0.get (L, k) = some (.arr es rows vf false) ∧ flatRows rows = true ∧ H'.get (L, k) = some (.arr es rows vf false) ∧ H.get (L, k) = none) ∧
      ∀ nm : Nm, (∀ k ∈ ks, nm ≠ (L, k)) → H'.get nm = H.get nm
  | [], H, H', _, _, h => by
    simp only [lentIns, Option.some.injEq] at h; subst h
    exact ⟨rfl, fun k hk => by simp at hk, fun _ _ => rfl⟩
  | k :: ks, H, H', hn, hl, h => by
    obtain ⟨n1, n2⟩ := List.nodup_cons.1 hn
    simp only [lentIns] at h
    split at h
    · rename_i es rows vf h1 h2
      split at h
      · rename_i hf
        obtain ⟨q1, q2, q3⟩ := lentIns_spec ks _ H' n2 (by rw [Heap.length_set]; exact hl) h
        have hne : ∀ k' ∈ ks, ((L, k) : Nm) ≠ (L, k') := fun k' hk' e => by
          have := (Prod.mk.inj e).2
          subst this; exact n1 hk'
        refine ⟨q1.trans (Heap.length_set _ _ _), fun k' hk' => ?_, fun nm hnm => ?_⟩
        · rcases List.mem_cons.1 hk' with rfl | hk'
          · refine ⟨es, rows, vf, h1, hf, ?_, h2⟩
            rw [q3 _ hne]
            exact Heap.get_set _ hl
          · obtain ⟨es', rows', vf', x1, x2, x3, x4⟩ := q2 k' hk'
            refine ⟨es', rows', vf', x1, x2, x3, ?_⟩
            rw [Heap.get_set_other _ (Ne.symm (hne k' hk'))] at x4
            exact x4
        · rw [q3 nm fun k' hk' => hnm k' (List.mem_cons_of_mem _ hk')]
          exact Heap.get_set_other _ (hnm k (List.mem_cons_self ..))
      · cases h
    · cases h
theorem lent1_rel {k L : Nat} {names : List Nat} (hm : ∀ q t b, q ∈ names → μ (L, q) t = some b → μ' (L, q) t = some b) {v : Value} {g : GV} (h : VRel w S μ k v g) (hl : lent1 L g = true) (hr : ∀ q ∈ refs1 L g, q ∈ names) : VRel w S' μ' k v g := by
  cases h with
  | pure v p h => exact .pure _ _ (h.flat (by simpa only [lent1] using hl))
  | nils a => exact .nils a
  | hdr nm es top lo len cap b n e h1 h2 h3 h4 h5 h6 =>
    have e1 : nm.1 = L := by simpa only [lent1, decide_eq_true_eq] using hl
    have e2 : nm = (L, nm.2) := Prod.ext e1 rfl
    refine .hdr nm es top lo len cap b n e h1 ?_ h3 h4 h5 h6
    rw [e2] at h2 ⊢
    exact hm _ _ _ (hr _ (by simp [refs1, e1])) h2
  | _ => simp [lent1] at hl
theorem lentL_get {L : Nat} : ∀ {l : List GV}, lentL L l = true → ∀ j, j < l.length → lent1 L (l.getD j gdead) = true
  | [], _, j, hj => by simp at hj
  | g :: r, h, j, hj => by
    simp only [lentL, Bool.and_eq_true] at h
    cases j with
    | zero => simpa using h.1
    | succ j => simpa using lentL_get h.2 j (by simpa using hj)
theorem lentLL_get {L : Nat} : ∀ {l : List GV}, lentLL L l = true → ∀ j, j < l.length → lent2 L (l.getD j gdead) = true
  | [], _, j, hj => by simp at hj
  | g :: r, h, j, hj => by
    simp only [lentLL, Bool.and_eq_true] at h
    cases j with
    | zero => simpa using h.1
    | succ j => simpa using lentLL_get h.2 j (by simpa using hj)
theorem lent2_rel {k L : Nat} {names : List Nat} (hm : ∀ q t b, q ∈ names → μ (L, q) t = some b → μ' (L, q) t = some b) {v : Value} {g : GV} (h : VRel w S μ k v g) (hl : lent2 L g = true) (hr : ∀ q ∈ refs2 L g, q ∈ names) : VRel w S' μ' k v g := by
  cases g with
  | agg l =>
    cases h with
    | agg vs _ h1 h2 h3 =>
      refine .agg vs l h1 h2 fun j hj => lent1_rel hm (h3 j hj) (lentL_get (by simpa only [lent2] using hl) j hj) fun q hq => hr q ?_
      have e2 : l.getD j gdead = l[j] := by simp [List.getD_eq_getElem?_getD, hj]
      rw [e2] at hq
      exact List.mem_flatMap.2 ⟨l[j], List.getElem_mem hj, hq⟩
  | func f a c => simp [lent2, lent1] at hl
  | _ => exact lent1_rel hm h (by simpa only [lent2] using hl) (by simpa only [refs2] using hr)
theorem lentV_rel {k L : Nat} {names : List Nat} (hm : ∀ q t b, q ∈ names → μ (L, q) t = some b → μ' (L, q) t = some b) {v : Value} {g : GV} (h : VRel w S μ k v g) (hl : lentV L g = true) (hr : ∀ q ∈ refs L g, q ∈ names) : VRel w S' μ' k v g := by
  cases g with
  | tuple l =>
    cases h with
    | tuple vs _ h1 h2 =>
      refine .tuple vs l h1 fun j hj => lent2_rel hm (h2 j hj) (lentLL_get (by simpa only [lentV] using hl) j hj) fun q hq => hr q ?_
      have e2 : l.getD j gdead = l[j] := by simp [List.getD_eq_getElem?_getD, hj]
      rw [e2] at hq
      exact List.mem_flatMap.2 ⟨l[j], List.getElem_mem hj, hq⟩
  | _ => exact lent2_rel hm h (by simpa only [lentV] using hl) (by simpa only [refs] using hr)
/-- What a call with lent slices tells, in the caller's world. -/
theorem lentEnd_ok {n0 : Nat} {H0 Hm H' : Heap} {v0 v : GV} {u : Value} (h0 : HRel w S' μ' H0) (hm : HRel w S μ Hm) (hp : 0 < Hm.length) (hS : ∀ b, S b → b < n0) (hlt : ∀ nm t b, μ nm t = some b → b < n0)
    (hnew : ∀ nm t b, Hm.get nm = none → μ' nm t = some b → n0 ≤ b) (hv : VRel w S' μ' (Hm.length - 1) u v0) (h : lentEnd H0 v0 Hm = some (v, H')) :
    ∃ μ2, VRel w S μ2 (Hm.length - 1) u v ∧ HRel w S μ2 H' ∧ (∀ nm t b, μ nm t = some b → μ2 nm t = some b) ∧ (∀ nm t b, μ2 nm t = some b → b < n0 → μ nm t = some b) ∧ H'.length = Hm.length := by
  unfold lentEnd at h
  split at h
  · rename_i hlent
    split at h
    · rename_i H1 hins
      simp only [Option.some.injEq, Prod.mk.injEq] at h
      obtain ⟨rfl, rfl⟩ := h
      generalize hL : Hm.length - 1 = L at *
      generalize hks : dedup (refs L v0) = ks at *
      have hnd : ks.Nodup := hks ▸ nodup_dedup _
      obtain ⟨q1, q2, q3⟩ := lentIns_spec ks Hm H1 hnd (by omega) hins
      let μ2 : Mu := fun nm t => if nm.1 = L ∧ nm.2 ∈ ks then μ' nm t else μ nm t
      have e1 : ∀ k t, k ∈ ks → μ2 (L, k) t = μ' (L, k) t := fun k t hk => if_pos ⟨rfl, hk⟩
      have e2 : ∀ nm : Nm, (∀ k ∈ ks, nm ≠ (L, k)) → ∀ t, μ2 nm t = μ nm t := fun nm hn t => if_neg fun hc => hn nm.2 hc.2 (Prod.ext hc.1 rfl)
      have cases' : ∀ nm : Nm, (∃ k ∈ ks, nm = (L, k)) ∨ ∀ k ∈ ks, nm ≠ (L, k) := fun nm => by
        by_cases hc : nm.1 = L ∧ nm.2 ∈ ks
        · exact .inl ⟨nm.2, hc.2, Prod.ext hc.1 rfl⟩
        · exact .inr fun k hk e => hc (by subst e; exact ⟨rfl, hk⟩)
      have old : ∀ nm t b, μ nm t = some b → ∀ k ∈ ks, nm ≠ (L, k) := fun nm t b hb k hk e => by
        subst e
        obtain ⟨x, hx⟩ := hm.bnd _ _ _ hb
        obtain ⟨_, _, _, _, _, _, x4⟩ := q2 k hk
        rw [x4] at hx; cases hx
      have fresh : ∀ k t b, k ∈ ks → μ' (L, k) t = some b → n0 ≤ b := fun k t b hk hb => by
        obtain ⟨_, _, _, _, _, _, x4⟩ := q2 k hk
        exact hnew _ _ _ x4 hb
      have up : ∀ nm t b, μ nm t = some b → μ2 nm t = some b := fun nm t b hb => by rw [e2 nm (old nm t b hb)]; exact hb
      refine ⟨μ2, ?_, ⟨fun nm x hx t b hb => ?_, fun nm t b hb => ?_, fun nm nm' t t' b h1 h2 => ?_, fun nm t b hb => ?_, hm.slt⟩, up, fun nm t b hb hlt => ?_, q1⟩
      · exact lentV_rel (names := ks) (fun q t b hq hb => by rw [e1 q t hq]; exact hb) hv hlent fun q hq => by rw [← hks]; exact (mem_dedup _).2 hq
      · rcases cases' nm with ⟨k, hk, rfl⟩ | hn
        · obtain ⟨es, rows, vf, x1, x2, x3, x4⟩ := q2 k hk
          rw [x3] at hx; cases hx
          rw [e1 k t hk] at hb
          obtain ⟨h0', h1', h2', ⟨b0, h3'⟩, h4'⟩ := h0.blk _ _ x1 t b hb
          refine ⟨h0', h1', h2', ⟨b0, by rw [e1 k _ hk]; exact h3'⟩, fun top b hb' => ?_⟩
          rw [e1 k _ hk] at hb'
          obtain ⟨g1, g2, g3, g4⟩ := h4' top b hb'
          refine ⟨g1, g2, fun _ hs => by have := hS b hs; have := fresh k top b hk hb'; omega, fun hv => ⟨fun hr => (by cases hr), fun i j hi hj => ?_⟩⟩
          obtain ⟨u', u1, u2, u3⟩ := (g4 hv).2 i j hi hj
          exact ⟨u', u1, u2, u3.flat (flatRows_get x2 i j)⟩
        · rw [q3 nm hn] at hx
          rw [e2 nm hn] at hb
          exact (hm.blk nm x hx t b hb).mono (fun _ h => h) (fun _ _ => rfl) (fun _ _ h => h) (fun n t b _ h => up n t b h) (fun t => e2 nm hn t) (fun _ _ _ => rfl) (fun _ _ _ h => h)
      · rcases cases' nm with ⟨k, hk, rfl⟩ | hn
        · obtain ⟨es, rows, vf, x1, x2, x3, x4⟩ := q2 k hk
          exact ⟨_, x3⟩
        · rw [e2 nm hn] at hb
          obtain ⟨x, hx⟩ := hm.bnd _ _ _ hb
          exact ⟨x, by rw [q3 nm hn]; exact hx⟩
      · rcases cases' nm with ⟨k, hk, rfl⟩ | hn
        · rw [e1 k t hk] at h1
          rcases cases' nm' with ⟨k', hk', rfl⟩ | hn'
          · rw [e1 k' t' hk'] at h2
            exact h0.disj _ _ _ _ _ h1 h2
          · rw [e2 nm' hn'] at h2
            have := fresh k t b hk h1
            have := hlt _ _ _ h2
            omega
        · rw [e2 nm hn] at h1
          rcases cases' nm' with ⟨k', hk', rfl⟩ | hn'
          · rw [e1 k' t' hk'] at h2
            have := fresh k' t' b hk' h2
            have := hlt _ _ _ h1
            omega
          · rw [e2 nm' hn'] at h2
            exact hm.disj _ _ _ _ _ h1 h2
      · rcases cases' nm with ⟨k, hk, rfl⟩ | hn
        · rw [e1 k t hk] at hb; exact h0.lt _ _ _ hb
        · rw [e2 nm hn] at hb; exact hm.lt _ _ _ hb
      · rcases cases' nm with ⟨k, hk, rfl⟩ | hn
        · rw [e1 k t hk] at hb
          have := fresh k t b hk hb
          omega
        · rw [e2 nm hn] at hb; exact hb
    · cases h
  · cases h
theorem borrow_ok (K : Ctx) {rec : Rec} (hrec : RecOk K.P rec) {f : FuncId} {args : List GV} {c : Nat} {Hf H' : Heap} {v : GV} (h : gborrow K rec f args c H = some (v, H')) {vs : Array Value} (hH : HRel w S μ H)
    {S1 : Nat → Prop} (hf : HRel w S1 μ Hf) (hfb : ∀ nm cs, H.get nm = some (.box cs) → Hf.get nm = some (.box cs))
    (hvs : vs.size = args.length) (hrel : ∀ j, j < args.length → VRel w S1 μ (H.length - 1) (vs.getD j undef) (args.getD j gdead)) :
    (callFunc f vs).run K.P w = .ok (.enter f vs) w ∧ CallsIn (Fw none) 0 K.P f vs w (Done (H.length - 1) H.length w S μ v H') := by
  -- the small world: all is frozen but the box
  have main : ∀ (q : Option Nm) (H0 H0' Hm : Heap) (v0 : GV), borBox args = some q → H0.length = H.length → HRel w (fun b => b < w.heap.size ∧ ∀ nm, q = some nm → μ nm 0 ≠ some b) (fun n t => if q = some n ∧ t = 0 then μ n t else none) H0 →
      (∀ nm, q = some nm → (∃ cs, H.get nm = some (.box cs)) ∧ Hm.get nm ≠ none) → gcall0 K rec f args c H0 = some (v0, H0') → lentEnd H0' v0 Hm = some (v, H') → Hm.length = H.length →
      (∀ w' S' μ', HRel w' S' μ' H0' → Ev (H.length - 1) w (fun b => b < w.heap.size ∧ ∀ nm, q = some nm → μ nm 0 ≠ some b) (fun n t => if q = some n ∧ t = 0 then μ n t else none) w' S' μ' → HRel w' S μ Hm) →
      (callFunc f vs).run K.P w = .ok (.enter f vs) w ∧ CallsIn (Fw none) 0 K.P f vs w (Done (H.length - 1) H.length w S μ v H') := by
    intro q H0 H0' Hm v0 hq hl0 hH0 hbx hg hend hml hres
    have hbox : ∀ nm b, q = some nm → μ nm 0 = some b → ¬ S b ∧ ¬ S1 b := fun nm b e hm => by
      obtain ⟨⟨cs, hcs⟩, _⟩ := hbx nm e
      constructor
      · obtain ⟨b', _, _, h1, h2, _⟩ := hH.blk _ _ hcs _ _ hm
        rw [hm] at h1; cases h1; exact h2
      · obtain ⟨b', _, _, h1, h2, _⟩ := hf.blk _ _ (hfb _ _ hcs) _ _ hm
        rw [hm] at h1; cases h1; exact h2
    obtain ⟨r1, r2⟩ := call_ok0 K hrec hg hH0 hvs (fun j hj => by
      have hm : args.getD j gdead ∈ args := by
        have : args.getD j gdead = args[j] := by simp [List.getD_eq_getElem?_getD, hj]
        rw [this]; exact List.getElem_mem hj
      rw [hl0]
      exact okArg_rel (hrel j hj) (borBox_ok hq _ hm) (fun b hb => ⟨hf.slt b hb, fun nm e hm => (hbox nm b e hm).2 hb⟩) (fun nm b e hm => by rw [if_pos ⟨e, rfl⟩]; exact hm))
    have hp : 0 < H.length := by
      unfold gcall0 at hg
      split at hg
      · cases hg
      · split at hg
        · cases hg
        · split at hg
          · cases hg
          · rename_i hc
            simp only [Bool.or_eq_true, decide_eq_true_eq, not_or] at hc
            omega
    refine ⟨r1, CallsIn.mono r2 fun e w' hd => ?_⟩
    obtain ⟨u, S', μ', d1, d2, d3, d4, d5⟩ := hd
    rw [hl0] at d4
    have k1 := hres w' S' μ' d3 d4
    rw [show H0'.length - 1 = Hm.length - 1 by omega] at d2
    obtain ⟨μ2, z1, z2, z3, z4, z5⟩ := lentEnd_ok (n0 := w.heap.size) d3 k1 (by omega) hH.slt hH.lt (fun nm t b hn hb => by
      rcases Nat.lt_or_ge b w.heap.size with hlt | hge
      · exfalso
        obtain ⟨nm', t', h'⟩ := d4.own nm t b hb hlt
        have h'' : (if q = some nm' ∧ t' = 0 then μ nm' t' else none) = some b := h'
        split at h''
        · rename_i hc
          obtain ⟨⟨cs, hcs⟩, hne⟩ := hbx nm' hc.1
          have hb' := d4.mu nm' t' b (by have := Heap.get_lt hcs; omega) h'
          have := d3.disj _ _ _ _ _ hb hb'
          subst this
          exact hne hn
        · cases h''
      · exact hge) d2 hend
    refine ⟨u, S, μ2, d1, by rw [show H'.length - 1 = Hm.length - 1 by omega]; exact z1, z2, ?_, by omega⟩
    exact ⟨d4.os, d4.tape, d4.out, d4.size, fun _ h => h, fun b hb ho => d4.same b hb (.inl ⟨hb, fun nm e hm => by
      rcases ho with ho | ho
      · exact (hbox nm b e hm).1 ho
      · exact ho _ _ hm⟩), d4.shp, d4.lp, fun nm t b _ h => z3 nm t b h, fun nm t b h hlt => ⟨nm, t, z4 nm t b h hlt⟩, fun _ h _ => .inl h⟩
  unfold gborrow at h
  split at h
  · cases h
  · rename_i hq
    split at h
    · rename_i v0 H0' hg
      refine main none (emptyH H) H0' H v0 hq (emptyH_length H) ⟨fun nm x hx t b hb => ?_, fun nm t b hb => ?_, fun nm nm' t t' b h1 h2 => ?_, fun nm t b hb => ?_, fun b hb => hb.1⟩ (fun nm e => by cases e) hg h rfl fun w' S' μ' h3 h4 => ?_
      · simp at hb
      · simp at hb
      · simp at h1
      · simp at hb
      · have hsame : ∀ b, b < w.heap.size → w'.heap[b]? = w.heap[b]? := fun b hb => h4.same b hb (.inl ⟨hb, fun nm e => by cases e⟩)
        exact ⟨fun nm x hx t b hb => (hH.blk nm x hx t b hb).mono (fun _ h => h) (fun b hb => hsame b (hH.slt b hb)) h4.shp (fun _ _ _ _ h => h) (fun _ => rfl) (fun t b hm => hsame b (hH.lt _ _ _ hm)) (fun _ _ _ h => h),
          hH.bnd, hH.disj, fun nm t b h => Nat.lt_of_lt_of_le (hH.lt nm t b h) h4.size, fun b h => Nat.lt_of_lt_of_le (hH.slt b h) h4.size⟩
    · cases h
  · rename_i nm hq
    split at h
    · rename_i cs hbx
      have hlt : nm.1 < H.length := Heap.get_lt hbx
      split at h
      · cases h
      · rename_i hcs
        have hcs : flatGL cs = true := by simpa using hcs
        split at h
        · rename_i v0 H0' hg
          split at h
          · rename_i cs' hbx'
            split at h
            · rename_i hfl
              have hset : ((emptyH H).set nm (.box cs)).get nm = some (.box cs) := Heap.get_set _ (by rw [emptyH_length]; exact hlt)
              have hm0 : ∀ n t b, (if (some nm : Option Nm) = some n ∧ t = 0 then μ n t else none) = some b → n = nm ∧ t = 0 ∧ μ nm 0 = some b := fun n t b hb => by
                split at hb
                · rename_i hc
                  obtain ⟨c1, c2⟩ := hc
                  cases c1; subst c2
                  exact ⟨rfl, rfl, hb⟩
                · cases hb
              refine main (some nm) _ H0' _ v0 hq (by rw [Heap.length_set, emptyH_length]) ⟨fun n x hx t b hb => ?_, fun n t b hb => ?_, fun n n' t t' b h1 h2 => ?_, fun n t b hb => ?_, fun b hb => hb.1⟩ (fun n e => by cases e; exact ⟨⟨cs, hbx⟩, by rw [Heap.get_set _ hlt]; simp⟩) hg h (by rw [Heap.length_set]) fun w' S' μ' h3 h4 => ?_
              · obtain ⟨rfl, rfl, hb2⟩ := hm0 n t b hb
                rw [hset] at hx; cases hx
                obtain ⟨b', c1, e1, g1, g2, g3, g4⟩ := hH.blk _ _ hbx _ _ hb2
                refine ⟨b', c1, e1, by show (if (some n : Option Nm) = some n ∧ (0 : Nat) = 0 then μ n 0 else none) = some b'; rw [if_pos ⟨rfl, rfl⟩]; exact g1, fun hs => hs.2 n rfl g1, g3, g4.flat hcs⟩
              · obtain ⟨rfl, rfl, hb2⟩ := hm0 n t b hb
                exact ⟨_, hset⟩
              · exact (hm0 _ _ _ h1).1.trans (hm0 _ _ _ h2).1.symm
              · obtain ⟨rfl, rfl, hb2⟩ := hm0 n t b hb
                exact hH.lt _ _ _ hb2
              · have hsame : ∀ b, b < w.heap.size → μ nm 0 ≠ some b → w'.heap[b]? = w.heap[b]? := fun b hb hn => h4.same b hb (.inl ⟨hb, fun n e => by cases e; exact hn⟩)
                have hSb : ∀ b, S b → μ nm 0 ≠ some b := fun b hb hm => by
                  obtain ⟨b', _, _, g1, g2, _⟩ := hH.blk _ _ hbx _ _ hm
                  rw [hm] at g1; cases g1; exact g2 hb
                have hw : ∀ b, S b → w'.heap[b]? = w.heap[b]? := fun b hb => hsame b (hH.slt b hb) (hSb b hb)
                refine ⟨fun n x hx t b hb => ?_, fun n t b hb => ?_, hH.disj, fun n t b h => Nat.lt_of_lt_of_le (hH.lt n t b h) h4.size, fun b h => Nat.lt_of_lt_of_le (hH.slt b h) h4.size⟩
                · by_cases e : n = nm
                  · subst e
                    rw [Heap.get_set _ hlt] at hx; cases hx
                    obtain ⟨b', c1, e1, g1, g2, g3, g4⟩ := hH.blk _ _ hbx _ _ hb
                    have hmu : μ' n 0 = some b' := h4.mu n 0 b' (by omega) (by show (if (some n : Option Nm) = some n ∧ (0 : Nat) = 0 then μ n 0 else none) = some b'; rw [if_pos ⟨rfl, rfl⟩]; exact g1)
                    obtain ⟨b2, c2, e2, k1, k2, k3, k4⟩ := h3.blk _ _ hbx' _ _ hmu
                    rw [hmu] at k1; cases k1
                    exact ⟨b', c2, e2, g1, g2, k3, k4.flat hfl⟩
                  · rw [Heap.get_set_other _ e] at hx
                    exact (hH.blk n x hx t b hb).mono (fun _ h => h) hw h4.shp (fun _ _ _ _ h => h) (fun _ => rfl) (fun t b hm => hsame b (hH.lt _ _ _ hm) fun h => e (hH.disj _ _ _ _ _ hm h)) (fun _ _ _ h => h)
                · obtain ⟨x, hx⟩ := hH.bnd n t b hb
                  by_cases e : n = nm
                  · subst e; exact ⟨_, Heap.get_set _ hlt⟩
                  · exact ⟨x, by rw [Heap.get_set_other _ e]; exact hx⟩
            · cases h
          · cases h
        · cases h
    · cases h
theorem emptyArg_inv {args : List GV} {vs : Array Value} {k : Nat} (h : emptyArg args = true) (hvs : vs.size = args.length) (hrel : ∀ j, j < args.length → VRel w S μ k (vs.getD j undef) (args.getD j gdead)) : ∃ a cap, vs = #[.slice a 0 cap] := by
  have one : ∀ g : GV, args = [g] → (∃ a cap, vs.getD 0 undef = .slice a 0 cap) → ∃ a cap, vs = #[.slice a 0 cap] := fun g e ⟨a, cap, h0⟩ => by
    subst e
    refine ⟨a, cap, ?_⟩
    have hs : vs.size = 1 := hvs
    apply Array.ext (by simp [hs])
    intro i h1 h2
    have : i = 0 := by simp at h2; omega
    subst this
    simpa [Array.getD_eq_getD_getElem?, hs] using h0
  unfold emptyArg at h
  split at h
  · refine one _ rfl ?_
    have := hrel 0 (by simp)
    simp only [List.getD_cons_zero] at this
    generalize vs.getD 0 undef = x at this ⊢
    cases this with
    | nils a => exact ⟨a, 0, rfl⟩
  · refine one _ rfl ?_
    have := hrel 0 (by simp)
    simp only [List.getD_cons_zero] at this
    obtain ⟨a, cap, e, _⟩ := this.pv.slice_inv
    exact ⟨a, cap, e⟩
  · cases h
theorem call_ok (K : Ctx) (hK : CtxOk K) {rec : Rec} (hrec : RecOk K.P rec) {f : FuncId} {args : List GV} {c : Nat} {H' : Heap} {v : GV} (h : gcall K rec f args c H = some (v, H')) {vs : Array Value} (hH : HRel w S μ H)
    (hvs : vs.size = args.length) (hrel : ∀ j, j < args.length → VRel w S μ (H.length - 1) (vs.getD j undef) (args.getD j gdead)) :
    (callFunc f vs).run K.P w = .ok (.enter f vs) w ∧ CallsIn (Fw none) 0 K.P f vs w (Done (H.length - 1) H.length w S μ v H') := by
  unfold gcall at h
  split at h
  · rename_i hc
    simp only [Bool.and_eq_true] at hc
    simp only [Option.some.injEq, Prod.mk.injEq] at h
    obtain ⟨rfl, rfl⟩ := h
    obtain ⟨a, cap, rfl⟩ := emptyArg_inv hc.2 hvs hrel
    obtain ⟨c1, c2⟩ := hK.cln f hc.1 w a cap
    refine ⟨c1, CallsIn.mono c2 fun e w' hd => ?_⟩
    obtain ⟨⟨a', rfl⟩, d1, d2, d3, d4, d5⟩ := hd
    have hsh : ∀ b x, w.shape? b = some x → w'.shape? b = some x := fun b x hx => by
      have hb : b < w.heap.size := by
        unfold World.shape? at hx
        rcases Nat.lt_or_ge b w.heap.size with h | h
        · exact h
        · rw [Array.getElem?_eq_none h] at hx; cases hx
      unfold World.shape? at hx ⊢
      rw [d5 b hb]; exact hx
    refine ⟨_, S, μ, rfl, .nils _, ?_, ⟨d1, d2, d3, d4, fun _ h => h, fun b hb _ => d5 b hb, hsh, fun b r hr => ⟨r, by rw [d5 b (Array.getElem?_eq_some_iff.1 hr).1]; exact hr⟩, fun _ _ _ _ h => h, fun nm t b h _ => ⟨nm, t, h⟩, fun _ h _ => .inl h⟩, rfl⟩
    exact ⟨fun nm x hx t b hb => (hH.blk nm x hx t b hb).mono (fun _ h => h) (fun b hb => d5 b (hH.slt b hb)) hsh (fun _ _ _ _ h => h) (fun _ => rfl) (fun t b hm => d5 b (hH.lt _ _ _ hm)) (fun _ _ _ h => h),
      hH.bnd, hH.disj, fun nm t b h => Nat.lt_of_lt_of_le (hH.lt nm t b h) d4, fun b h => Nat.lt_of_lt_of_le (hH.slt b h) d4⟩
  split at h
  · obtain ⟨S1, a1, a2, a3, a4, a5⟩ := frzVals_rel (H.length - 1) hH hrel
    refine borrow_ok K hrec h hH a1 a4.2.1 (by simpa using hvs.trans a5.symm) (fun j hj => ?_)
    have hj' : j < (frzVals H args).1.length := by simpa using hj
    have e : (((frzVals H args).1.map canon).getD j gdead) = canon ((frzVals H args).1.getD j gdead) := by simp [List.getD_eq_getElem?_getD, hj']
    rw [e]
    exact canon_rel (a3 j (by omega))
  split at h
  · obtain ⟨S1, a1, a2, a3, a4, a5⟩ := frzVals_rel (H.length - 1) hH hrel
    obtain ⟨b1, b2⟩ := call_ok0 K hrec h a1 (hvs.trans a5.symm) (fun j hj => by rw [a4.1]; exact a3 j (by omega))
    refine ⟨b1, CallsIn.mono b2 fun e w' hd => ?_⟩
    obtain ⟨u, S2, μ2, d1, d2, d3, d4, d5⟩ := hd
    rw [a4.1] at d4 d5
    exact ⟨u, S2, μ2, d1, d2, d3, a2.trans d4, d5⟩
  · exact call_ok0 K hrec h hH hvs hrel
end
end Go.Gh


/- Rounds. -/
namespace Go.Gh
set_option linter.unusedSimpArgs false
set_option linter.unusedVariables false
section
variable {w w' : World} {S S' : Nat → Prop} {μ μ' : Mu} {H : Heap} {P : Program} {ℓ base : Nat} {r : Option Nat}
/-- A loop's record turned. -/
theorem HRel.loopTurn (hH : HRel w S μ H) {nm : Nm} {l : GLoop} {b : Nat} {q : Loop} {x : LoopState} {p : Option GX} (hg : H.get nm = some (.loop l)) (hm : μ nm 0 = some b) (hb : w.heap[b]? = some (.loop q)) (hp : p ≠ some .normal) :
    HRel (w.putObj b (.loop { q with state := x, pending := p.map jumpOf })) S μ (H.set nm (.loop { l with state := x, pending := p })) ∧
      Ev ℓ w S μ (w.putObj b (.loop { q with state := x, pending := p.map jumpOf })) S μ := by
  obtain ⟨b', q', h1, h2, h3, q1, q2, q3, q5, q6, q7, q8, q9⟩ := hH.blk _ _ hg _ _ hm
  rw [hm] at h1; simp only [Option.some.injEq] at h1; subst h1
  rw [hb] at h3; simp only [Option.some.injEq, Obj.loop.injEq] at h3; subst h3
  have hlt : b < w.heap.size := (Array.getElem?_eq_some_iff.1 hb).1
  have hne : ∀ b', S b' → b' ≠ b := fun b' h e => h2 (e ▸ h)
  have hoth : ∀ b' : Nat, b' ≠ b → (w.putObj b (.loop { q with state := x, pending := p.map jumpOf })).heap[b']? = w.heap[b']? := fun b' e => World.putObj_heap_other e
  have hsh : ∀ b' y, w.shape? b' = some y → (w.putObj b (.loop { q with state := x, pending := p.map jumpOf })).shape? b' = some y := fun b' y h => by
    unfold World.shape? at h ⊢
    by_cases e : b' = b
    · subst e; rw [hb] at h; simp at h
    · rw [hoth b' e]; exact h
  refine hH.turn ℓ (Heap.get_lt hg) rfl rfl rfl (by rw [World.putObj_size]; exact Nat.le_refl _) (fun _ h => h) (fun b h => .inl h) (fun b' h => by rw [World.putObj_size]; exact hH.slt b' h) (fun k hk ho => ?_) hsh (fun b' r h => ?_)
    (fun n t _ => rfl) (fun t b h => h) (fun t b h => .inl ⟨t, h⟩) (fun t b' h => by rw [World.putObj_size]; exact hH.lt _ _ _ h)
    ⟨b, _, hm, h2, World.putObj_heap_same hlt, rfl, rfl, hp, q5, q6, q7, q8, fun t => (q9 t).mono (fun _ h => h) (fun b' h => hoth b' (hne b' h)) hsh (fun _ _ _ _ h => h) (Nat.le_refl _)⟩
  · refine hoth k fun e => ?_
    subst e
    rcases ho with ho | ho
    · exact h2 ho
    · exact ho 0 hm
  · by_cases e : b' = b
    · subst e; exact ⟨_, World.putObj_heap_same hlt⟩
    · exact ⟨r, by rw [hoth b' e]; exact h⟩
theorem fold_size (l : List (Tmp × Value)) : ∀ (tmps : Array Value), (l.foldl (fun tmps x => tmps.setIfInBounds x.1 x.2) tmps).size = tmps.size := by
  induction l with
  | nil => intro tmps; rfl
  | cons x l ih => intro tmps; rw [List.foldl_cons, ih]; simp
theorem params_ok {k nt : Nat} : ∀ (ts : List Tmp) (gs : List GV) (vs : List Value) (s s' : Slots) (tmps : Array Value), (∀ t, VRel w S μ k (tmps.getD t undef) (look s t)) → tmps.size = nt →
    vs.length = gs.length → (∀ j, j < gs.length → VRel w S μ k (vs.getD j undef) (gs.getD j gdead)) → putParams s nt ts gs = some s' →
    ts.length = gs.length ∧ ∀ t, VRel w S μ k (((ts.zip vs).foldl (fun tmps x => tmps.setIfInBounds x.1 x.2) tmps).getD t undef) (look s' t)
  | [], [], vs, s, s', tmps, hs, hn, hl, hv, h => by
    simp only [putParams, Option.some.injEq] at h; subst h
    exact ⟨rfl, by simpa using hs⟩
  | t0 :: ts, g :: gs, [], s, s', tmps, hs, hn, hl, hv, h => by simp at hl
  | t0 :: ts, g :: gs, v :: vs, s, s', tmps, hs, hn, hl, hv, h => by
    simp only [putParams] at h
    split at h
    · rename_i hlt
      obtain ⟨a, b⟩ := params_ok ts gs vs _ s' (tmps.setIfInBounds t0 v) (fun t => by
        rw [look_cons]
        have := put_getD ⟨tmps, []⟩ t0 v t (by rw [show (Act.mk tmps []).tmps.size = tmps.size from rfl, hn]; exact hlt)
        simp only [Act.put] at this
        rw [this]
        split
        · simpa using hv 0 (by simp)
        · exact hs t) (by simp [hn]) (by simpa using hl) (fun j hj => by simpa using hv (j + 1) (by simpa using hj)) h
      exact ⟨by simp [a], b⟩
    · cases h
  | [], g :: gs, vs, s, s', tmps, hs, hn, hl, hv, h => by simp [putParams] at h
  | t0 :: ts, [], vs, s, s', tmps, hs, hn, hl, hv, h => by simp [putParams] at h
theorem set_cons {fr : Fr} {nm : Nm} {x : Blk} (h : nm.1 ≠ H.length) : Heap.set (fr :: H) nm x = fr :: Heap.set H nm x := by
  show (if nm.1 = H.length then _ else _) = _
  rw [if_neg h]
/-- A call of a loop's yield. -/
theorem round_ok {rec : Rec} (hrec : RecOk P rec) {nm : Nm} {args : List GV} {H' : Heap} {v : GV} (h : ground rec nm args H = some (v, H')) {vs : Array Value} (hH : HRel w S μ H) {k b : Nat} (hk : k = H.length - 1) (hp : 0 < H.length)
    (hm : μ nm 0 = some b) (hvs : vs.size = args.length) (hrel : ∀ j, j < args.length → VRel w S μ k (vs.getD j undef) (args.getD j gdead)) :
    ∃ q : Loop, w.heap[b]? = some (.loop q) ∧ vs.size = q.params.size ∧
      RoundIn (Fw r) 0 P b q.fn ((q.params.zip vs).foldl (fun tmps (t, a) => tmps.setIfInBounds t a) q.tmps) q.assign q.body w (Done (H.length - 1) H.length w S μ v H') := by
  subst hk
  unfold ground at h
  split at h
  · rename_i l hg
    have hnl : nm.1 < H.length := Heap.get_lt hg
    obtain ⟨b', q, h1, h2, h3, q1, q2, q3, q5, q6, q7, q8, q9⟩ := hH.blk _ _ hg _ _ hm
    rw [hm] at h1; simp only [Option.some.injEq] at h1; subst h1
    refine ⟨q, h3, ?_⟩
    split at h
    · rename_i hready
      split at h
      · rename_i s hpar
        have hargs : ∀ j, j < (args.map canon).length → VRel w S μ H.length (vs.toList.getD j undef) ((args.map canon).getD j gdead) := fun j hj => by
          have hj' : j < args.length := by simpa using hj
          have e : (args.map canon).getD j gdead = canon (args.getD j gdead) := by simp [List.getD_eq_getElem?_getD, hj']
          rw [e, ← agetD]
          exact canon_rel ((hrel j hj').up (by omega))
        obtain ⟨p1, p2⟩ := params_ok l.params _ vs.toList l.slots s q.tmps (fun t => (q9 t).up (by omega)) q8 (by simpa using hvs) hargs hpar
        have hps : vs.size = q.params.size := by rw [q5]; simp at p1; simp [hvs, p1]
        refine ⟨hps, ?_⟩
        have hfold : ((q.params.zip vs).foldl (fun tmps (t, a) => tmps.setIfInBounds t a) q.tmps) = (l.params.zip vs.toList).foldl (fun tmps x => tmps.setIfInBounds x.1 x.2) q.tmps := by
          rw [← Array.foldl_toList, Array.toList_zip, q5]
        rw [hfold]
        have hst : StOk w.heap.size (some b) w S μ ⟨s, [] :: H, l.nt⟩ { tmps := (l.params.zip vs.toList).foldl (fun tmps x => tmps.setIfInBounds x.1 x.2) q.tmps, defers := [] } :=
          ⟨hH.push, p2, by rw [← q8]; exact fold_size _ _, by simp, Nat.le_refl _, ⟨fun d hd => by simp at hd, .nil⟩, fun l hl => by cases hl; exact ⟨q, h3⟩⟩
        split at h
        · rename_i st hra
          have hwa := hrec _ _ _ _ _ hra _ _ w S μ _ hst
          split at h
          · rename_i fr H1 hh1
            split at h
            · rename_i l1 hg1
              split at h
              · cases h
              rename_i hready1
              have hready1 : l1.state = .ready := Classical.not_not.1 hready1
              split at h
              · rename_i e st' hrb
                split at h
                · rename_i fr2 H2 hh2
                  split at h
                  · rename_i l2 hg2
                    refine roundIn_of_wpIn trivial ?_
                    rw [q6]
                    refine wpIn_mono hwa fun e' a1 w1 hq => ?_
                    obtain ⟨e1, e2, e3, S1, μ1, e4, e5⟩ := hq
                    simp only [exitOf] at e1; subst e1
                    simp only [List.length_cons, Nat.add_sub_cancel] at e2 e5
                    simp only [Exit.then]
                    have hlen1 : H1.length = H.length := by rw [hh1] at e2; simpa using e2
                    have hm1 : μ1 nm 0 = some b := e5.mu nm 0 b (by omega) hm
                    have hH1 : HRel w1 S1 μ1 (fr :: H1) := hh1 ▸ e4.heap
                    have hg1' : Heap.get (fr :: H1) nm = some (.loop l1) := by rw [get_cons, if_neg (by omega)]; exact hg1
                    obtain ⟨b1, r1, k1, k2, k3, s1, s2, s3, s5, s6, s7, s8, s9⟩ := hH1.blk _ _ hg1' _ _ hm1
                    rw [hm1] at k1; simp only [Option.some.injEq] at k1; subst k1
                    refine ⟨_, run_beginRound k3 (s1.trans hready1), ?_⟩
                    obtain ⟨t1, t2⟩ := HRel.loopTurn (ℓ := H.length) hH1 (x := .busy) (p := l1.pending) hg1' hm1 k3 s3
                    have hpend : ({ r1 with state := .busy, pending := l1.pending.map jumpOf } : Loop) = { r1 with state := .busy } := by rw [← s2]
                    rw [hpend] at t1 t2
                    rw [set_cons (by omega)] at t1
                    have hst2 : StOk w.heap.size (some b) (w1.putObj b (.loop { r1 with state := .busy })) S1 μ1 ⟨st.s, fr :: Heap.set H1 nm (.loop { l1 with state := .busy }), l.nt⟩ a1 := by
                      refine ⟨t1, fun t => ?_, ?_, by simp, Nat.le_trans e4.low t2.size, e4.defs.ev t2, round_ev e4.round t2⟩
                      · have := slots_ev (k' := H.length) e4.slots hH1 t2 (by rw [hh1]; simp [hlen1]) (by rw [hh1]; simp [hlen1]) t
                        simpa [Heap.length_set, hlen1] using this
                      · rw [e4.nt]; exact e3
                    have hwb := hrec _ _ _ _ _ hrb _ _ _ S1 μ1 _ hst2
                    rw [q7]
                    refine wpIn_mono hwb fun e' a2 w2 hq => ?_
                    obtain ⟨f1, f2, f3, S2, μ2, f4, f5⟩ := hq
                    simp only [List.length_cons, Nat.add_sub_cancel, Heap.length_set] at f2 f5
                    rw [hlen1] at f2 f5
                    have hlen2 : H2.length = H.length := by rw [hh2] at f2; simpa using f2
                    have hm2 : μ2 nm 0 = some b := f5.mu nm 0 b (by omega) hm1
                    have hH2 : HRel w2 S2 μ2 (fr2 :: H2) := hh2 ▸ f4.heap
                    have hg2' : Heap.get (fr2 :: H2) nm = some (.loop l2) := by rw [get_cons, if_neg (by omega)]; exact hg2
                    obtain ⟨b2, r2, m1, m2, m3, n1, n2, n3, n5, n6, n7, n8, n9⟩ := hH2.blk _ _ hg2' _ _ hm2
                    rw [hm2] at m1; simp only [Option.some.injEq] at m1; subst m1
                    have fin : ∀ (x : LoopState) (p : Option GX) (bo : Bool), p ≠ some .normal → v = .pure (.bool bo) → H' = Heap.set H2 nm (.loop { l2 with state := x, pending := p }) →
                        Done (H.length - 1) H.length w S μ v H' (.returned (.bool bo)) (w2.putObj b (.loop { r2 with state := x, pending := p.map jumpOf })) := by
                      intro x p bo hpn hv hH'
                      subst hv; subst hH'
                      obtain ⟨u1, u2⟩ := HRel.loopTurn (ℓ := H.length) hH2 (x := x) (p := p) hg2' hm2 m3 hpn
                      rw [set_cons (by omega)] at u1
                      have d1 := drop_heap u1
                      have d2 := drop_ev (ℓ := H.length - 1) (L := (Heap.set H2 nm (.loop { l2 with state := x, pending := p })).length) u1 (by rw [Heap.length_set]; omega)
                      exact ⟨.bool bo, _, _, rfl, .pure _ _ (.bool bo), d1, ((((e5.trans (t2.level (by omega))).trans f5).trans (u2.level (by omega))).level (by omega)).trans d2, by rw [Heap.length_set]; exact hlen2⟩
                    cases e with
                    | normal =>
                      simp only [exitOf] at f1; subst f1
                      simp only [Option.some.injEq, Prod.mk.injEq] at h
                      exact ⟨_, _, run_endRound none m3, fin .ready none true (by simp) h.1.symm h.2.symm⟩
                    | ret =>
                      simp only [exitOf] at f1; subst f1
                      simp only [Option.some.injEq, Prod.mk.injEq] at h
                      exact ⟨_, _, run_endRound (some .ret) m3, fin .done (some .ret) false (by simp) h.1.symm h.2.symm⟩
                    | exit id =>
                      simp only [exitOf] at f1; subst f1
                      simp only [Option.some.injEq, Prod.mk.injEq] at h
                      exact ⟨_, _, run_endRound (some (.exit id)) m3, fin .done (some (.exit id)) false (by simp) h.1.symm h.2.symm⟩
                  · cases h
                · cases h
              · cases h
            · cases h
          · cases h
        · cases h
      · cases h
    · cases h
  · cases h
end
end Go.Gh


/- Blocks that are let go; results whose blocks go to a scope around. -/
namespace Go.Gh
set_option linter.unusedSimpArgs false
set_option linter.unusedVariables false
section
variable {w w' : World} {S S' : Nat → Prop} {μ μ' : Mu} {H : Heap} {P : Program} {ℓ base : Nat} {r : Option Nat}
theorem Fr.get_del (q p : Nat) : ∀ f : Fr, (f.del q).get p = if p = q then none else f.get p
  | [] => by simp [Fr.del, Fr.get]
  | (k, b) :: r => by
    unfold Fr.del
    split
    · rename_i h
      rw [Fr.get_del q p r]
      by_cases e : p = q
      · simp [e]
      · have e2 : ¬ p = k := fun x => e (x.trans h.symm)
        simp [e, e2, Fr.get]
    · rename_i h
      simp only [Fr.get, Fr.get_del q p r]
      by_cases e : p = k
      · have e2 : ¬ p = q := fun x => h (x.symm.trans e)
        simp [e, e2]
        intro x; exact absurd x.symm h
      · simp [e]
theorem get_delAll (p : Nat) : ∀ (l : List Nat) (f : Fr), (delAll l f).get p = if p ∈ l then none else f.get p
  | [], f => by simp [delAll]
  | q :: r, f => by
    rw [delAll, get_delAll p r]
    by_cases h : p ∈ r
    · simp [h]
    · simp only [h, if_false, Fr.get_del, List.mem_cons, or_false]
theorem noRefL_get {nm : Nm} : ∀ {l : List GV}, noRefL nm l = true → ∀ j, noRef nm (l.getD j gdead) = true
  | [], _, j => by simp [gdead, noRef]
  | g :: r, h, j => by
    simp only [noRefL, Bool.and_eq_true] at h
    cases j with
    | zero => simpa using h.1
    | succ j => simpa using noRefL_get h.2 j
theorem noRefLL_get {nm : Nm} : ∀ {l : List (List GV)}, noRefLL nm l = true → ∀ i j, noRef nm ((l.getD i []).getD j gdead) = true
  | [], _, i, j => by simp [gdead, noRef]
  | g :: r, h, i, j => by
    simp only [noRefLL, Bool.and_eq_true] at h
    cases i with
    | zero => simpa using noRefL_get h.1 j
    | succ i => simpa using noRefLL_get h.2 i j
theorem VRel.forget {ks : List Nm} {v : Value} {g : GV} (hm : ∀ n t b, n.1 ≤ ℓ → n ∉ ks → μ n t = some b → μ' n t = some b) (h : VRel w S μ ℓ v g) (hn : ∀ k ∈ ks, noRef k g = true) : VRel w S μ' ℓ v g := by
  induction h with
  | pure v p h => exact .pure v p h
  | pptr b o cs f hb hf h1 hr => exact .pptr b o cs f hb hf h1 hr
  | lptr b o cs f hb hf h1 _ ih => exact .lptr b o cs f hb hf h1 fun j hj => ih j hj fun k hk => noRefL_get (by simpa only [noRef] using hn k hk) j
  | nils a => exact .nils a
  | lits b o cap es l f hb he hes hf h1 _ ih => exact .lits b o cap es l f hb he hes hf h1 fun i j hi hj => ih i j hi hj fun k hk => noRefLL_get (by simpa only [noRef] using hn k hk) i j
  | bptr nm off b h1 h2 => exact .bptr nm off b h1 (hm _ _ _ h1 (fun hk => by have := hn nm hk; simp [noRef] at this) h2)
  | eptr nm es top i off b h1 h2 => exact .eptr nm es top i off b h1 (hm _ _ _ h1 (fun hk => by have := hn nm hk; simp [noRef] at this) h2)
  | hdr nm es top lo len cap b n e h1 h2 hc ht hs hn' => exact .hdr nm es top lo len cap b n e h1 (hm _ _ _ h1 (fun hk => by have := hn nm hk; simp [noRef] at this) h2) hc ht hs hn'
  | agg vs l h h1 _ ih => exact .agg vs l h h1 fun j hj => ih j hj fun k hk => noRefL_get (by simpa only [noRef] using hn k hk) j
  | tuple vs l h _ ih => exact .tuple vs l h fun j hj => ih j hj fun k hk => noRefL_get (by simpa only [noRef] using hn k hk) j
  | func f a c la lc h1 h2 _ _ ih1 ih2 =>
    have h3 : ∀ k ∈ ks, noRefL k la = true ∧ noRefL k lc = true := fun k hk => by simpa only [noRef, Bool.and_eq_true] using hn k hk
    exact .func f a c la lc h1 h2 (fun j hj => ih1 j hj fun k hk => noRefL_get (h3 k hk).1 j) (fun j hj => ih2 j hj fun k hk => noRefL_get (h3 k hk).2 j)
  | yield nm b h1 h2 => exact .yield nm b h1 (hm _ _ _ h1 (fun hk => by have := hn nm hk; simp [noRef] at this) h2)
  | map nm b h1 h2 => exact .map nm b h1 (hm _ _ _ h1 (fun hk => by have := hn nm hk; simp [noRef] at this) h2)
  | rhdr nm es i len cap b h1 h2 h3 => exact .rhdr nm es i len cap b h1 (hm _ _ _ h1 (fun hk => by have := hn nm hk; simp [noRef] at this) h2) h3
  | rptr nm es i j off b h1 h2 => exact .rptr nm es i j off b h1 (hm _ _ _ h1 (fun hk => by have := hn nm hk; simp [noRef] at this) h2)
theorem CRel.forget {ks : List Nm} {vs : List Value} {gs : List GV} (hm : ∀ n t b, n.1 ≤ ℓ → n ∉ ks → μ n t = some b → μ' n t = some b) (h : CRel w S μ ℓ vs gs) (hn : ∀ k ∈ ks, noRefL k gs = true) : CRel w S μ' ℓ vs gs := by
  induction h with
  | nil => exact .nil
  | cons h1 h _ ih =>
    have h3 : ∀ k ∈ ks, _ := fun k hk => by simpa only [noRefL, Bool.and_eq_true] using hn k hk
    exact .cons h1 (h.forget hm fun k hk => (h3 k hk).1) (ih fun k hk => (h3 k hk).2)
theorem noRefE_get {nm : Nm} : ∀ {l : List (PV × GV)}, noRefE nm l = true → ∀ j (h : j < l.length), noRef nm l[j].2 = true
  | [], _, j, h => by simp at h
  | e :: r, hn, j, h => by
    simp only [noRefE, Bool.and_eq_true] at hn
    cases j with
    | zero => simpa using hn.1
    | succ j => simpa using noRefE_get hn.2 j (by simpa using h)
theorem BlkRel.forget {ks : List Nm} {nm : Nm} {x : Blk} (hm : ∀ n t b, n.1 ≤ nm.1 → n ∉ ks → μ n t = some b → μ' n t = some b) (ho : ∀ t, μ' nm t = μ nm t) (hn : ∀ k ∈ ks, noRefB k x = true) (h : BlkRel w S μ nm x)
    (hne : ks ≠ []) : BlkRel w S μ' nm x := by
  cases x with
  | box cs =>
    obtain ⟨b, c, e, h1, h2, h3, h4⟩ := h
    exact ⟨b, c, e, by rw [ho]; exact h1, h2, h3, h4.forget hm hn⟩
  | arr es elems vf ro =>
    obtain ⟨h0, h1, h2, ⟨b0, h3⟩, h4⟩ := h
    exact ⟨h0, h1, h2, ⟨b0, by rw [ho]; exact h3⟩, fun top b hb' => h4 top b (by rw [ho] at hb'; exact hb')⟩
  | map es =>
    obtain ⟨b, ms, clock, h1, h2, h3, h4, h5⟩ := h
    refine ⟨b, ms, clock, by rw [ho]; exact h1, h2, h3, h4, fun j hj => ?_⟩
    obtain ⟨m, m1, m2, m3⟩ := h5 j hj
    exact ⟨m, m1, m2, m3.forget hm fun k hk => noRefE_get (hn k hk) j hj⟩
  | loop l =>
    obtain ⟨k, hk⟩ := List.exists_mem_of_ne_nil _ hne
    have := hn k hk
    simp [noRefB] at this
  | mat es rows n => exact MatRel.mono (fun _ h => h) (fun _ _ => rfl) ho (fun _ _ _ => rfl) (fun _ _ _ h => h) h
theorem noRefF_get {nm : Nm} {k : Nat} {x : Blk} : ∀ {f : Fr}, noRefF nm f = true → f.get k = some x → noRefB nm x = true
  | [], _, h => by simp [Fr.get] at h
  | (q, b) :: r, hn, h => by
    simp only [noRefF, Bool.and_eq_true] at hn
    simp only [Fr.get] at h
    split at h
    · cases h; exact hn.1
    · exact noRefF_get hn.2 h
theorem noRefS_look {nm : Nm} (t : Nat) : ∀ {s : Slots}, noRefS nm s = true → noRef nm (look s t) = true
  | [], _ => by simp [look, gdead, noRef]
  | (q, v) :: r, hn => by
    simp only [noRefS, Bool.and_eq_true] at hn
    rw [look_cons]
    split
    · exact hn.1
    · exact noRefS_look t hn.2
theorem deadKeys_spec {L : Nat} {s : Slots} {fr : Fr} : ∀ (f : Fr) (k : Nat), k ∈ deadKeys L s fr f → noRefS (L, k) s = true ∧ noRefF (L, k) fr = true
  | [], k, h => by simp [deadKeys] at h
  | x :: r, k, h => by
    simp only [deadKeys] at h
    split at h
    · rename_i hc
      simp only [Bool.and_eq_true] at hc
      rcases List.mem_cons.1 h with rfl | h
      · exact ⟨hc.1.2, hc.2⟩
      · exact deadKeys_spec r k h
    · exact deadKeys_spec r k h
theorem gcol_ok {st st' : GSt} {a : Act} (h : StOk base r w S μ st a) (hs : gcol st = some st') :
    st'.h.length = st.h.length ∧ st'.nt = st.nt ∧ ∃ μ', StOk base r w S μ' st' a ∧ Ev (st'.h.length - 2) w S μ w S μ' := by
  unfold gcol at hs
  split at hs
  · rename_i fr H hh
    split at hs
    · cases hs
    · rename_i h0
      simp only [Option.some.injEq] at hs; subst hs
      generalize hd : deadKeys H.length st.s fr fr = dead
      have hH : HRel w S μ (fr :: H) := hh ▸ h.heap
      have hsp : ∀ k ∈ dead, noRefS (H.length, k) st.s = true ∧ noRefF (H.length, k) fr = true := fun k hk => deadKeys_spec fr k (by rw [hd]; exact hk)
      let gone : List Nm := dead.map fun k => (H.length, k)
      have hgone : ∀ n ∈ gone, n.1 = H.length ∧ n.2 ∈ dead := fun n hn => by
        obtain ⟨k, hk, e⟩ := List.mem_map.1 hn
        subst e; exact ⟨rfl, hk⟩
      have hgone' : ∀ n : Nm, n.1 = H.length → n.2 ∈ dead → n ∈ gone := fun n h1 h2 => List.mem_map.2 ⟨n.2, h2, Prod.ext h1.symm rfl⟩
      let μ1 : Mu := fun n t => if n ∈ gone then none else μ n t
      have a1 : ∀ n t b, μ1 n t = some b → n ∉ gone ∧ μ n t = some b := fun n t b hn => by
        simp only [μ1] at hn
        split at hn
        · cases hn
        · exact ⟨by assumption, hn⟩
      have b1 : ∀ n t, n ∉ gone → μ1 n t = μ n t := fun n t hn => by simp only [μ1]; rw [if_neg hn]
      have hgets : ∀ n : Nm, n ∉ gone → Heap.get (delAll dead fr :: H) n = Heap.get (fr :: H) n := fun n hn => by
        simp only [get_cons]
        split
        · rename_i hl
          rw [get_delAll, if_neg fun hm => hn (hgone' n hl hm)]
        · rfl
      have hE : Ev (H.length + 1 - 2) w S μ w S μ1 := ⟨rfl, rfl, rfl, Nat.le_refl _, fun _ h => h, fun _ _ _ => rfl, fun _ _ h => h, fun b r h => ⟨r, h⟩, fun n t b hl hm => by
          rw [b1 _ _ (fun h => by have := (hgone _ h).1; omega)]; exact hm, fun n t b hm _ => ⟨n, t, (a1 _ _ _ hm).2⟩, fun b hb _ => .inl hb⟩
      refine ⟨by simp [hh], rfl, μ1, ⟨⟨fun n x hx t b hb => ?_, fun n t b hb => ?_, fun n n' t t' b h1 h2 => hH.disj _ _ _ _ _ (a1 _ _ _ h1).2 (a1 _ _ _ h2).2, fun n t b hb => hH.lt _ _ _ (a1 _ _ _ hb).2, hH.slt⟩, fun t => ?_, h.nt, by simp, h.low, h.defs.ev hE, h.round⟩, by simpa using hE⟩
      · obtain ⟨c2, c3⟩ := a1 _ _ _ hb
        rw [hgets n c2] at hx
        have hx0 := hH.blk n x hx t b c3
        by_cases hne : gone = []
        · exact hx0.mono (fun _ h => h) (fun _ _ => rfl) (fun _ _ h => h) (fun n' t' b' hn hm => by rw [b1 _ _ (by rw [hne]; simp)]; exact hm) (fun t => b1 _ _ c2) (fun _ _ _ => rfl) (fun _ _ _ h => h)
        · by_cases hl : n.1 = H.length
          · refine hx0.forget (ks := gone) (fun n' t' b' hn hng hm => by rw [b1 _ _ hng]; exact hm) (fun t => b1 _ _ c2) (fun k hk => ?_) hne
            obtain ⟨k1, k2⟩ := hgone k hk
            rw [get_cons, if_pos hl] at hx
            have := (hsp k.2 k2).2
            rw [show ((H.length, k.2) : Nm) = k from Prod.ext k1.symm rfl] at this
            exact noRefF_get this hx
          · have hlt : n.1 < H.length := by
              rw [get_cons, if_neg hl] at hx
              exact Heap.get_lt hx
            refine hx0.mono (fun _ h => h) (fun _ _ => rfl) (fun _ _ h => h) (fun n' t' b' hn hm => ?_) (fun t => b1 _ _ c2) (fun _ _ _ => rfl) (fun _ _ _ h => h)
            rw [b1 _ _ (fun h => by have := (hgone _ h).1; omega)]; exact hm
      · obtain ⟨c2, c3⟩ := a1 _ _ _ hb
        obtain ⟨x, hx⟩ := hH.bnd n t b c3
        exact ⟨x, by show Heap.get (delAll dead fr :: H) n = some x; rw [hgets n c2]; exact hx⟩
      · have hv := h.slots t
        rw [hh] at hv
        refine hv.forget (ks := gone) (fun n t b _ hn hm => by rw [b1 _ _ hn]; exact hm) fun k hk => ?_
        obtain ⟨k1, k2⟩ := hgone k hk
        have := (hsp k.2 k2).1
        rw [show ((H.length, k.2) : Nm) = k from Prod.ext k1.symm rfl] at this
        exact noRefS_look t this
  · cases hs
theorem gnext_ok (K : Ctx) {fn : FuncId} {c : Code} {st st' : GSt} {a : Act} (h : StOk base r w S μ st a) (hs : gnext K fn c st = some st') :
    st'.h.length + 1 = st.h.length ∧ st'.nt = st.nt ∧ ∃ S' μ', StOk base r w S' μ' st' a ∧ Ev (st'.h.length - 2) w S μ w S' μ' := by
  unfold gnext at hs
  split at hs
  · split at hs
    · rename_i st1 h1
      obtain ⟨q1, q2, S', μ', q3, q4⟩ := gscope_ok h h1
      obtain ⟨p1, p2, μ2, p3, p4⟩ := gcol_ok q3 hs
      exact ⟨by omega, p2.trans q2, S', μ2, p3, (q4.level (by omega)).trans p4⟩
    · cases hs
  · obtain ⟨q1, q2, S', μ', q3, q4⟩ := gscope_ok h hs
    exact ⟨q1, q2, S', μ', q3, q4.level (by omega)⟩
theorem altKey_inj {j k k' : Nat} (h : altKey j k = altKey j k') : k = k' := by unfold altKey at h; omega
theorem altKey_sub (j k : Nat) : altKey j k - (j + 1) * 1000000000000 = k := by unfold altKey; omega
theorem altKey_le (j k : Nat) : (j + 1) * 1000000000000 ≤ altKey j k := by unfold altKey; omega
theorem allFree_get {H : Heap} {l j : Nat} : ∀ {ks : List Nat}, allFree H l j ks = true → ∀ k ∈ ks, H.get (l, altKey j k) = none
  | [], _, k, hk => by simp at hk
  | q :: r, h, k, hk => by
    simp only [allFree, Bool.and_eq_true] at h
    rcases List.mem_cons.1 hk with rfl | hk
    · simpa using h.1
    · exact allFree_get h.2 k hk
theorem allNew_get {H : Heap} {L : Nat} {f0 : Fr} : ∀ {ks : List Nat}, allNew H L f0 ks = true → ∀ k ∈ ks, H.get (L, k) = none ∧ noRefF (L, k) f0 = true
  | [], _, k, hk => by simp at hk
  | q :: r, h, k, hk => by
    simp only [allNew, Bool.and_eq_true] at h
    rcases List.mem_cons.1 hk with rfl | hk
    · exact ⟨by simpa using h.1.1, h.1.2⟩
    · exact allNew_get h.2 k hk
theorem insAll_spec {f0 : Fr} {l j : Nat} : ∀ (ks : List Nat) (H H' : Heap), ks.Nodup → l < H.length → insAll f0 l j ks H = some H' →
    H'.length = H.length ∧ (∀ k ∈ ks, ∃ es rows vf ro, f0.get k = some (.arr es rows vf ro) ∧ H'.get (l, altKey j k) = some (.arr es rows vf ro)) ∧ ∀ nm : Nm, (∀ k ∈ ks, nm ≠ (l, altKey j k)) → H'.get nm = H.get nm
  | [], H, H', _, _, h => by
    simp only [insAll, Option.some.injEq] at h; subst h
    exact ⟨rfl, fun k hk => by simp at hk, fun _ _ => rfl⟩
  | k :: ks, H, H', hn, hl, h => by
    obtain ⟨n1, n2⟩ := List.nodup_cons.1 hn
    simp only [insAll] at h
    split at h
    · rename_i es rows vf ro h1
      obtain ⟨q1, q2, q3⟩ := insAll_spec ks _ H' n2 (by rw [Heap.length_set]; exact hl) h
      have hne : ∀ k' ∈ ks, ((l, altKey j k) : Nm) ≠ (l, altKey j k') := fun k' hk' e => by
        have := altKey_inj (Prod.mk.inj e).2
        subst this; exact n1 hk'
      refine ⟨q1.trans (Heap.length_set _ _ _), fun k' hk' => ?_, fun nm hnm => ?_⟩
      · rcases List.mem_cons.1 hk' with rfl | hk'
        · refine ⟨es, rows, vf, ro, h1, ?_⟩
          rw [q3 _ hne]
          exact Heap.get_set _ hl
        · exact q2 k' hk'
      · rw [q3 nm fun k' hk' => hnm k' (List.mem_cons_of_mem _ hk')]
        exact Heap.get_set_other _ (hnm k (List.mem_cons_self ..))
    · cases h
theorem lift1_rel {k L l j : Nat} {names : List Nat} (hlk : l ≤ k) (h1 : ∀ q t b, q ∈ names → μ (L, q) t = some b → μ' (l, altKey j q) t = some b) (h2 : ∀ nm t b, nm.1 ≠ L → μ nm t = some b → μ' nm t = some b) {v : Value} {g g' : GV}
    (h : VRel w S μ k v g) (hl : lift1 L l j g = some g') (hr : ∀ q ∈ refs1 L g, q ∈ names) : VRel w S μ' k v g' := by
  cases h with
  | pure v p h => simp only [lift1, Option.some.injEq] at hl; subst hl; exact .pure _ _ h
  | nils a => simp only [lift1, Option.some.injEq] at hl; subst hl; exact .nils a
  | hdr nm es top lo len cap b n e q1 q2 q3 q4 q5 q6 =>
    simp only [lift1] at hl
    split at hl
    · rename_i e1
      simp only [Option.some.injEq] at hl; subst hl
      have e2 : nm = (L, nm.2) := Prod.ext e1 rfl
      refine .hdr _ es top lo len cap b n e hlk ?_ q3 q4 q5 q6
      rw [e2] at q2
      exact h1 _ _ _ (hr _ (by simp [refs1, e1])) q2
    · rename_i e1
      simp only [Option.some.injEq] at hl; subst hl
      exact .hdr nm es top lo len cap b n e q1 (h2 _ _ _ e1 q2) q3 q4 q5 q6
  | _ => simp [lift1] at hl
theorem liftL_get {L l j : Nat} : ∀ {gs gs' : List GV}, liftL L l j gs = some gs' → gs'.length = gs.length ∧ ∀ i, i < gs.length → lift1 L l j (gs.getD i gdead) = some (gs'.getD i gdead)
  | [], gs', h => by simp only [liftL, Option.some.injEq] at h; subst h; exact ⟨rfl, fun i hi => by simp at hi⟩
  | g :: r, gs', h => by
    simp only [liftL] at h
    split at h
    · rename_i g' r' h1 h2
      simp only [Option.some.injEq] at h; subst h
      obtain ⟨q1, q2⟩ := liftL_get h2
      refine ⟨by simp [q1], fun i hi => ?_⟩
      cases i with
      | zero => simpa using h1
      | succ i => simpa using q2 i (by simpa using hi)
    · cases h
theorem lift_ok {H0 H1 H' : Heap} {b v1 v : GV} {u : Value} (hH : HRel w S μ H0) (hv : VRel w' S' μ' (H1.length - 1) u v1) (h1 : HRel w' S' μ' H1) (he : Ev (H0.length - 1) w S μ w' S' μ') (hl1 : H1.length = H0.length) (h : glift H0 b (v1, H1) = some (v, H')) :
    ∃ μ2, VRel w' S' μ2 (H'.length - 1) u v ∧ HRel w' S' μ2 H' ∧ Ev (H0.length - 1) w S μ w' S' μ2 ∧ H'.length = H0.length := by
  unfold glift at h
  split at h
  · rename_i nm off f0 Hr hhd
    simp only at hhd
    subst hhd
    simp only at h
    generalize hks : dedup (refs Hr.length v1) = ks at h
    have hnd : ks.Nodup := hks ▸ nodup_dedup _
    generalize hj : (if allFree (f0 :: Hr) nm.1 0 ks then 0 else 1) = j at h
    split at h
    · rename_i hc
      simp only [Bool.and_eq_true, decide_eq_true_eq] at hc
      obtain ⟨⟨⟨c1, c2⟩, c3⟩, c4⟩ := hc
      split at h
      · rename_i v' H2 hlv hins
        simp only [Option.some.injEq, Prod.mk.injEq] at h
        obtain ⟨rfl, rfl⟩ := h
        generalize hl : nm.1 = l at *
        obtain ⟨q1, q2, q3⟩ := insAll_spec ks _ H2 hnd (by simp; omega) hins
        have hnew := fun k hk => (allNew_get c3 k hk)
        have hfree := fun k hk => allFree_get c4 k hk
        let isT : Nm → Prop := fun n => n.1 = l ∧ (j + 1) * 1000000000000 ≤ n.2 ∧ n.2 - (j + 1) * 1000000000000 ∈ ks
        let μ2 : Mu := fun n t => if n.1 = l ∧ (j + 1) * 1000000000000 ≤ n.2 ∧ n.2 - (j + 1) * 1000000000000 ∈ ks then μ' (Hr.length, n.2 - (j + 1) * 1000000000000) t else if n.1 = Hr.length ∧ n.2 ∈ ks then none else μ' n t
        have tgt : ∀ k t, k ∈ ks → μ2 (l, altKey j k) t = μ' (Hr.length, k) t := fun k t hk => by
          have hc : l = l ∧ (j + 1) * 1000000000000 ≤ altKey j k ∧ altKey j k - (j + 1) * 1000000000000 ∈ ks := ⟨rfl, altKey_le j k, by rw [altKey_sub]; exact hk⟩
          have e : μ2 (l, altKey j k) t = μ' (Hr.length, altKey j k - (j + 1) * 1000000000000) t := if_pos hc
          rw [e, altKey_sub]
        have tcase : ∀ n : Nm, (∃ k ∈ ks, n = (l, altKey j k)) ∨ ((∀ k ∈ ks, n ≠ (l, altKey j k)) ∧ ∀ t, μ2 n t = if n.1 = Hr.length ∧ n.2 ∈ ks then none else μ' n t) := fun n => by
          by_cases hc : n.1 = l ∧ (j + 1) * 1000000000000 ≤ n.2 ∧ n.2 - (j + 1) * 1000000000000 ∈ ks
          · refine .inl ⟨_, hc.2.2, Prod.ext hc.1 ?_⟩
            have := hc.2.1
            simp only [altKey]; omega
          · refine .inr ⟨fun k hk e => hc ?_, fun t => ?_⟩
            · subst e; exact ⟨rfl, altKey_le j k, by rw [altKey_sub]; exact hk⟩
            · simp only [μ2]; rw [if_neg hc]
        have hnt : ∀ n t b, μ' n t = some b → ∀ k ∈ ks, n ≠ (l, altKey j k) := fun n t b hb k hk e => by
          obtain ⟨x, hx⟩ := h1.bnd _ _ _ hb
          rw [e, hfree k hk] at hx; cases hx
        have up : ∀ n t b, ¬ (n.1 = Hr.length ∧ n.2 ∈ ks) → μ' n t = some b → μ2 n t = some b := fun n t b hn hb => by
          rcases tcase n with ⟨k, hk, e⟩ | ⟨_, e⟩
          · exact absurd e (hnt n t b hb k hk)
          · rw [e, if_neg hn]; exact hb
        have old : ∀ n t b, (∀ k ∈ ks, n ≠ (l, altKey j k)) → μ2 n t = some b → ¬ (n.1 = Hr.length ∧ n.2 ∈ ks) ∧ μ' n t = some b := fun n t b hn hb => by
          rcases tcase n with ⟨k, hk, e⟩ | ⟨_, e⟩
          · exact absurd e (hn k hk)
          · rw [e] at hb
            split at hb
            · cases hb
            · exact ⟨by assumption, hb⟩
        have hget : ∀ n : Nm, (∀ k ∈ ks, n ≠ (l, altKey j k)) → ¬ (n.1 = Hr.length ∧ n.2 ∈ ks) → H2.get n = Heap.get (f0 :: Hr) n := fun n hn hs => by
          rw [q3 n hn]
          simp only [get_cons]
          split
          · rename_i hl'
            rw [get_delAll, if_neg fun hm => hs ⟨hl', hm⟩]
          · rfl
        have hlen : H2.length = Hr.length + 1 := by simpa using q1
        have hL0 : H0.length = Hr.length + 1 := by simpa using hl1.symm
        refine ⟨μ2, ?_, ⟨fun n x hx t b hb => ?_, fun n t b hb => ?_, fun n n' t t' b g1 g2 => ?_, fun n t b hb => ?_, h1.slt⟩, ?_, by omega⟩
        · rw [show H2.length - 1 = Hr.length by omega]
          have hv' : VRel w' S' μ' Hr.length u v1 := by simpa using hv
          have k1 : ∀ q t b, q ∈ ks → μ' (Hr.length, q) t = some b → μ2 (l, altKey j q) t = some b := fun q t b hq hb => by rw [tgt q t hq]; exact hb
          have k2 : ∀ n t b, n.1 ≠ Hr.length → μ' n t = some b → μ2 n t = some b := fun n t b hn hb => up n t b (fun h => hn h.1) hb
          have hin : ∀ q ∈ refs Hr.length v1, q ∈ ks := fun q hq => by rw [← hks]; exact (mem_dedup _).2 hq
          cases v1 with
          | agg l1 =>
            simp only [liftV] at hlv
            split at hlv
            · rename_i cs hcs
              simp only [Option.some.injEq] at hlv; subst hlv
              obtain ⟨z1, z2⟩ := liftL_get hcs
              cases hv' with
              | agg vs _ g1 g2 g3 =>
                refine .agg vs cs (by omega) (fun i hi => g2 i (by omega)) fun i hi => ?_
                have hi' : i < l1.length := by omega
                refine lift1_rel (by omega) k1 k2 (g3 i hi') (z2 i hi') fun q hq => hin q ?_
                have e2 : l1.getD i gdead = l1[i] := by simp [List.getD_eq_getElem?_getD, hi']
                rw [e2] at hq
                exact List.mem_flatMap.2 ⟨l1[i], List.getElem_mem hi', hq⟩
            · cases hlv
          | tuple l1 => simp [liftV, lift1] at hlv
          | func f a c => simp [liftV, lift1] at hlv
          | _ => exact lift1_rel (by omega) k1 k2 hv' (by simpa only [liftV] using hlv) (by simpa only [refs, refs2] using hin)
        · rcases tcase n with ⟨k, hk, rfl⟩ | ⟨hn, _⟩
          · obtain ⟨es, rows, vf, ro, x1, x2⟩ := q2 k hk
            rw [x2] at hx; cases hx
            rw [tgt k t hk] at hb
            obtain ⟨z0, z1, z2, ⟨b0, z3⟩, z4⟩ := h1.blk (Hr.length, k) _ (by rw [get_cons, if_pos rfl]; exact x1) t b hb
            exact ⟨z0, z1, z2, ⟨b0, by rw [tgt k _ hk]; exact z3⟩, fun top b hb' => z4 top b (by rw [tgt k _ hk] at hb'; exact hb')⟩
          · obtain ⟨ns, hb'⟩ := old n t b hn hb
            rw [hget n hn ns] at hx
            have hx0 := h1.blk n x hx t b hb'
            have ho : ∀ t, μ2 n t = μ' n t := fun t => by
              rcases tcase n with ⟨k, hk, e⟩ | ⟨_, e⟩
              · exact absurd e (hn k hk)
              · rw [e, if_neg ns]
            let gone : List Nm := ks.map fun k => (Hr.length, k)
            have hgm : ∀ n : Nm, n ∉ gone → ¬ (n.1 = Hr.length ∧ n.2 ∈ ks) := fun n hn h => hn (List.mem_map.2 ⟨n.2, h.2, Prod.ext h.1.symm rfl⟩)
            by_cases hne : gone = []
            · exact hx0.mono (fun _ h => h) (fun _ _ => rfl) (fun _ _ h => h) (fun n' t' b' _ hm => up _ _ _ (hgm _ (by rw [hne]; simp)) hm) ho (fun _ _ _ => rfl) (fun _ _ _ h => h)
            · by_cases hl2 : n.1 = Hr.length
              · refine hx0.forget (ks := gone) (fun n' t' b' _ hng hm => up _ _ _ (hgm _ hng) hm) ho (fun k hk => ?_) hne
                obtain ⟨q, hq, rfl⟩ := List.mem_map.1 hk
                rw [get_cons, if_pos hl2] at hx
                exact noRefF_get (hnew q hq).2 hx
              · have hlt : n.1 < Hr.length := by
                  rw [get_cons, if_neg hl2] at hx
                  exact Heap.get_lt hx
                exact hx0.mono (fun _ h => h) (fun _ _ => rfl) (fun _ _ h => h) (fun n' t' b' hn' hm => up _ _ _ (fun h => by have := h.1; omega) hm) ho (fun _ _ _ => rfl) (fun _ _ _ h => h)
        · rcases tcase n with ⟨k, hk, rfl⟩ | ⟨hn, _⟩
          · obtain ⟨es, rows, vf, ro, x1, x2⟩ := q2 k hk
            exact ⟨_, x2⟩
          · obtain ⟨ns, hb'⟩ := old n t b hn hb
            obtain ⟨x, hx⟩ := h1.bnd _ _ _ hb'
            exact ⟨x, by rw [hget n hn ns]; exact hx⟩
        · rcases tcase n with ⟨k, hk, rfl⟩ | ⟨hn, _⟩
          · rw [tgt k t hk] at g1
            rcases tcase n' with ⟨k', hk', rfl⟩ | ⟨hn', _⟩
            · rw [tgt k' t' hk'] at g2
              have := (Prod.mk.inj (h1.disj _ _ _ _ _ g1 g2)).2
              rw [this]
            · obtain ⟨ns, g2'⟩ := old n' t' b hn' g2
              have := h1.disj _ _ _ _ _ g1 g2'
              exact absurd ⟨by rw [← this], by rw [← this]; exact hk⟩ ns
          · obtain ⟨ns, g1'⟩ := old n t b hn g1
            rcases tcase n' with ⟨k', hk', rfl⟩ | ⟨hn', _⟩
            · rw [tgt k' t' hk'] at g2
              have := h1.disj _ _ _ _ _ g1' g2
              exact absurd ⟨by rw [this], by rw [this]; exact hk'⟩ ns
            · obtain ⟨_, g2'⟩ := old n' t' b hn' g2
              exact h1.disj _ _ _ _ _ g1' g2'
        · rcases tcase n with ⟨k, hk, rfl⟩ | ⟨hn, _⟩
          · rw [tgt k t hk] at hb; exact h1.lt _ _ _ hb
          · exact h1.lt _ _ _ (old n t b hn hb).2
        · refine ⟨he.os, he.tape, he.out, he.size, he.sub, he.same, he.shp, he.lp, fun n t b hnl hb => ?_, fun n t b hb hlt => ?_, he.snew⟩
          · refine up n t b (fun hs => ?_) (he.mu n t b hnl hb)
            obtain ⟨x, hx⟩ := hH.bnd _ _ _ hb
            have := (hnew n.2 hs.2).1
            rw [show ((Hr.length, n.2) : Nm) = n from Prod.ext hs.1.symm rfl, hx] at this
            cases this
          · rcases tcase n with ⟨k, hk, rfl⟩ | ⟨hn, _⟩
            · rw [tgt k t hk] at hb
              exact he.own _ _ _ hb hlt
            · exact he.own _ _ _ (old n t b hn hb).2 hlt
      · cases h
    · cases h
  · cases h
/-- A name of the innermost scope to which no block leads is let go. -/
theorem drop_name {f0 : Fr} {Hr : Heap} {q : Nat} (h : HRel w S μ (f0 :: Hr)) (hn : noRefF (Hr.length, q) f0 = true) :
    HRel w S (fun n t => if n = (Hr.length, q) then none else μ n t) (delAll [q] f0 :: Hr) := by
  have hup : ∀ n t b, n ≠ (Hr.length, q) → μ n t = some b → (fun n t => if n = ((Hr.length, q) : Nm) then none else μ n t) n t = some b := fun n t b hne hb => by
    simp only [if_neg hne]; exact hb
  have hdn : ∀ n t b, (fun n t => if n = ((Hr.length, q) : Nm) then none else μ n t) n t = some b → n ≠ (Hr.length, q) ∧ μ n t = some b := fun n t b hb => by
    by_cases e : n = (Hr.length, q)
    · simp [e] at hb
    · simp only [if_neg e] at hb; exact ⟨e, hb⟩
  have hget : ∀ n : Nm, n ≠ (Hr.length, q) → Heap.get (delAll [q] f0 :: Hr) n = Heap.get (f0 :: Hr) n := fun n hne => by
    simp only [get_cons]
    split
    · rename_i hl
      rw [get_delAll, if_neg]
      simp only [List.mem_singleton]
      intro e; exact hne (Prod.ext hl e)
    · rfl
  refine ⟨fun n x hx t b hb => ?_, fun n t b hb => ?_, fun n n' t t' b h1 h2 => ?_, fun n t b hb => ?_, h.slt⟩
  · obtain ⟨hne, hb⟩ := hdn n t b hb
    rw [hget n hne] at hx
    have hx0 := h.blk n x hx t b hb
    by_cases hl : n.1 = Hr.length
    · refine hx0.forget (ks := [(Hr.length, q)]) (fun n' t' b' _ hng hm => hup _ _ _ (by simpa using hng) hm) (fun t => if_neg hne) (fun k hk => ?_) (by simp)
      simp only [List.mem_singleton] at hk
      subst hk
      rw [get_cons, if_pos hl] at hx
      exact noRefF_get hn hx
    · have hlt : n.1 < Hr.length := by
        rw [get_cons, if_neg hl] at hx
        exact Heap.get_lt hx
      refine BlkRel.mono (nm := n) (fun _ h => h) (fun _ _ => rfl) (fun _ _ h => h) (fun n' t' b' hn' hm => hup n' t' b' (fun e => ?_) hm) (fun t => if_neg hne) (fun _ _ _ => rfl) (fun _ _ _ h => h) hx0
      subst e
      have : Hr.length ≤ n.1 := hn'
      omega
  · obtain ⟨hne, hb⟩ := hdn n t b hb
    obtain ⟨y, hy⟩ := h.bnd _ _ _ hb
    exact ⟨y, by rw [hget n hne]; exact hy⟩
  · exact h.disj _ _ _ _ _ (hdn _ _ _ h1).2 (hdn _ _ _ h2).2
  · exact h.lt _ _ _ (hdn _ _ _ hb).2
/-- An object that has no name gets one. -/
theorem adopt {nm : Nm} {top b : Nat} {x : Blk} (hH : HRel w S μ H) (hl : nm.1 < H.length) (hno : ∀ n t, μ n t ≠ some b) (hb : b < w.heap.size) (hS : ¬ S b) (hx : BlkRel w S (μ.upd nm top b) nm x) (hnew : ∀ b', μ nm top ≠ some b') :
    HRel w S (μ.upd nm top b) (H.set nm x) := by
  have hcase : ∀ n t b', μ.upd nm top b n t = some b' → (n = nm ∧ t = top ∧ b' = b) ∨ (μ n t = some b' ∧ b' ≠ b) := fun n t b' h => by
    by_cases e : n = nm ∧ t = top
    · obtain ⟨rfl, rfl⟩ := e
      rw [Mu.upd_self] at h; cases h; exact .inl ⟨rfl, rfl, rfl⟩
    · have h2 : μ.upd nm top b n t = μ n t := by unfold Mu.upd; rw [if_neg e]
      rw [h2] at h
      exact .inr ⟨h, fun e2 => hno n t (e2 ▸ h)⟩
  have hmm : ∀ n t b', μ n t = some b' → μ.upd nm top b n t = some b' := fun n t b' h => by
    by_cases e : n = nm ∧ t = top
    · obtain ⟨rfl, rfl⟩ := e; exact absurd h (hnew _)
    · unfold Mu.upd; rw [if_neg e]; exact h
  refine ⟨fun n y hy t b' hb' => ?_, fun n t b' hb' => ?_, fun n n' t t' b' h1 h2 => ?_, fun n t b' hb' => ?_, hH.slt⟩
  · by_cases e : n = nm
    · subst e
      rw [Heap.get_set _ hl] at hy
      cases hy; exact hx
    · rw [Heap.get_set_other _ e] at hy
      rw [Mu.upd_other μ _ _ _ e] at hb'
      exact (hH.blk n y hy t b' hb').mono (fun _ h => h) (fun _ _ => rfl) (fun _ _ h => h) (fun n t b _ h => hmm n t b h) (fun t => Mu.upd_other μ _ _ _ e) (fun _ _ _ => rfl) (fun _ _ _ h => h)
  · by_cases e : n = nm
    · subst e; exact ⟨x, Heap.get_set _ hl⟩
    · rw [Mu.upd_other μ _ _ _ e] at hb'
      obtain ⟨y, hy⟩ := hH.bnd _ _ _ hb'
      exact ⟨y, by rw [Heap.get_set_other _ e]; exact hy⟩
  · rcases hcase _ _ _ h1 with ⟨rfl, rfl, e1⟩ | ⟨g1, e1⟩
    · rcases hcase _ _ _ h2 with ⟨e2, _, _⟩ | ⟨g2, e2⟩
      · exact e2.symm
      · exact absurd e1 e2
    · rcases hcase _ _ _ h2 with ⟨_, _, e2⟩ | ⟨g2, e2⟩
      · exact absurd e2 e1
      · exact hH.disj _ _ _ _ _ g1 g2
  · rcases hcase _ _ _ hb' with ⟨_, _, rfl⟩ | ⟨g, _⟩
    · exact hb
    · exact hH.lt _ _ _ g
theorem liftRow_ok {H0 H1 H' : Heap} {b v1 v : GV} {u vb : Value} {key : Nat} (hH : HRel w S μ H0) (hvb : VRel w S μ (H0.length - 1) vb b) (hv : VRel w' S' μ' (H1.length - 1) u v1) (h1 : HRel w' S' μ' H1) (he : Ev (H0.length - 1) w S μ w' S' μ') (hl1 : H1.length = H0.length)
    (h : gliftRow H0 b key (v1, H1) = some (v, H')) :
    ∃ μ2, VRel w' S' μ2 (H'.length - 1) u v ∧ HRel w' S' μ2 H' ∧ Ev (H0.length - 1) w S μ w' S' μ2 ∧ H'.length = H0.length := by
  unfold gliftRow at h
  split at h
  · rename_i nm off nm2 es top lo len f0 Hr hv1 hhd
    simp only at hhd hv1
    subst hhd; subst hv1
    split at h
    · rename_i hc
      simp only [Bool.and_eq_true, decide_eq_true_eq] at hc
      obtain ⟨⟨⟨c1, c2⟩, c3⟩, c4⟩ := hc
      obtain ⟨k1, k2⟩ := allNew_get c4 nm2.2 (by simp)
      have enm : nm2 = (Hr.length, nm2.2) := Prod.ext c1 rfl
      split at h
      · rename_i es' elems vf hg
        split at h
        · rename_i hcond
          obtain ⟨rfl, hvf, rfl, rfl, rfl, hpos0⟩ := hcond
          split at h
          · rename_i i H2 hadd
            simp only [Option.some.injEq, Prod.mk.injEq] at h
            obtain ⟨rfl, rfl⟩ := h
            cases hv with
            | hdr _ _ _ _ _ cap b n e p1 p2 p3 p4 p5 p6 =>
            have hga : Heap.get (f0 :: Hr) nm2 = some (.arr es' elems vf false) := by rw [get_cons, if_pos c1]; exact hg
            obtain ⟨g0, g1, g2, g3, g4⟩ := h1.blk _ _ hga _ _ p2
            obtain ⟨t1, t2, t3, t4⟩ := g4 _ b p2
            have t5 := (t4 hvf).2
            have hrr : RowRel w' S' b es' elems := ⟨t2, t3 rfl, t5⟩
            have hd := drop_name (q := nm2.2) h1 k2
            let μ1 : Mu := fun n t => if n = ((Hr.length, nm2.2) : Nm) then none else μ' n t
            have hd : HRel w' S' μ1 (delAll [nm2.2] f0 :: Hr) := hd
            have hmu1 : ∀ n t b, n.1 ≤ H0.length - 1 → μ n t = some b → μ1 n t = some b := fun n t b hn hb => by
              have hne : n ≠ (Hr.length, nm2.2) := fun e => by
                obtain ⟨y, hy⟩ := hH.bnd _ _ _ hb
                rw [e, k1] at hy; cases hy
              show (if n = ((Hr.length, nm2.2) : Nm) then none else μ' n t) = some b
              rw [if_neg hne]; exact he.mu n t b hn hb
            have hvb1 : VRel w' S' μ1 (H0.length - 1) vb (.bptr nm off) := hvb.mono he.sub (fun b hb => he.same b (hH.slt b hb) (.inl hb)) he.shp (fun n t b hn hb => hmu1 n t b hn hb) (Nat.le_refl _)
            obtain ⟨rows, n', hl, rfl, m, rfl⟩ := addRow_some g0 hd hvb1 hadd
            have hno : ∀ n t, μ1 n t ≠ some b := fun n t hb => by
              by_cases e : n = (Hr.length, nm2.2)
              · simp [μ1, e] at hb
              · simp only [μ1, if_neg e] at hb
                exact e ((h1.disj _ _ _ _ _ hb p2).trans enm)
            have hbl : b < w'.heap.size := h1.lt _ _ _ p2
            have had := adopt (nm := (nm.1, key)) (top := rix rows.length) (x := .mat es' (rows ++ [elems]) n') hd hl hno hbl (t3 rfl) (m.push (hno _) hrr g1) (fun b' hb' => by have := m.bnd _ _ hb'; omega)
            refine ⟨_, ?_, had, ?_, ?_⟩
            · rw [Nat.zero_mul]
              exact .rhdr _ es' _ _ cap b (by rw [Heap.length_set]; simp at hl ⊢; omega) (Mu.upd_self _ _ _ _) p3
            · refine ⟨he.os, he.tape, he.out, he.size, he.sub, he.same, he.shp, he.lp, fun n t b' hn hb' => ?_, fun n t b' hb' hs => ?_, he.snew⟩
              · have := hmu1 n t b' hn hb'
                by_cases e : n = (nm.1, key) ∧ t = rix rows.length
                · obtain ⟨rfl, rfl⟩ := e
                  have := m.bnd _ _ this; omega
                · unfold Mu.upd; rw [if_neg e]; exact this
              · by_cases e : n = (nm.1, key) ∧ t = rix rows.length
                · obtain ⟨rfl, rfl⟩ := e
                  rw [Mu.upd_self] at hb'; cases hb'
                  exact he.own _ _ _ p2 hs
                · have h2 : μ1.upd (nm.1, key) (rix rows.length) b n t = μ1 n t := by unfold Mu.upd; rw [if_neg e]
                  rw [h2] at hb'
                  by_cases e2 : n = (Hr.length, nm2.2)
                  · simp [μ1, e2] at hb'
                  · simp only [μ1, if_neg e2] at hb'
                    exact he.own _ _ _ hb' hs
            · rw [Heap.length_set]; simp at hl1 ⊢; omega
          · cases h
        · cases h
      · cases h
    · cases h
  · cases h
end
end Go.Gh


/- Operations one behind the other. -/
namespace Go.Gh
set_option linter.unusedSimpArgs false
set_option linter.unusedVariables false
section
variable {w w' : World} {S S' : Nat → Prop} {μ μ' : Mu} {H : Heap} {P : Program} {ℓ base : Nat} {r : Option Nat}
theorem gcallF_ok (K : Ctx) (hK : CtxOk K) {rec : Rec} (hrec : RecOk K.P rec) {f : GV} {fv : Value} {args : List GV} {c : Nat} {H' : Heap} {v : GV} (h : gcallF K rec f args c H = some (v, H')) (hf : VRel w S μ (H.length - 1) fv f)
    {vs : Array Value} (hH : HRel w S μ H) (hvs : vs.size = args.length) (hrel : ∀ j, j < args.length → VRel w S μ (H.length - 1) (vs.getD j undef) (args.getD j gdead)) :
    ∃ d f' args', (Deferred.ofValue fv vs).run K.P w = .ok d w ∧ (invoke d.target d.args).run K.P w = .ok (.enter f' args') w ∧ CallsIn (Fw none) 0 K.P f' args' w (Done (H.length - 1) H.length w S μ v H') := by
  unfold gcallF at h
  split at h
  · rename_i f'
    have := hf.pv
    cases this
    obtain ⟨h1, h2⟩ := call_ok K hK hrec h hH hvs hrel
    exact ⟨{ target := .fn (.func f') #[], args := #[] ++ vs }, f', vs, rfl, by simp only [invoke, Array.empty_append, Array.append_empty]; exact h1, h2⟩
  · rename_i f' first cap
    cases hf with
    | func _ a cc _ _ e1 e2 e3 e4 =>
    obtain ⟨h1, h2⟩ := call_ok K hK hrec h (vs := (a ++ vs) ++ cc) hH (by simp [e1, e2, hvs]) (fun j hj => by
      simp only [List.length_append] at hj
      have e : ((a ++ vs) ++ cc).getD j undef = if j < a.size then a.getD j undef else if j < a.size + vs.size then vs.getD (j - a.size) undef else cc.getD (j - (a.size + vs.size)) undef := by
        simp only [Array.getD_eq_getD_getElem?, Array.getElem?_append, Array.size_append]
        by_cases c1 : j < a.size
        · simp [c1, show j < a.size + vs.size by omega]
        · by_cases c2 : j < a.size + vs.size
          · simp [c1, c2]
          · simp [c1, c2]
      have e' : (first ++ args ++ cap).getD j gdead = if j < first.length then first.getD j gdead else if j < first.length + args.length then args.getD (j - first.length) gdead else cap.getD (j - (first.length + args.length)) gdead := by
        simp only [List.getD_eq_getElem?_getD, List.getElem?_append, List.length_append]
        by_cases c1 : j < first.length
        · simp [c1, show j < first.length + args.length by omega]
        · by_cases c2 : j < first.length + args.length
          · simp [c1, c2]
          · simp [c1, c2]
      rw [e, e', e1, hvs]
      split
      · exact e3 j (by omega)
      · split
        · exact hrel _ (by omega)
        · exact e4 _ (by omega))
    exact ⟨{ target := .fn (.func f') cc, args := a ++ vs }, f', (a ++ vs) ++ cc, rfl, by simp only [invoke]; exact h1, h2⟩
  · cases h
theorem upon_done {o : Oper} {a : Act} {f : FuncId} {args : Array Value} {v : GV} {H' : Heap} {next : Act → World → Prop} {Q : Exit → Act → World → Prop} (hc : CallsIn (Fw none) 0 P f args w (Done (H.length - 1) H.length w S μ v H'))
    (hn : ∀ u w' S' μ', VRel w' S' μ' (H'.length - 1) u v → HRel w' S' μ' H' → Ev (H.length - 1) w S μ w' S' μ' → H'.length = H.length → next (a.put o.dst u) w') :
    o.uponIn (Fw r) 0 P a next Q (.ok (.enter f args) w) := by
  rw [Oper.uponIn_enter]
  refine ⟨fun h => (by cases h), CallsIn.fw (CallsIn.mono hc fun e w' hd => ?_)⟩
  obtain ⟨u, S', μ', rfl, h1, h2, h3, h4⟩ := hd
  exact hn u w' S' μ' h1 h2 h3 h4
theorem upon_round {o : Oper} {a : Act} {b : Nat} {f : FuncId} {tmps : Array Value} {assign body : Code} {v : GV} {H' : Heap} {next : Act → World → Prop} {Q : Exit → Act → World → Prop}
    (hc : RoundIn (Fw r) 0 P b f tmps assign body w (Done (H.length - 1) H.length w S μ v H'))
    (hn : ∀ u w' S' μ', VRel w' S' μ' (H'.length - 1) u v → HRel w' S' μ' H' → Ev (H.length - 1) w S μ w' S' μ' → H'.length = H.length → next (a.put o.dst u) w') :
    o.uponIn (Fw r) 0 P a next Q (.ok (.round b f tmps assign body) w) := by
  rw [Oper.uponIn_round]
  refine ⟨fun h => (by cases h), hc.mono fun e w' hd => ?_⟩
  obtain ⟨u, S', μ', rfl, h1, h2, h3, h4⟩ := hd
  exact hn u w' S' μ' h1 h2 h3 h4
theorem step_ok (K : Ctx) (hK : CtxOk K) {rec : Rec} (hrec : RecOk K.P rec) {fn : FuncId} {o : Oper} {a : Act} {s : Slots} {v : GV} {H' : Heap} (hH : HRel w S μ H) (hp : 0 < H.length)
    (hs : ∀ t, VRel w S μ (H.length - 1) (a.tmps.getD t undef) (look s t)) (h : gstep K rec fn o s H = some (v, H')) {next : Act → World → Prop} {Q : Exit → Act → World → Prop}
    (hn : ∀ u w' S' μ', VRel w' S' μ' (H'.length - 1) u v → HRel w' S' μ' H' → Ev (H.length - 1) w S μ w' S' μ' → H'.length = H.length → next (a.put o.dst u) w') :
    o.wpIn (Fw r) 0 K.P a w next Q := by
  refine ⟨fun _ _ => trivial, ?_⟩
  unfold gstep at h
  split at h
  · rename_i f args hgo
    obtain ⟨dst, op, type, pos, after, guard⟩ := o
    unfold goCalls at hgo
    simp only at hgo
    split at hgo
    · rename_i f0 args0 ats
      simp only [Option.some.injEq, Prod.mk.injEq] at hgo
      obtain ⟨rfl, rfl⟩ := hgo
      rw [Oper.semAt_eq _ _ _ (fun c => by simp)]
      have hfv := ev_rel hs f0
      obtain ⟨g1, g2⟩ := evs_rel hs args0
      have core : ∀ (v1 : GV) (H1 : Heap), gcallee K rec (ev s f0) (args0.toList.map (ev s)) (dst.getD 0) H = some (v1, H1) →
          (∀ u w' S' μ', VRel w' S' μ' (H1.length - 1) u v1 → HRel w' S' μ' H1 → Ev (H.length - 1) w S μ w' S' μ' → H1.length = H.length → next (a.put dst u) w') →
          Oper.uponIn (Fw r) 0 K.P { dst := dst, op := .call { callee := .value f0, args := args0, argTypes := ats }, type := type, pos := pos, after := after, guard := guard } a next Q
            ((execOp a.eval { dst := dst, op := .call { callee := .value f0, args := args0, argTypes := ats }, type := type, pos := pos, after := after, guard := guard }).run K.P w) := by
        clear h hn
        intro v1 H1 h hn
        unfold gcallee at h
        split at h
        · rename_i nm hev
          rw [hev] at hfv
          generalize hfe : a.eval f0 = fv at hfv
          cases hfv with
          | yield _ b hl hm =>
          obtain ⟨q, r1, r2, r3⟩ := round_ok (r := r) hrec h hH rfl hp hm (vs := args0.map a.eval) g1 g2
          have hrun : (execOp a.eval { dst := dst, op := .call { callee := .value f0, args := args0, argTypes := ats }, type := type, pos := pos, after := after, guard := guard }).run K.P w
              = .ok (.round b q.fn ((q.params.zip (args0.map a.eval)).foldl (fun tmps (t, a) => tmps.setIfInBounds t a) q.tmps) q.assign q.body) w := by
            simp only [execOp, resolve, hfe, Deferred.ofValue, Sem.run_bind, Sem.run_pure, Result.andThen_ok, invoke, Array.empty_append]
            exact run_yield r1 r2
          rw [hrun]
          exact upon_round r3 hn
        · obtain ⟨d, f', args', r1, r2, r3⟩ := gcallF_ok K hK hrec h hfv hH (vs := args0.map a.eval) g1 g2
          have hrun : (execOp a.eval { dst := dst, op := .call { callee := .value f0, args := args0, argTypes := ats }, type := type, pos := pos, after := after, guard := guard }).run K.P w
              = .ok (.enter f' args') w := by
            simp only [execOp, resolve, Sem.run_bind, r1, Result.andThen_ok, r2]
          rw [hrun]
          exact upon_done r3 hn
      simp only at h
      split at h
      · exact core _ _ h hn
      · split at h
        · rename_i x hx
          obtain ⟨v1, H1⟩ := x
          refine core _ _ hx fun u w' S' μ' k1 k2 k3 k4 => ?_
          split at h
          · obtain ⟨μ2, z1, z2, z3, z4⟩ := lift_ok hH k1 k2 k3 k4 h
            exact hn u w' S' μ2 z1 z2 z3 z4
          · rename_i tb _ _ _ _ _
            obtain ⟨μ2, z1, z2, z3, z4⟩ := liftRow_ok hH (hs tb) k1 k2 k3 k4 h
            exact hn u w' S' μ2 z1 z2 z3 z4
        · cases h
    · cases hgo
  · rename_i hgo
    have hok := gop_sound (ℓ := H.length - 1) K hK hH hs h
    rw [Oper.semAt_eq _ _ _ (fun c e => by unfold gop at h; rw [e] at h; cases h)]
    obtain ⟨nx, u, w', S', μ', hr, hnx, hv, hh, he, hl⟩ := hok
    rw [hr]
    rcases hnx with rfl | ⟨rfl, rfl⟩
    · rw [Oper.uponIn_value]; exact hn u w' S' μ' hv hh he hl
    · rw [Oper.uponIn_skip]; exact hn undef w' S' μ' hv hh he hl
theorem gops_ok (K : Ctx) (hK : CtxOk K) {rec : Rec} (hrec : RecOk K.P rec) {fn : FuncId} {ops : Array Oper} {Q : Exit → Act → World → Prop} {st' : GSt} :
    ∀ (rest : List Oper) (i : Nat) (st : GSt) (a : Act) (w : World) (S : Nat → Prop) (μ : Mu), ops.toList.drop i = rest → gops K rec fn ops.toList rest st = some st' → StOk base r w S μ st a →
    (∀ a' w' S' μ', StOk base r w' S' μ' st' a' → Ev (st.h.length - 1) w S μ w' S' μ' → st'.h.length = st.h.length → st'.nt = st.nt → Q .normal a' w') →
    wpOpsIn (Fw r) 0 K.P ops Q (List.range' i rest.length) a w
  | [], i, st, a, w, S, μ, hd, h, hst, hq => by
    simp only [gops, Option.some.injEq] at h; subst h
    exact hq a w S μ hst (.refl _ _ _ _) rfl rfl
  | o :: rest, i, st, a, w, S, μ, hd, h, hst, hq => by
    have hi : ops[i]? = some o := by
      have : (ops.toList.drop i)[0]? = some o := by rw [hd]; rfl
      rw [List.getElem?_drop] at this
      simpa using this
    have hd' : ops.toList.drop (i + 1) = rest := by
      have : (ops.toList.drop i).drop 1 = rest := by rw [hd]; rfl
      rwa [List.drop_drop] at this
    rw [List.length_cons, List.range'_succ]
    simp only [wpOpsIn, hi]
    simp only [gops] at h
    split at h
    · rename_i hw
      have hwant := wanted_ok hst.slots hw
      simp only [Array.toArray_toList] at hwant
      rw [hwant]
      simp only [Bool.false_eq_true, if_false]
      refine ⟨fun _ _ => trivial, ?_⟩
      split at h
      · rename_i st1 hput
        obtain ⟨p1, p2, p3, p4, p5⟩ := put_slots hst.slots hst.nt undef_rel rfl rfl hput
        refine gops_ok K hK hrec rest (i + 1) st1 _ w S μ hd' h ⟨p4 ▸ hst.heap, fun t => by rw [p4]; exact p1 t, by rw [p2, p3], p4 ▸ hst.pos, hst.low, p5 ▸ hst.defs, hst.round⟩ fun a' w' S' μ' q1 q2 q3 q4 => ?_
        rw [p4] at q2 q3
        exact hq a' w' S' μ' q1 q2 q3 (q4.trans p3)
      · cases h
    · rename_i hw
      have hwant := wanted_ok hst.slots hw
      simp only [Array.toArray_toList] at hwant
      rw [hwant]
      simp only [if_true]
      split at h
      · rename_i v H1 hstep
        split at h
        · rename_i st1 hput
          refine step_ok K hK hrec hst.heap hst.pos hst.slots hstep fun u w' S' μ' hv hh he hl => ?_
          have hs' : ∀ t, VRel w' S' μ' (H1.length - 1) (a.tmps.getD t undef) (look st.s t) := by
            rw [hl]; exact slots_ev hst.slots hst.heap he (Nat.le_refl _) (Nat.le_refl _)
          obtain ⟨p1, p2, p3, p4, p5⟩ := put_slots (st := { st with h := H1 }) hs' hst.nt hv rfl rfl hput
          simp only at p4
          refine gops_ok K hK hrec rest (i + 1) st1 _ w' S' μ' hd' h ⟨p4 ▸ hh, fun t => by rw [p4]; exact p1 t, by rw [p2, p3], by rw [p4, hl]; exact hst.pos, Nat.le_trans hst.low he.size, p5 ▸ hst.defs.ev he, round_ev hst.round he⟩
            fun a' w'' S'' μ'' q1 q2 q3 q4 => ?_
          rw [p4, hl] at q2 q3
          exact hq a' w'' S'' μ'' q1 (he.trans q2) q3 (q4.trans p3)
        · cases h
      · cases h
    · cases h
end
end Go.Gh
