/- Addresses, parts, slices of slices, lengths. -/
import Derived.Test.YtgmohiojddnfgaaGreatDoorGhost12
namespace Go.Gh
set_option linter.unusedSimpArgs false
set_option linter.unusedVariables false

section
variable {w : World} {S : Nat → Prop} {μ : Mu} {H : Heap} {P : Program} {ℓ : Nat}

theorem pptr_drop {b o q : Nat} {cs : List PV} {f : Nat → Value} {k : Nat} (hS : cs ≠ [] → S b) (hf : ∀ j, j < cs.length → w.cell? ⟨b, o + j, none⟩ = some (f j)) (h1 : ∀ j, j < cs.length → (f j).oneCell' = true)
    (hr : ∀ j, j < cs.length → PRep w S (f j) (cs.getD j .dead)) : VRel w S μ k (.pointer (some ⟨b, o + q, none⟩)) (.pptr (cs.drop q)) := by
  refine .pptr b (o + q) (cs.drop q) (fun j => f (q + j)) (fun h => hS (by intro e; subst e; simp at h)) (fun j hj => ?_) (fun j hj => ?_) (fun j hj => ?_)
  · simp at hj; rw [Nat.add_assoc]; exact hf (q + j) (by omega)
  · simp at hj; exact h1 (q + j) (by omega)
  · simp at hj
    have := hr (q + j) (by omega)
    simpa [List.getD_eq_getElem?_getD, List.getElem?_drop] using this

theorem lptr_drop {b o q : Nat} {cs : List GV} {f : Nat → Value} {k : Nat} (hS : cs ≠ [] → S b) (hf : ∀ j, j < cs.length → w.cell? ⟨b, o + j, none⟩ = some (f j)) (h1 : ∀ j, j < cs.length → (f j).oneCell' = true)
    (hr : ∀ j, j < cs.length → VRel w S μ k (f j) (cs.getD j gdead)) : VRel w S μ k (.pointer (some ⟨b, o + q, none⟩)) (.lptr (cs.drop q)) := by
  refine .lptr b (o + q) (cs.drop q) (fun j => f (q + j)) (fun h => hS (by intro e; subst e; simp at h)) (fun j hj => ?_) (fun j hj => ?_) (fun j hj => ?_)
  · simp at hj; rw [Nat.add_assoc]; exact hf (q + j) (by omega)
  · simp at hj; exact h1 (q + j) (by omega)
  · simp at hj
    have := hr (q + j) (by omega)
    simpa [List.getD_eq_getElem?_getD, List.getElem?_drop] using this

/-- An address some cells further on. -/
theorem shift_rel {k q : Nat} {va : Value} {x r : GV} (hx : VRel w S μ k va x)
    (h : gmoved q x = some r) : ∃ a : Addr, va = .pointer (some a) ∧ a.spot = none ∧ VRel w S μ k (.pointer (some (a.add q))) r := by
  cases hx with
  | bptr nm off b h1 h2 =>
    simp only [gmoved, Option.some.injEq] at h; subst h
    exact ⟨_, rfl, rfl, by rw [add_none]; exact .bptr nm _ b h1 h2⟩
  | eptr nm es top i off b h1 h2 =>
    simp only [gmoved, Option.some.injEq] at h; subst h
    exact ⟨_, rfl, rfl, by rw [add_none, Nat.add_assoc]; exact .eptr nm es top i _ b h1 h2⟩
  | pptr b o cs f hS hf h1 hr =>
    simp only [gmoved] at h
    split at h
    · simp only [Option.some.injEq] at h; subst h
      exact ⟨_, rfl, rfl, by rw [add_none]; exact pptr_drop hS hf h1 hr⟩
    · cases h
  | lptr b o cs f hS hf h1 hr =>
    simp only [gmoved] at h
    split at h
    · simp only [Option.some.injEq] at h; subst h
      exact ⟨_, rfl, rfl, by rw [add_none]; exact lptr_drop hS hf h1 hr⟩
    · cases h
  | rptr nm es i j off b h1 h2 =>
    simp only [gmoved, Option.some.injEq] at h; subst h
    exact ⟨_, rfl, rfl, by rw [add_none, Nat.add_assoc]; exact .rptr nm es i j _ b h1 h2⟩
  | _ => cases h

theorem tarr_some {t n e : Nat} (h : tarr P t = some (n, e)) : P.underlying t = some (.array n e) := by
  unfold tarr at h
  split at h
  · rename_i n' e' he; simp at h; obtain ⟨rfl, rfl⟩ := h; exact he
  · cases h

theorem tfield_some {t f off ft : Nat} (h : tfield P t f = some (off, ft)) : ∃ fs x, P.underlying t = some (.struct fs) ∧ fs[f]? = some x ∧ x.offset = off ∧ x.type = ft := by
  unfold tfield at h
  split at h
  · rename_i fs hfs
    split at h
    · rename_i x hx; simp at h; exact ⟨fs, x, hfs, hx, h.1, h.2⟩
    · cases h
  · cases h

theorem fieldAddr_sound {k f off ft size : Nat} {st : TypeId} {va : Value} {x r : GV} (hx : VRel w S μ k va x) (hf : tfield P st f = some (off, ft)) (hs : tsize P ft = some size) (h0 : size ≠ 0)
    (h : gmoved off x = some r) : ∃ u, (Instr.fieldAt st va f).run P w = .ok u w ∧ VRel w S μ k u r := by
  obtain ⟨fs, y, hu, hy, rfl, rfl⟩ := tfield_some hf
  obtain ⟨a, rfl, _, hr⟩ := shift_rel hx h
  exact ⟨_, by simp [Instr.fieldAt, r_underlying w hu, hy, sure_ptr, fieldPlace, r_size w hs, h0], hr⟩

theorem indexAddr_sound (K : Ctx) {k : Nat} {t : TypeId} {va vi : Value} {x i r : GV} (hx : VRel w S μ k va x) (hi : VRel w S μ k vi i) (h : gindexAddr K t x i = some r) :
    ∃ u, (Instr.indexAt t va vi).run K.P w = .ok u w ∧ VRel w S μ k u r := by
  unfold gindexAddr at h
  split at h
  · rename_i kd n
    obtain rfl := hi.int_inv
    split at h
    · cases h
    · rename_i hneg
      have h0 : 0 ≤ n := by omega
      split at h
      · rename_i len e hta
        split at h
        · rename_i size hs
          split at h
          · cases h
          · rename_i hlt
            have hlt' : n < (len : Int) := by omega
            obtain ⟨a, rfl, _, hr⟩ := shift_rel hx h
            refine ⟨_, ?_, hr⟩
            simp [Instr.indexAt, asIntOf, r_underlying w (tarr_some hta), sure_ptr, h0, hlt', r_size w hs]
        · cases h
      · split at h
        · rename_i e he
          split at h
          · rename_i size hs
            split at h
            · -- a header
              rename_i nm es top lo len
              cases hx with
              | hdr _ _ _ _ _ cap b m ek h1 h2 h3 h4 h5 h6 =>
              split at h
              · rename_i hc
                obtain ⟨rfl, hlt⟩ := hc
                simp only [Option.some.injEq] at h; subst h
                refine ⟨.pointer (some ⟨b, (lo + n.toNat) * es + 0, none⟩), ?_, .eptr nm es top (lo + n.toNat) 0 b h1 h2⟩
                have ea : (⟨b, lo * es, none⟩ : Addr).add (n.toNat * es) = ⟨b, (lo + n.toNat) * es + 0, none⟩ := by rw [add_none, Nat.add_mul]; simp
                simp [Instr.indexAt, asIntOf, r_underlying w (telem_some he), h0, hlt, r_size w hs, ea]
              · cases h
            · -- a pure slice
              rename_i l
              split at h
              · rename_i cs hcs
                split at h
                · rename_i hlen
                  simp only [Option.some.injEq] at h; subst h
                  have := hx.pv
                  cases this with
                  | slice0 a cap => simp at hcs
                  | slice b o cap es _ f hS hpos hes hf h1 hr hcp =>
                  have hin : n.toNat < l.length := by rcases Nat.lt_or_ge n.toNat l.length with h | h; exact h; rw [List.getElem?_eq_none h] at hcs; cases hcs
                  have hcl : cs.length = es := hes _ (List.mem_of_getElem? hcs)
                  have hlt : n < (l.length : Int) := by omega
                  have hgd : l.getD n.toNat [] = cs := by simp [List.getD_eq_getElem?_getD, hcs]
                  have es' : es = size := by omega
                  subst es'
                  refine ⟨.pointer (some ⟨b, o + n.toNat * es, none⟩), ?_, .pptr b (o + n.toNat * es) cs (f n.toNat) (fun _ => hS) (fun j hj => ?_) (fun j hj => h1 _ _ hin (by omega)) (fun j hj => ?_)⟩
                  · simp [Instr.indexAt, asIntOf, r_underlying w (telem_some he), h0, hlt, r_size w hs, add_none]
                  · rw [Nat.add_assoc]; exact hf _ _ hin (by omega)
                  · have := hr n.toNat j hin (by omega); rwa [hgd] at this
                · cases h
              · cases h
            · -- a literal
              rename_i l
              split at h
              · rename_i cs hcs
                split at h
                · rename_i hlen
                  simp only [Option.some.injEq] at h; subst h
                  cases hx with
                  | lits b o cap es _ f hS hpos hes hf h1 hr hcap =>
                  have hin : n.toNat < l.length := by rcases Nat.lt_or_ge n.toNat l.length with h | h; exact h; rw [List.getElem?_eq_none h] at hcs; cases hcs
                  have hcl : cs.length = es := hes _ (List.mem_of_getElem? hcs)
                  have hlt : n < (l.length : Int) := by omega
                  have hgd : l.getD n.toNat [] = cs := by simp [List.getD_eq_getElem?_getD, hcs]
                  have es' : es = size := by omega
                  subst es'
                  refine ⟨.pointer (some ⟨b, o + n.toNat * es, none⟩), ?_, .lptr b (o + n.toNat * es) cs (f n.toNat) (fun _ => hS) (fun j hj => ?_) (fun j hj => h1 _ _ hin (by omega)) (fun j hj => ?_)⟩
                  · simp [Instr.indexAt, asIntOf, r_underlying w (telem_some he), h0, hlt, r_size w hs, add_none]
                  · rw [Nat.add_assoc]; exact hf _ _ hin (by omega)
                  · have := hr n.toNat j hin (by omega); rwa [hgd] at this
                · cases h
              · cases h
            · -- a table's row
              rename_i nm es q len
              cases hx with
              | rhdr _ _ _ _ cap b h1 h2 h3 =>
              split at h
              · rename_i hc
                obtain ⟨rfl, hlt⟩ := hc
                simp only [Option.some.injEq] at h; subst h
                refine ⟨.pointer (some ⟨b, n.toNat * es + 0, none⟩), ?_, .rptr nm es q n.toNat 0 b h1 h2⟩
                have ea : (⟨b, 0, none⟩ : Addr).add (n.toNat * es) = ⟨b, n.toNat * es + 0, none⟩ := by rw [add_none]; simp
                simp [Instr.indexAt, asIntOf, r_underlying w (telem_some he), h0, hlt, r_size w hs, ea]
              · cases h
            · cases h
          · cases h
        · cases h
  · cases h

/-- A part of a value's cells. -/
theorem part_run {k off size : Nat} {ag : Bool} {t : TypeId} {vs : Array Value} {cs : List GV} {r : GV} (hc : CRel w S μ k vs.toList cs) (ha : tagg P t = some ag) (hs : tsize P t = some size)
    (hle : off + size ≤ cs.length) (h : (if ag then some (mkAgg ((cs.drop off).take size)) else cs[off]?) = some r) : ∃ u, (part t vs off).run P w = .ok u w ∧ VRel w S μ k u r := by
  cases ag with
  | true =>
    simp only [if_true, Option.some.injEq] at h; subst h
    refine ⟨.agg (vs.extract off (off + size)), by simp [part, r_agg w ha, r_size w hs], mkAgg_rel' ?_⟩
    have e : (vs.extract off (off + size)).toList = (vs.toList.drop off).take size := by simp
    rw [e]
    exact (hc.drop off).take size
  | false =>
    simp only [Bool.false_eq_true, if_false] at h
    obtain ⟨v, v1, v2, v3⟩ := hc.get off r h
    have v1' : vs[off]? = some v := by simpa using v1
    exact ⟨v, by simp [part, r_agg w ha, v1'], v3⟩

theorem agg_of_cells {k : Nat} {v : Value} {x : GV} {cs : List GV} (hx : VRel w S μ k v x) (h : cellsO x = some cs) (hag : (∃ l, x = .agg l) ∨ (∃ l, x = .pure (.agg l))) : ∃ vs : Array Value, v = .agg vs ∧ CRel w S μ k vs.toList cs := by
  rcases hag with ⟨l, rfl⟩ | ⟨l, rfl⟩
  · simp only [cellsO, Option.some.injEq] at h; subst h; exact hx.cells
  · simp only [cellsO, Option.some.injEq] at h; subst h; exact hx.agg_inv

end
end Go.Gh
