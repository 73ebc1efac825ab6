/- Parts of values, slices of slices, lengths, maps. -/
import Derived.Test.YtgmohiojddnfgaaGreatDoorGhost13
namespace Go.Gh
set_option linter.unusedSimpArgs false
set_option linter.unusedVariables false

section
variable {w : World} {S : Nat → Prop} {μ : Mu} {H : Heap} {P : Program} {ℓ : Nat}

theorem part_pure {k off size : Nat} {ag : Bool} {t : TypeId} {vs : Array Value} {cs : List PV} {r : GV} (hc : CRel w S μ k vs.toList (cs.map .pure)) (ha : tagg P t = some ag) (hs : tsize P t = some size)
    (hle : off + size ≤ cs.length) (h : (if ag then some (.pure (.agg ((cs.drop off).take size))) else (match cs[off]? with | some p => some (.pure p) | none => none)) = some r) :
    ∃ u, (part t vs off).run P w = .ok u w ∧ VRel w S μ k u r := by
  refine part_run hc ha hs (by simpa using hle) ?_
  cases ag with
  | true =>
    simp only [if_true, Option.some.injEq] at h ⊢
    rw [← h, ← List.map_drop, ← List.map_take, mkAgg_map]
  | false =>
    simp only [Bool.false_eq_true, if_false, List.getElem?_map] at h ⊢
    split at h
    · rename_i p hp; rw [hp]; simpa using h
    · cases h

theorem index_sound (K : Ctx) {k : Nat} {t : TypeId} {va vi : Value} {x i r : GV} (hx : VRel w S μ k va x) (hi : VRel w S μ k vi i) (h : gindex K x i t = some r) :
    ∃ u, (Instr.index t va vi).run K.P w = .ok u w ∧ VRel w S μ k u r := by
  unfold gindex at h
  split at h
  · rename_i kd n
    obtain rfl := hi.int_inv
    split at h
    · cases h
    · rename_i hneg
      have h0 : 0 ≤ n := by omega
      split at h
      · rename_i len e hta
        split at h
        · rename_i ag size ha hs
          split at h
          · cases h
          · rename_i hlt
            have hlt' : n < (len : Int) := by omega
            split at h
            · rename_i cs
              obtain ⟨vs, rfl, hc⟩ := hx.cells
              split at h
              · rename_i hle
                obtain ⟨u, u1, u2⟩ := part_run (P := K.P) hc ha hs hle h
                exact ⟨u, by simp [Instr.index, asIntOf, r_underlying w (tarr_some hta), h0, hlt', r_size w hs, u1], u2⟩
              · cases h
            · rename_i cs
              obtain ⟨vs, rfl, hc⟩ := hx.agg_inv
              split at h
              · rename_i hle
                obtain ⟨u, u1, u2⟩ := part_pure (P := K.P) hc ha hs hle h
                exact ⟨u, by simp [Instr.index, asIntOf, r_underlying w (tarr_some hta), h0, hlt', r_size w hs, u1], u2⟩
              · cases h
            · cases h
        · cases h
      · split at h
        · rename_i l hu
          obtain ⟨s, rfl, hs⟩ := hx.str_inv
          split at h
          · rename_i b hb
            simp only [Option.some.injEq] at h; subst h
            have hb' : s[n.toNat]? = some b := by
              subst hs
              have hin : n.toNat < s.size := by
                rcases Nat.lt_or_ge n.toNat s.data.toList.length with h | h
                · simpa using h
                · rw [List.getElem?_eq_none h] at hb; cases hb
              rw [getElem?_pos s n.toNat hin]
              have hin2 : n.toNat < s.data.toList.length := by simpa using hin
              rw [List.getElem?_eq_getElem hin2] at hb
              have hb2 := Option.some.inj hb
              rw [Array.getElem_toList] at hb2
              exact congrArg some hb2
            exact ⟨.int .u8 b.toNat, by simp [Instr.index, asIntOf, r_underlying w hu, h0, hb'], .pure _ _ (.int _ _)⟩
          · cases h
        · cases h
  · cases h

theorem field_sound {k f off ft size : Nat} {ag : Bool} {t : TypeId} {v : Value} {x r : GV} (hx : VRel w S μ k v x) (hf : tfield P t f = some (off, ft)) (ha : tagg P ft = some ag) (hs : tsize P ft = some size)
    (h : (match x with
      | .agg cs => if off + size ≤ cs.length then (if ag then some (mkAgg ((cs.drop off).take size)) else cs[off]?) else none
      | .pure (.agg cs) => if off + size ≤ cs.length then (if ag then some (.pure (.agg ((cs.drop off).take size))) else (match cs[off]? with | some p => some (.pure p) | none => none)) else none
      | _ => none) = some r) :
    ∃ u, (Instr.field t v f).run P w = .ok u w ∧ VRel w S μ k u r := by
  obtain ⟨fs, y, hu, hy, rfl, rfl⟩ := tfield_some hf
  split at h
  · rename_i cs hx
    obtain ⟨vs, rfl, hc⟩ := hx.cells
    split at h
    · rename_i hle
      obtain ⟨u, u1, u2⟩ := part_run (P := P) hc ha hs hle h
      exact ⟨u, by simp [Instr.field, r_underlying w hu, hy, asAgg, u1], u2⟩
    · cases h
  · rename_i cs hx
    obtain ⟨vs, rfl, hc⟩ := hx.agg_inv
    split at h
    · rename_i hle
      obtain ⟨u, u1, u2⟩ := part_pure (P := P) hc ha hs hle h
      exact ⟨u, by simp [Instr.field, r_underlying w hu, hy, asAgg, u1], u2⟩
    · cases h
  · cases h


end
end Go.Gh
