/- Contracts of the library that the interpreter takes as told: strconv.Itoa, strconv.Atoi, strings.Split, (*strings.Builder).copyCheck. -/
import Derived.Test.YtgmohiojddnfgaaGreatDoorGhost12
import Derived.Test.YtgmohiojddnfgaaGreatDoorStr
import Derived.Shelf.Strconv.Itoa3
import Derived.Shelf.Strconv.AtoiAll
import Derived.Shelf.Strings.Split
import Derived.Shelf.Strings.Builder1
import Derived.Lib.AtoiErrMem
namespace Go.Gh
open Go.Shelf Go.Proofs Go.RowKit
set_option linter.unusedSimpArgs false
set_option linter.unusedVariables false

section
variable {w w' : World} {S : Nat → Prop} {μ : Mu} {H : Heap} {P : Program} {ρ : Ren}

/-- The blocks that a call has made are not written any more. -/
def grewS (S : Nat → Prop) (w w' : World) : Nat → Prop := fun b => S b ∨ (w.heap.size ≤ b ∧ b < w'.heap.size)

theorem below_shp (h : Below w.heap.size w w') (b : Nat) (x : TypeId × Nat) (hx : w.shape? b = some x) : w'.shape? b = some x := by
  have hb : b < w.heap.size := by
    unfold World.shape? at hx
    rcases Nat.lt_or_ge b w.heap.size with h | h
    · exact h
    · rw [Array.getElem?_eq_none h] at hx; cases hx
  unfold World.shape? at hx ⊢
  rw [h.block b hb]; exact hx

/-- A call that makes new blocks alone. -/
theorem done_below (hH : HRel w S μ H) (hB : Below w.heap.size w w') {u : Value} {p : PV} (hu : PRep w' (grewS S w w') u p) : Done (H.length - 1) H.length w S μ (.pure p) H (.returned u) w' := by
  have hw : ∀ b, S b → w'.heap[b]? = w.heap[b]? := fun b hb => hB.block b (hH.slt b hb)
  have hsub : ∀ b, S b → grewS S w w' b := fun b h => .inl h
  have hrev : ∀ b, b < w.heap.size → grewS S w w' b → S b := fun b hb h => by
    rcases h with h | h
    · exact h
    · omega
  refine ⟨u, grewS S w w', μ, rfl, .pure _ _ hu, ⟨fun n x hx t b hb => ?_, hH.bnd, hH.disj, fun n t b h => Nat.lt_of_lt_of_le (hH.lt n t b h) hB.size, fun b h => ?_, hH.glb.mono hsub hw⟩, ?_, rfl⟩
  · exact (hH.blk n x hx t b hb).mono hsub hw (below_shp hB) (fun _ _ _ _ h => h) (fun _ => rfl) (fun t b hm => hB.block b (hH.lt _ _ _ hm)) (fun t b hm h => hrev b (hH.lt _ _ _ hm) h)
  · rcases h with h | h
    · exact Nat.lt_of_lt_of_le (hH.slt b h) hB.size
    · exact h.2
  · exact ⟨hB.os, hB.tape, hB.output, hB.size, hsub, fun b hb _ => hB.block b hb, below_shp hB, fun b r hr => ⟨r, by rw [hB.block b (Array.getElem?_eq_some_iff.1 hr).1]; exact hr⟩, fun _ _ _ _ h => h, fun nm t b h _ => ⟨nm, t, h⟩, fun b h hb => .inl (hrev b hb h)⟩

theorem vs_one {vs : Array Value} {x : GV} {k : Nat} (hvs : vs.size = [x].length) (hr : ∀ j, j < [x].length → VRel w S μ k (vs.getD j undef) ([x].getD j gdead)) : ∃ v, vs = #[v] ∧ VRel w S μ k v x := by
  have hs : vs.size = 1 := hvs
  refine ⟨vs[0], ?_, ?_⟩
  · apply Array.ext (by simp [hs])
    intro i h1 h2
    have : i = 0 := by simp at h2; omega
    subst this; rfl
  · have := hr 0 (by simp)
    simpa [Array.getD_eq_getD_getElem?, hs] using this

theorem vs_two {vs : Array Value} {x y : GV} {k : Nat} (hvs : vs.size = [x, y].length) (hr : ∀ j, j < [x, y].length → VRel w S μ k (vs.getD j undef) ([x, y].getD j gdead)) : ∃ v u, vs = #[v, u] ∧ VRel w S μ k v x ∧ VRel w S μ k u y := by
  have hs : vs.size = 2 := hvs
  refine ⟨vs[0], vs[1], ?_, ?_, ?_⟩
  · apply Array.ext (by simp [hs])
    intro i h1 h2
    have : i = 0 ∨ i = 1 := by simp at h2; omega
    rcases this with rfl | rfl <;> rfl
  · have := hr 0 (by simp)
    simpa [Array.getD_eq_getD_getElem?, hs] using this
  · have := hr 1 (by simp)
    simpa [Array.getD_eq_getD_getElem?, hs] using this

theorem calls_in {f : FuncId} {args : Array Value} {R : Ending → World → Prop} (h : Calls P f args w R) : CallsIn (Fw none) 0 P f args w R :=
  callsIn_wide.2 h

theorem glob_heap {g : Nat} {qs : List GQ} (hG : GlbRel w S) (h : globQ g = some qs) : ∃ c ty fr, w.heap[g]? = some (.cells c ty fr) ∧ c.size = qs.length ∧ ∀ j, (h : j < qs.length) → ∃ u, c[j]? = some u ∧ GqRel qs[j] u := (hG g qs h).2

/-- strconv.Itoa. -/
def extItoa : List GV → Heap → Option (GV × Heap)
  | [.pure (.int .i64 n)], H => if -9223372036854775808 ≤ n ∧ n ≤ 9223372036854775807 then some (.pure (.str (itoaL n)), H) else none
  | _, _ => none

theorem itoa_ext (L : LaysM.n171 P ρ) (hg : globQ (ρ.g 17) = some (Lib.pow10Tab.map fun z => .int .u64 z)) : ExtOk P (ρ.f 171) extItoa := by
  intro w S μ H H' args v vs h hp hH hvs hrel
  unfold extItoa at h
  split at h
  · rename_i n
    split at h
    · rename_i hn
      simp only [Option.some.injEq, Prod.mk.injEq] at h
      obtain ⟨rfl, rfl⟩ := h
      obtain ⟨v, rfl, hv⟩ := vs_one hvs hrel
      obtain rfl := hv.int_inv
      refine ⟨enters_of L.f171 (by kernel_rfl) rfl _ _, calls_in ((Any.strconv_Itoa L n hn.1 hn.2 w ?_).mono ?_)⟩
      · unfold Lib.TabIs World.var?
        rw [L.m17]
        obtain ⟨c, ty, fr, h1, h2, h3⟩ := glob_heap hH.glb hg
        simp only [Option.bind_some, h1, Option.some.injEq]
        apply Array.ext
        · simpa using h2
        · intro i i1 i2
          have hi : i < Lib.pow10Tab.length := by simpa using i2
          obtain ⟨u, u1, u2⟩ := h3 i (by simpa using hi)
          have : u = .int .u64 Lib.pow10Tab[i] := by simpa [GqRel] using u2
          subst this
          rw [Array.getElem?_eq_getElem i1] at u1
          simpa using u1
      rintro e w' ⟨rfl, k, os, rfl⟩
      have hB : Below w.heap.size w (Sort.grow (w.drewN k) os) := ⟨rfl, rfl, rfl, by simp [Sort.grow, World.drewN], fun b hb => by simp [Sort.grow, World.drewN, Array.getElem?_append, hb]⟩
      refine done_below hH hB ?_
      rw [itoaL_eq n hn.1 hn.2]
      exact .str ⟨(Lib.itoa n).toArray⟩
    · cases h
  · cases h

/-- strings.Split, at a separator of one byte. -/
def extSplit : List GV → Heap → Option (GV × Heap)
  | [.pure (.str s), .pure (.str [c])], H => if s.length < 4294967281 then some (.pure (.slice ((splitL c s).map fun x => [.str x])), H) else none
  | _, _ => none

theorem split_ext (L : Lays.n146 P ρ) (hi9 : (P.info? (ρ.t 9)).map (fun i => (i.zero, i.size, i.bytes)) = some (some (.string ByteArray.empty), 1, 16)) (hg : globQ (ρ.g 1) = some [.anyInt .i64]) : ExtOk P (ρ.f 146) extSplit := by
  intro w S μ H H' args v vs h hp hH hvs hrel
  unfold extSplit at h
  split at h
  · rename_i s c
    split at h
    · rename_i hn
      simp only [Option.some.injEq, Prod.mk.injEq] at h
      obtain ⟨rfl, rfl⟩ := h
      obtain ⟨v, u, rfl, hv, hu⟩ := vs_two hvs hrel
      obtain ⟨sb, rfl, rfl⟩ := hv.str_inv
      obtain ⟨sep, rfl, hsep⟩ := hu.str_inv
      obtain ⟨cc, ty, fr, h1, h2, h3⟩ := glob_heap hH.glb hg
      obtain ⟨z, z1, m, rfl⟩ := h3 0 (by simp)
      have hm : w.cell? ⟨ρ.g 1, 0, none⟩ = some (.int .i64 m) := by unfold World.cell?; simp [h1, z1]
      have hsz : sep.size = 1 := by
        have : sep.data.toList.length = 1 := by rw [hsep]; rfl
        simpa using this
      refine ⟨enters_of L.f146 (by kernel_rfl) rfl _ _, calls_in ((Any.strings_Split L hi9 sb sep m w (by simpa using hn) hm (by omega)).mono ?_)⟩
      rintro e w' ⟨rfl, rfl⟩
      have hlen := Lib.splitB_all sep (by omega) 0 _ sb rfl
      have hl : (splitL c sb.data.toList).length = Lib.countB sb sep + 1 := by
        rw [← hlen, ← splitB_eq hsep]; simp
      have hB : ∀ o, Below w.heap.size w (w.alloc o) := fun o => ⟨rfl, rfl, rfl, by rw [alloc_size]; omega, fun b hb => alloc_heap w _ b hb⟩
      refine done_below hH (hB _) ?_
      have hr := PRep.slice (w := w.alloc (.cells ((Lib.splitB sep 0 (Lib.countB sb sep) sb).map Value.string).toArray (ρ.t 9))) (S := grewS S w (w.alloc (.cells ((Lib.splitB sep 0 (Lib.countB sb sep) sb).map Value.string).toArray (ρ.t 9))))
        w.heap.size 0 (Lib.countB sb sep + 1) 1 ((splitL c sb.data.toList).map fun x => [PV.str x]) (fun i _ => ((Lib.splitB sep 0 (Lib.countB sb sep) sb).map Value.string).getD i undef)
        (.inr ⟨Nat.le_refl _, by rw [alloc_size]; omega⟩) (by omega) (fun r hr => by obtain ⟨x, _, rfl⟩ := List.mem_map.1 hr; rfl)
        (fun i j hi hj => by
          have hj0 : j = 0 := by omega
          subst hj0
          have hi' : i < (Lib.splitB sep 0 (Lib.countB sb sep) sb).length := by rw [hlen]; simpa [hl] using hi
          unfold World.cell?
          rw [alloc_new]
          simp [List.getD_eq_getElem?_getD, hi'])
        (fun i j hi hj => by
          have hi' : i < (Lib.splitB sep 0 (Lib.countB sb sep) sb).length := by rw [hlen]; simpa [hl] using hi
          simp [List.getD_eq_getElem?_getD, hi', Value.oneCell'])
        (fun i j hi hj => by
          have hj0 : j = 0 := by omega
          subst hj0
          have hi' : i < (Lib.splitB sep 0 (Lib.countB sb sep) sb).length := by rw [hlen]; simpa [hl] using hi
          have hi2 : i < (splitL c sb.data.toList).length := by simpa using hi
          have e : (splitL c sb.data.toList)[i] = (Lib.splitB sep 0 (Lib.countB sb sep) sb)[i].data.toList := by
            have := congrArg (fun l => l[i]?) (splitB_eq (s := sb) hsep)
            simp only [List.getElem?_map, List.getElem?_eq_getElem hi', List.getElem?_eq_getElem hi2, Option.map_some, Option.some.injEq] at this
            exact this.symm
          simp only [List.getD_eq_getElem?_getD, List.getElem?_map, List.getElem?_eq_getElem hi', List.getElem?_eq_getElem hi2, Option.map_some, Option.getD_some, List.getElem?_cons_zero, e]
          exact .str _)
        (by simp [hl])
      simpa [hl] using hr
    · cases h
  · cases h

/-- strconv.Atoi. 'T': the type of its errors. -/
def extAtoi (T : TypeId) : List GV → Heap → Option (GV × Heap)
  | [.pure (.str s)], H =>
    if s.length ≤ 281474976710656 then
      (match Lib.atoiAll s with
      | .ok v => some (.pure (.tuple [.int .i64 v, .nili]), H)
      | .range => some (.pure (.tuple [.int .i64 (Lib.atoiSat s), .iface T .dead]), H)
      | _ => some (.pure (.tuple [.int .i64 0, .iface T .dead]), H))
    else none
  | _, _ => none

theorem tup2 {w : World} {S : Nat → Prop} {a b : Value} {p q : PV} (h1 : PRep w S a p) (h2 : PRep w S b q) : PRep w S (.tuple #[a, b]) (.tuple [p, q]) :=
  .tuple _ _ rfl fun j hj => by
    have : j = 0 ∨ j = 1 := by simp at hj; omega
    rcases this with rfl | rfl
    · exact h1
    · exact h2

theorem glob_iface {g : Nat} (hG : GlbRel w S) (h : globQ g = some [.anyIface]) : ∃ ev, w.cell? ⟨g, 0, none⟩ = some ev ∧ (ev = .nilIface ∨ ∃ te pe, ev = .iface te pe) := by
  obtain ⟨cc, ty, fr, h1, h2, h3⟩ := glob_heap hG h
  obtain ⟨z, z1, z2⟩ := h3 0 (by simp)
  exact ⟨z, by unfold World.cell?; simp [h1, z1], z2⟩

theorem atoi_ext (L : LaysC.n172 P ρ) (hg1 : globQ (ρ.g 15) = some [.anyIface]) (hg2 : globQ (ρ.g 16) = some [.anyIface]) : ExtOk P (ρ.f 172) (extAtoi (ρ.t 168)) := by
  intro w S μ H H' args v vs h hp hH hvs hrel
  unfold extAtoi at h
  split at h
  · rename_i s
    split at h
    · rename_i hn
      obtain ⟨v0, rfl, hv⟩ := vs_one hvs hrel
      obtain ⟨sb, rfl, rfl⟩ := hv.str_inv
      refine ⟨enters_of L.f172 (by kernel_rfl) rfl _ _, ?_⟩
      have hn' : sb.size ≤ 281474976710656 := by simpa using hn
      cases hA : Lib.atoiAll sb.data.toList with
      | ok n =>
        rw [hA] at h
        simp only [Option.some.injEq, Prod.mk.injEq] at h
        obtain ⟨rfl, rfl⟩ := h
        refine calls_in ((Any.strconv_Atoi_ok L sb (by omega) n hA w).mono ?_)
        rintro e w' ⟨rfl, hw⟩
        refine done_below hH ?_ (tup2 (.int .i64 n) .nili)
        rcases hw with rfl | ⟨t, rfl⟩
        · exact .refl _ _
        · exact Lib.bytesWorld_below _ _ _
      | range =>
        rw [hA] at h
        simp only [Option.some.injEq, Prod.mk.injEq] at h
        obtain ⟨rfl, rfl⟩ := h
        obtain ⟨ev, e1, e2⟩ := glob_iface hH.glb hg2
        refine calls_in ((Any.strconv_Atoi_range L sb hn' hA ev w e1 e2).mono ?_)
        rintro e w' ⟨N, rfl, _, _, hB⟩
        exact done_below hH hB (tup2 (.int .i64 _) (.iface _ _ _ (.dead _)))
      | _ =>
        rw [hA] at h
        simp only [Option.some.injEq, Prod.mk.injEq] at h
        obtain ⟨rfl, rfl⟩ := h
        obtain ⟨ev, e1, e2⟩ := glob_iface hH.glb hg1
        refine calls_in ((Any.strconv_Atoi_syntax L sb hn' hA ev w e1 e2).mono ?_)
        rintro e w' ⟨N, rfl, _, _, hB⟩
        exact done_below hH hB (tup2 (.int .i64 _) (.iface _ _ _ (.dead _)))
    · cases h
  · cases h

/-- (*strings.Builder).copyCheck. 'T': strings.Builder. -/
def extCopy (T : TypeId) : List GV → Heap → Option (GV × Heap)
  | [.bptr nm 0], H =>
    match H.get nm with
    | some (.box [.pure .nilp, x]) => if tyName nm.2 = some T then some (.pure (.tuple []), H.set nm (.box [.bptr nm 0, x])) else none
    | some (.box [.bptr nm' 0, _]) => if nm' = nm then some (.pure (.tuple []), H) else none
    | _ => none
  | _, _ => none

theorem unit_rel {k : Nat} : VRel w S μ k (.tuple #[]) (.pure (.tuple [])) := .pure _ _ (.tuple #[] [] rfl (fun j hj => by simp at hj))

theorem copy_ext (L : Lays.n240 P ρ) (X : Builder.X72 P ρ) : ExtOk P (ρ.f 240) (extCopy (ρ.t 72)) := by
  intro w S μ H H' args v vs h hp hH hvs hrel
  unfold extCopy at h
  split at h
  · rename_i nm
    obtain ⟨v0, rfl, hv⟩ := vs_one hvs hrel
    refine ⟨enters_of L.f240 (by kernel_rfl) rfl _ _, ?_⟩
    cases hv with
    | bptr _ _ b hl hm =>
    split at h
    · rename_i x hg
      split at h
      · rename_i hty
        simp only [Option.some.injEq, Prod.mk.injEq] at h
        obtain ⟨rfl, rfl⟩ := h
        obtain ⟨b', c, e, g1, g2, g3, g4⟩ := hH.blk _ _ hg _ _ hm
        rw [hm] at g1; cases g1
        have hT : tyE nm e = ρ.t 72 := by unfold tyE; rw [hty]
        rw [hT] at g3
        obtain ⟨u0, u1, hc, hu0, ho1, hu1⟩ : ∃ u0 u1, c = #[u0, u1] ∧ VRel w S μ nm.1 u0 (.pure .nilp) ∧ u1.oneCell' = true ∧ VRel w S μ nm.1 u1 x := by
          obtain ⟨l⟩ := c
          simp only at g4
          cases g4 with
          | cons k1 k2 k3 =>
            cases k3 with
            | cons m1 m2 m3 =>
              cases m3
              exact ⟨_, _, rfl, k2, m1, m2⟩
        have hu : u0 = .pointer none := by have := hu0.pv; cases this; rfl
        subst hu; subst hc
        have h0 : w.cell? ⟨b, 0, none⟩ = some (.pointer none) := by unfold World.cell?; simp [g3]
        have hsh : w.shape? b = some (ρ.t 72, 2) := by unfold World.shape?; simp [g3]
        have hfz : w.frozen? ⟨b, 0, none⟩ = false := by unfold World.frozen?; simp [g3]
        refine calls_in ((Any.Builder_copyCheck_fresh L X b w h0 hsh hfz).mono ?_)
        rintro e w' ⟨rfl, rfl⟩
        have hheap : ∀ q, q ≠ b → (w.setCell ⟨b, 0, none⟩ (.pointer (some ⟨b, 0, none⟩))).heap[q]? = w.heap[q]? := fun q hq => by
          simp [World.setCell, Array.getElem?_modify, Ne.symm hq]
        have hheapb : (w.setCell ⟨b, 0, none⟩ (.pointer (some ⟨b, 0, none⟩))).heap[b]? = some (.cells #[.pointer (some ⟨b, 0, none⟩), u1] (ρ.t 72) (0, 0)) := by
          simp [World.setCell, Array.getElem?_modify, g3]
        have hsz : (w.setCell ⟨b, 0, none⟩ (.pointer (some ⟨b, 0, none⟩))).heap.size = w.heap.size := by simp [World.setCell]
        generalize hw' : w.setCell ⟨b, 0, none⟩ (.pointer (some ⟨b, 0, none⟩)) = w' at *
        have ho : w'.os = w.os := by subst hw'; rfl
        have htp : w'.tape = w.tape := by subst hw'; rfl
        have hou : w'.output = w.output := by subst hw'; rfl
        have hshp : ∀ q y, w.shape? q = some y → w'.shape? q = some y := fun q y hy => by
          by_cases e0 : q = b
          · subst e0
            unfold World.shape? at hy ⊢
            rw [hheapb]; rw [g3] at hy; exact hy
          · unfold World.shape? at hy ⊢
            rw [hheap q e0]; exact hy
        obtain ⟨t1, t2⟩ := hH.turn (w' := w') (S' := S) (μ' := μ) (nm := nm) (x := .box [.bptr nm 0, x]) (H.length - 1) (Heap.get_lt hg) ho htp hou (by omega) (fun _ h => h) (fun b h => .inl h) (fun q h => by rw [hsz]; exact hH.slt q h)
          (fun q hq ho => hheap q (by
            rintro rfl
            rcases ho with ho | ho
            · exact g2 ho
            · exact ho _ hm)) hshp
          (fun q r hq => by
            by_cases e0 : q = b
            · subst e0; rw [g3] at hq; cases hq
            · exact ⟨r, by rw [hheap q e0]; exact hq⟩)
          (fun n t h => rfl) (fun t b h => h) (fun t b h => .inl ⟨t, h⟩) (fun t q h => by rw [hsz]; exact hH.lt _ _ _ h)
          ⟨b, _, e, hm, g2, by rw [hT]; exact hheapb, .cons rfl (.bptr nm 0 b (Nat.le_refl _) hm) (.cons ho1 (hu1.mono (fun _ h => h) (fun q hq => hheap q (fun e0 => g2 (e0 ▸ hq))) hshp (fun _ _ _ _ h => h) (Nat.le_refl _)) .nil)⟩
        exact ⟨_, S, μ, rfl, unit_rel, t1, t2, Heap.length_set _ _ _⟩
      · cases h
    · rename_i nm' x hg
      split at h
      · rename_i he
        subst he
        simp only [Option.some.injEq, Prod.mk.injEq] at h
        obtain ⟨rfl, rfl⟩ := h
        obtain ⟨b', c, e, g1, g2, g3, g4⟩ := hH.blk _ _ hg _ _ hm
        rw [hm] at g1; cases g1
        have h0 : w.cell? ⟨b, 0, none⟩ = some (.pointer (some ⟨b, 0, none⟩)) := by
          obtain ⟨l⟩ := c
          simp only at g4
          cases g4 with
          | cons k1 k2 k3 =>
            cases k2 with
            | bptr _ _ b2 hl2 hm2 =>
              rw [hm] at hm2; cases hm2
              unfold World.cell?; simp [g3]
        refine calls_in ((Any.Builder_copyCheck_used L X b w h0).mono ?_)
        rintro e w' ⟨rfl, rfl⟩
        exact ⟨_, S, μ, rfl, unit_rel, hH, .refl _ _ _ _, rfl⟩
      · cases h
    · cases h
  · cases h
end
end Go.Gh
