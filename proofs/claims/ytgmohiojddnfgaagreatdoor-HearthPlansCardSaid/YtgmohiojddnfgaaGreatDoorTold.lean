/- Calls of which it was found by a run of their own what they tell. -/
import Derived.Test.YtgmohiojddnfgaaGreatDoorGhost28
import Derived.Test.YtgmohiojddnfgaaGreatDoorExt
namespace Go.Gh
open Go.RowKit
set_option linter.unusedSimpArgs false
set_option linter.unusedVariables false

section
variable {w w' : World} {S : Nat → Prop} {μ : Mu} {H : Heap}

/-- A call that makes new blocks alone; of these some are not written any more. -/
theorem done_quiet (hH : HRel w S μ H) (hB : Below w.heap.size w w') {S' : Nat → Prop} (hsub : ∀ b, S b → S' b) (hrev : ∀ b, b < w.heap.size → S' b → S b) (hlt : ∀ b, S' b → b < w'.heap.size) {u : Value} {p : PV} (hu : PRep w' S' u p) :
    Done (H.length - 1) H.length w S μ (.pure p) H (.returned u) w' := by
  have hw : ∀ b, S b → w'.heap[b]? = w.heap[b]? := fun b hb => hB.block b (hH.slt b hb)
  refine ⟨u, S', μ, rfl, .pure _ _ hu, ⟨fun n x hx t b hb => ?_, hH.bnd, hH.disj, fun n t b h => Nat.lt_of_lt_of_le (hH.lt n t b h) hB.size, hlt, hH.glb.mono hsub hw⟩, ?_, rfl⟩
  · exact (hH.blk n x hx t b hb).mono hsub hw (below_shp hB) (fun _ _ _ _ h => h) (fun _ => rfl) (fun t b hm => hB.block b (hH.lt _ _ _ hm)) (fun t b hm h => hrev b (hH.lt _ _ _ hm) h)
  · exact ⟨hB.os, hB.tape, hB.output, hB.size, hsub, fun b hb _ => hB.block b hb, below_shp hB, fun b r hr => ⟨r, by rw [hB.block b (Array.getElem?_eq_some_iff.1 hr).1]; exact hr⟩, fun _ _ _ _ h => h, fun nm t b h _ => ⟨nm, t, h⟩, fun b h hb => .inl (hrev b hb h)⟩

/-- A world without names. -/
theorem hrel_bare (hS : ∀ b, S b → b < w.heap.size) (hG : GlbRel w S) : HRel w S (fun _ _ => none) [[]] :=
  ⟨fun nm x hx => by simp [Heap.get, Fr.get] at hx, fun nm t b h => by simp at h, fun nm nm' t t' b h => by simp at h, fun nm t b h => by simp at h, hS, hG⟩

/-- What was found: by pure arguments. -/
def extTold (tab : List (List PV × PV)) (args : List GV) (H : Heap) : Option (GV × Heap) :=
  match allPure ((frzVals H args).1.map canon) with
  | some ps => (match tab.find? fun x => PV.beqL x.1 ps with | some x => some (.pure x.2, (frzVals H args).2) | none => none)
  | none => none

theorem told_ext {K : Ctx} (hK : CtxOk K) {f : FuncId} {tab : List (List PV × PV)} (h : ∀ x ∈ tab, ∃ n H', gcall K (gexec K n) f (x.1.map .pure) 0 [[]] = some (.pure x.2, H')) : ExtOk K.P f (extTold tab) := by
  intro w S μ H H' args v vs he hp hH hvs hrel
  unfold extTold at he
  split at he
  · rename_i ps hps
    split at he
    · rename_i x hx
      simp only [Option.some.injEq, Prod.mk.injEq] at he
      obtain ⟨rfl, rfl⟩ := he
      have hm : x ∈ tab := List.mem_of_find?_eq_some hx
      have hb := List.find?_some hx
      have e : x.1 = ps := PV.beqL_eq _ _ hb
      obtain ⟨n, H1, hg⟩ := h x hm
      obtain ⟨S1, a1, a2, a3, a4, a5⟩ := frzVals_rel (H.length - 1) hH hrel
      have hlen : ps.length = vs.size := by
        have := congrArg List.length (allPure_some hps)
        simp at this; omega
      have hr : ∀ j, j < (x.1.map GV.pure).length → VRel w S1 (fun _ _ => none) ([([] : Fr)].length - 1) (vs.getD j undef) ((x.1.map GV.pure).getD j gdead) := fun j hj => by
        have hj1 : j < ps.length := by rw [e] at hj; simpa using hj
        have hj2 : j < (frzVals H args).1.length := by omega
        have h1 := canon_rel (a3 j (by omega))
        have e1 : canon ((frzVals H args).1.getD j gdead) = .pure (ps.getD j .dead) := by
          have e2 := congrArg (fun l => l[j]?) (allPure_some hps)
          simp only [List.getElem?_map, List.getElem?_eq_getElem hj2, List.getElem?_eq_getElem hj1, Option.map_some, Option.some.injEq] at e2
          simp [List.getD_eq_getElem?_getD, hj1, hj2, e2]
        rw [e1] at h1
        have e3 : (x.1.map GV.pure).getD j gdead = .pure (ps.getD j .dead) := by rw [e]; simp [List.getD_eq_getElem?_getD, hj1]
        rw [e3]
        exact .pure _ _ h1.pv
      obtain ⟨b1, b2⟩ := call_ok K hK (gexec_sound K hK n) hg (hrel_bare a1.slt a1.glb) (vs := vs) (by rw [e]; simp [hlen]) hr
      refine ⟨b1, CallsIn.mono b2 fun e' w' hd => ?_⟩
      obtain ⟨u, S', μ', rfl, d2, d3, d4, d5⟩ := hd
      have hB : Below w.heap.size w w' := ⟨d4.os, d4.tape, d4.out, d4.size, fun k hk => d4.same k hk (.inr fun nm t h => by cases h)⟩
      have := done_quiet a1 hB (S' := S') d4.sub (fun b hb hs => by
        rcases d4.snew b hs hb with h | ⟨nm, t, h⟩
        · exact h
        · cases h) d3.slt d2.pv
      obtain ⟨u2, S2, μ2, k1, k2, k3, k4, k5⟩ := this
      rw [a4.1] at k4
      exact ⟨u2, S2, μ2, k1, k2, k3, a2.trans k4, a4.1⟩
    · cases he
  · cases he
end
end Go.Gh
