/-
  Proved here: for every list of numbers and every text HearthWritten returns true and leaves its arguments as they were. No condition; the listed package variables are tied to the program's text (the card).
-/
import Derived.Test.YtgmohiojddnfgaaDoorWA
import Derived.Test.YtgmohiojddnfgaaDoorCtx
import Derived.Test.YtgmohiojddnfgaaDoorLink3
import Derived.Test.YtgmohiojddnfgaaDoorTie
import Derived.Test.YtgmohiojddnfgaaDoorCards
import Derived.Lay
namespace Go.Proofs.YtgmohiojddnfgaaDoor
open Go.Gh Go.RowKit Go.ChangeShapes Go.WideShapes
set_option maxRecDepth 100000

theorem own : ownKnob Tryd.prog.godebug = none := by kernel_rfl
theorem laidOut : laidOutB Tryd.prog = true := by kernel_rfl

theorem door_met (os : Os) (args : Array Value) : laidMetH Tryd.prog Rows.hearthWrittenRow.laid ((World.laidAll Tryd.prog os Rows.hearthWrittenRow.laid).forCall (fun _ _ => 0) ⟨#[], args, []⟩).memory := by
  rw [MakeChecks.laidMetH_plain _ _ _ (by kernel_rfl)]
  exact laidMet_laidAll _ (by kernel_rfl) (by kernel_rfl)

theorem glb_known (W : World) (hS : W.ShapedOpen Tryd.prog) (h : laidMetH Tryd.prog Rows.hearthWrittenRow.laid W) : GlbRel W (S0 W) := by
  intro g cs hg
  rw [MakeChecks.laidMetH_plain _ _ _ (by kernel_rfl)] at h
  have hg4 : g = 1 ∨ g = 2 ∨ g = 3 ∨ g = 4 := by
    unfold globQ globT at hg
    by_cases e1 : g = 1
    · exact .inl e1
    by_cases e2 : g = 2
    · exact .inr (.inl e2)
    by_cases e3 : g = 3
    · exact .inr (.inr (.inl e3))
    by_cases e4 : g = 4
    · exact .inr (.inr (.inr e4))
    have f1 : (1 == g) = false := by simp; omega
    have f2 : (2 == g) = false := by simp; omega
    have f3 : (3 == g) = false := by simp; omega
    have f4 : (4 == g) = false := by simp; omega
    simp [List.find?, f1, f2, f3, f4] at hg
  rcases hg4 with rfl | rfl | rfl | rfl
  · have hcs : globQ 1 = some (Lib.pow10Tab.map fun z => GQ.int .u64 z) := by kernel_rfl
    rw [hcs] at hg
    cases hg
    exact glb_tab (name := (Rows.hearthWrittenRow.laid[2]'(by decide)).1) (i := 2) (t := 208) (e := 97) (n := 20) h (by kernel_rfl) (by kernel_rfl) (by kernel_rfl) (by kernel_rfl) (by kernel_rfl) (by kernel_rfl) (by kernel_rfl)
  · have hcs : globQ 2 = some [GQ.anyInt .i64] := by kernel_rfl
    rw [hcs] at hg
    cases hg
    exact glb_int (t := 3) (zero := #[.int .i64 0]) hS (of_decide_eq_true (by kernel_rfl)) (by kernel_rfl) rfl (by kernel_rfl) (by kernel_rfl) (by kernel_rfl)
  · have hcs : globQ 3 = some [GQ.anyIface] := by kernel_rfl
    rw [hcs] at hg
    cases hg
    exact glb_iface (name := (Rows.hearthWrittenRow.laid[5]'(by decide)).1) (d := (Rows.hearthWrittenRow.laid[5]'(by decide)).2) (i := 5) (t := 106) (m := #[("Error", 111)]) h (by kernel_rfl) (by kernel_rfl) (by kernel_rfl) (by kernel_rfl)
  · have hcs : globQ 4 = some [GQ.anyIface] := by kernel_rfl
    rw [hcs] at hg
    cases hg
    exact glb_iface (name := (Rows.hearthWrittenRow.laid[4]'(by decide)).1) (d := (Rows.hearthWrittenRow.laid[4]'(by decide)).2) (i := 4) (t := 106) (m := #[("Error", 111)]) h (by kernel_rfl) (by kernel_rfl) (by kernel_rfl) (by kernel_rfl)

theorem shp_ints {n : Nat} {p : PV} (h : ArgP Tryd.prog (n + 2) 37 p) : ∃ l : List Int, l.length ≤ maxLen ∧ p = .slice (l.map irow) := by
  have h33 : Tryd.prog.underlying 37 = some (.slice 3) := Tryd.underlying37
  have h3 : Tryd.prog.underlying 3 = some (.int .i64) := Tryd.underlying3
  unfold ArgP at h
  rw [h33] at h
  simp only [Shp, h33, h3] at h
  obtain ⟨rows, h1, h2, h4⟩ := h
  have key : ∀ rows : List (List PV), (∀ r ∈ rows, ∃ m, (Lit.int .i64 m).wf = true ∧ r = [.int .i64 m]) → ∃ l : List Int, rows = l.map irow := by
    intro rows
    induction rows with
    | nil => intro _; exact ⟨[], rfl⟩
    | cons r rs ih =>
      intro h
      obtain ⟨m, _, rfl⟩ := h _ (List.mem_cons_self ..)
      obtain ⟨l, rfl⟩ := ih (fun r hr => h r (List.mem_cons_of_mem _ hr))
      exact ⟨m :: l, rfl⟩
  obtain ⟨l, rfl⟩ := key rows (fun r hr => (h2 r hr).2)
  simp only [List.cons.injEq, and_true] at h4
  exact ⟨l, by simpa using h1, h4⟩
theorem shp_str {n : Nat} {p : PV} (h : ArgP Tryd.prog (n + 1) 9 p) : ∃ l : List UInt8, l.length ≤ maxLen ∧ p = .str l := by
  have h9 : Tryd.prog.underlying 9 = some .string := Tryd.underlying9
  unfold ArgP at h
  rw [h9] at h
  simp only [Shp, h9] at h
  obtain ⟨l, h1, h2⟩ := h
  simp only [List.cons.injEq, and_true] at h2
  exact ⟨l, h1, h2⟩
theorem argsP_two {P : Program} {n : Nat} {a b : TypeId} {pvs : List PV} (h : ArgsP P n [a, b] pvs) : ∃ p q, pvs = [p, q] ∧ ArgP P n a p ∧ ArgP P n b q := by
  match pvs, h with
  | [p, q], h => exact ⟨p, q, rfl, h.1, h.2.1⟩

theorem hearthWritten_lifted (os : Os) (started : os.Started) (H : Type) (enc : TypeId × Value → H) :
    ReturnsInHanded {} Tryd.checked os 4 .any (fun w args => (Rows.hearthWrittenSpec.pre enc Tryd.prog Tryd.f4 [] false w args ∧ laidMetH Tryd.prog Rows.hearthWrittenRow.laid w) ∧ sizedMet enc Tryd.prog Tryd.f4 (OpenSpec.ofChange Rows.hearthWrittenSpec) false w args)
      (Rows.hearthWrittenSpec.post enc Tryd.prog Tryd.f4 false true false false) := by
  refine law_laid (C := Tryd.checked) ctxOk (geval_sound KC ctxOk) rfl 6 Rows.hearthWrittenRow.laid (fun W hS h => glb_known W hS h) own started (by kernel_rfl) laidOut Tryd.func4 rfl (fun ds hds => ?_) (tb := 4) rfl Tryd.underlying4 (by kernel_rfl)
    (ChangeSpec.witness_shaped (enc := enc) (C := Tryd.checked) (os := os) (X := fun w _ => laidMetH Tryd.prog Rows.hearthWrittenRow.laid w) false (World.laidAll Tryd.prog os Rows.hearthWrittenRow.laid) #[.slice none 0 0, .string ByteArray.empty] 8 (World.laidAll_os _ _ _) (World.shaped_of_ZipB (by kernel_rfl) (by kernel_rfl)) (by kernel_rfl) (by kernel_rfl) (by kernel_rfl) (door_met os _)) ?_
  · match ds, hds with
    | [d1, d2], _ => rfl
  · intro pvs h
    have e : Tryd.f4.params.toList = [37, 9] := by kernel_rfl
    rw [e] at h
    obtain ⟨p, q, rfl, hp, hq⟩ := argsP_two h
    obtain ⟨l, hl, rfl⟩ := shp_ints hp
    obtain ⟨s, hs, rfl⟩ := shp_str hq
    exact law4 l hl s hs

theorem hearthWritten_row : Rows.HearthWrittenSaid :=
  OpenClaim.holds_of_wide 4 Tryd.f4 rfl rfl rfl rfl rfl rfl rfl ⟨rfl, rfl, rfl, rfl, rfl⟩ rfl rfl rfl rfl rfl (by kernel_rfl) Tryd.func4 (by kernel_rfl)
    (of_decide_eq_true (by kernel_rfl)) (by unfold Func.isWrapper; first | (rw [if_pos (by decide +kernel)]; kernel_rfl) | (rw [if_neg (by decide +kernel)]; exact ⟨rfl, rfl⟩))
    (fun os started H enc _ => hearthWritten_lifted os started H enc)

theorem hearthWritten_holds : Rows.HearthWrittenCardSaid :=
  Claim7.holds_tied_plain_at .later [] [.data, .data, .data, .data, .sentinel, .sentinel, .pinned] true (true, Rows.hearthWrittenCard.stood.harness.2) true
    hearthWritten_row (fun _ h => by cases h) (by kernel_rfl) (fun _ h => by cases h) hearthWritten_row_tie rfl ⟨rfl, rfl⟩ (by kernel_rfl) rfl
    (fun f fn hf hfn => by
      obtain rfl : f = 4 := Option.some.inj ((show Tryd.prog.funcNamed Rows.hearthWrittenRow.func = some 4 by kernel_rfl).symm.trans hf) |>.symm
      obtain rfl : fn = Tryd.f4 := (Option.some.inj (Tryd.func4.symm.trans hfn)).symm
      exact ⟨by kernel_rfl, fun j t ht => by
        have e : Tryd.f4.params = #[37, 9] := by kernel_rfl
        rw [e] at ht
        have hm : t ∈ [37, 9] := by simpa using Array.mem_of_getElem? ht
        have hall : ([37, 9].all fun u => !Tryd.prog.wantsStandIn u) = true := by kernel_rfl
        exact (show Tryd.prog.wantsStandIn t = false by simpa using List.all_eq_true.1 hall t hm)⟩)
    (by kernel_rfl)
#print axioms hearthWritten_holds
end Go.Proofs.YtgmohiojddnfgaaDoor
