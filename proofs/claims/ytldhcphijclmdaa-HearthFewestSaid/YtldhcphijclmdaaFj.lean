/- FireOf that keeps its blocks; OwnFire and OwnPours that do not; calls with a value that lies in blocks. -/
import Derived.Test.YtldhcphijclmdaaFi
namespace Go.Gh
open Go.Proofs
set_option linter.unusedSimpArgs false
set_option linter.unusedVariables false
set_option maxRecDepth 100000
set_option maxHeartbeats 4000000

theorem gcall_g1 {K : Ctx} {rec : Rec} {f c : Nat} {H H' : Heap} {g c1 : GV} {p : PV} (h1 : K.frz f = true) (hz : frzVal H g = (c1, H')) (hc : canon c1 = canon (.pure p)) : gcall K rec f [g] c H = gcall K rec f [.pure p] c H' := by
  have e0 : frzVals H [g] = ([c1], H') := by
    unfold frzVals
    rw [hz]
    simp only
    unfold frzVals
    rfl
  refine gcall_canon (args' := [.pure p]) (H' := H') h1 ?_ ?_ (by simp [frzVals, frzVal_pure])
  · rw [e0]; simp only [List.map_cons, List.map_nil, hc]
  · rw [e0]
theorem gcall_g2 {K : Ctx} {rec : Rec} {f c : Nat} {H H' : Heap} {g c1 : GV} {p q : PV} (h1 : K.frz f = true) (hz : frzVal H g = (c1, H')) (hc : canon c1 = canon (.pure p)) : gcall K rec f [g, .pure q] c H = gcall K rec f [.pure p, .pure q] c H' := by
  have e0 : frzVals H [g, .pure q] = ([c1, .pure q], H') := by
    unfold frzVals
    rw [hz]
    simp only
    unfold frzVals
    rw [frzVal_pure]
    simp only
    unfold frzVals
    rfl
  refine gcall_canon (args' := [.pure p, .pure q]) (H' := H') h1 ?_ ?_ (by simp [frzVals, frzVal_pure])
  · rw [e0]; simp only [List.map_cons, List.map_nil, hc]
  · rw [e0]
theorem gcall_g3 {K : Ctx} {rec : Rec} {f c : Nat} {H H' : Heap} {g c1 : GV} {p q : PV} (h1 : K.frz f = true) (hz : frzVal H g = (c1, H')) (hc : canon c1 = canon (.pure p)) : gcall K rec f [.pure q, g] c H = gcall K rec f [.pure q, .pure p] c H' := by
  have e0 : frzVals H [.pure q, g] = ([.pure q, c1], H') := by
    unfold frzVals
    rw [frzVal_pure]
    simp only
    unfold frzVals
    rw [hz]
    simp only
    unfold frzVals
    rfl
  refine gcall_canon (args' := [.pure q, .pure p]) (H' := H') h1 ?_ ?_ (by simp [frzVals, frzVal_pure])
  · rw [e0]; simp only [List.map_cons, List.map_nil, hc]
  · rw [e0]

variable {keep : Nat → Bool} (hk : ∀ f, kept f = false → keep f = false) {c : Nat} {H : Heap}
theorem ownPoursP_ok (h22 : keep 22 = false) {l : List Pour} (hl : l.length ≤ 1000) (hH : 0 < H.length) :
    gcall (KC keep) (geval (KC keep)) 22 [.pure (.slice (l.map Pour.row))] c H = some (.pure (.slice (l.map Pour.row)), H) := by
  refine WPv_eq (call_enter (KC keep) needT Try.func22 rfl rfl good22 rfl (by simp) hH ?_)
  have hll : ¬ H.length + 1 ≤ H.length := by omega
  have hlt : H.length - 1 < H.length := by omega
  have r3 : ∀ x : Pour, x.row.length = 3 := fun _ => rfl
  by_cases hz : l = []
  · subst hz
    simp [gleave_free, h22]
  · have hb : l.length * 24 ≤ 1099511627776 := by omega
    have hr : l.map Pour.row ≠ [] := by simpa using hz
    have cc := cc_apS (H := H) (key := 5) (fr := []) (l := H.length) (l0 := H.length - 1) (es := 3) (rows := l.map Pour.row) rfl hlt
    simp [apS, apF, hz] at cc
    simp [hz, hb, hll, r3, gleave_free, h22, cc]
theorem ownFireP_ok (h21 : keep 21 = false) {cs : List Coal} {ts : List Touch} (h1 : cs.length ≤ 1000) (h2 : ts.length ≤ 1000) (hH : 0 < H.length) :
    gcall (KC keep) (geval (KC keep)) 21 [.pure (.agg [.slice (cs.map Coal.row), .slice (ts.map Touch.row)])] c H = some (.pure (.agg [.slice (cs.map Coal.row), .slice (ts.map Touch.row)]), H) := by
  refine WPv_eq (call_enter (KC keep) needT Try.func21 rfl rfl good21 rfl (by simp) hH ?_)
  have hb : cs.length * 56 ≤ 1099511627776 := by omega
  have hb2 : ts.length * 16 ≤ 1099511627776 := by omega
  have hll : ¬ H.length + 1 ≤ H.length := by omega
  have hlt : H.length - 1 < H.length := by omega
  have r7 : ∀ x : Coal, x.row.length = 7 := fun _ => rfl
  have r2 : ∀ x : Touch, x.row.length = 2 := fun _ => rfl
  have hnl : ¬ H.length ≤ H.length - 1 := by omega
  have t1 : List.take cs.length (cs.map Coal.row) = cs.map Coal.row := List.take_of_length_le (by simp)
  have t2 : List.take ts.length (ts.map Touch.row) = ts.map Touch.row := List.take_of_length_le (by simp)
  by_cases hz : cs = []
  · by_cases hz2 : ts = []
    · subst hz; subst hz2
      simp [gleave_free, h21]
    · subst hz
      simp [hz2, hb2, hll, r7, r2, gleave_free, h21, hnl, t1, t2]
  · by_cases hz2 : ts = []
    · subst hz2
      simp [hz, hb, hll, r7, r2, gleave_free, h21, hnl, t1, t2]
    · simp [hz, hz2, hb, hb2, hll, r7, r2, gleave_free, h21, hnl, t1, t2]

include hk in
theorem fireOfK_ok {nm : Nm} {m : Int} (hm : 0 ≤ m ∧ m ≤ 100) (hB : isBox H nm) (h16 : keep 16 = true) (hf1 : H.get (H.length - 1, newKey c 33) = none) (hf2 : H.get (H.length - 1, newKey c 67) = none) :
    gcall (KC keep) (geval (KC keep)) 16 [.bptr nm 0, .pure (.int .i64 m)] c H =
    some (.agg [apS (H.length - 1, newKey c 33) 7 ((fireR m (wordAt H nm)).1.coals.map Coal.row), apS (H.length - 1, newKey c 67) 2 ((fireR m (wordAt H nm)).1.touches.map Touch.row)],
      (if (fireR m (wordAt H nm)).1.touches = [] then id else fun H' : Heap => H'.set (H.length - 1, newKey c 67) (.arr 2 ((fireR m (wordAt H nm)).1.touches.map Touch.row) 0 false))
        (if (fireR m (wordAt H nm)).1.coals = [] then H.set nm (wbox (fireR m (wordAt H nm)).2) else (H.set nm (wbox (fireR m (wordAt H nm)).2)).set (H.length - 1, newKey c 33) (.arr 7 ((fireR m (wordAt H nm)).1.coals.map Coal.row) 0 false))) := by
  have hl := isBox_lt hB
  have hs := isBox_set hB
  have hne : ¬ nm.1 = H.length := by omega
  have hnn1 : (H.length - 1, newKey c 33) ≠ nm := by
    intro e
    rw [e] at hf1
    obtain ⟨w, h1, _⟩ := hB
    rw [h1] at hf1; cases hf1
  have hnn2 : (H.length - 1, newKey c 67) ≠ nm := by
    intro e
    rw [e] at hf2
    obtain ⟨w, h1, _⟩ := hB
    rw [h1] at hf2; cases hf2
  have hn : newKey c 33 ≠ newKey c 67 := by unfold newKey; omega
  refine WPv_eq (call_enter (KC keep) needT Try.func16 rfl rfl good16 rfl (by simp) (by omega) ?_)
  have hlt : H.length - 1 < H.length := by omega
  have hB' : ∀ fr, isBox (fr :: H) nm := fun fr => isBox_up hB
  have hB2 : ∀ fr w, isBox (fr :: H.set nm (wbox w)) nm := fun fr w => isBox_up (isBox_set' hl)
  have hl2 : ∀ w, nm.1 < (H.set nm (wbox w)).length := fun w => by simpa using hl
  have hw := w64 (x := m + 1) (by omega) (by omega)
  have hu : m + 1 ≤ 9223372036854775807 := by omega
  have hr := upR_rng (wordAt H nm) (m + 1) (by omega)
  rw [fireR_def, hw]
  generalize hw0 : wordAt H nm = w0 at *
  generalize hk0 : upR w0 (m + 1) = k0 at *
  obtain ⟨kk, hkk⟩ : ∃ kk : Nat, k0.1 = kk := ⟨k0.1.toNat, by omega⟩
  have hk9 : kk ≤ 100 := by omega
  simp [hw, up_ok hk, hu, hB', hne, hl, wordAt_up, hw0, hk0, hkk]
  have h1 := fun Q => fire_loop1 hk hB Q kk k0.2 [] (by simp; omega)
  simp [apS_nil, apF_nil] at h1
  refine h1 _ ?_
  clear h1
  have hcl := coalsR_len kk k0.2
  generalize coalsR kk k0.2 = cs at *
  have hw2 := w64 (x := 2 * (cs.1.length : Int)) (by omega) (by omega)
  have hw3 := w64 (x := 2 * (cs.1.length : Int) + 1) (by omega) (by omega)
  have hu2 : 2 * (cs.1.length : Int) + 1 ≤ 9223372036854775807 := by omega
  have hr2 := upR_rng cs.2 (2 * (cs.1.length : Int) + 1) hu2
  generalize hq0 : upR cs.2 (2 * (cs.1.length : Int) + 1) = q0 at *
  obtain ⟨qq, hqq⟩ : ∃ qq : Nat, q0.1 = qq := ⟨q0.1.toNat, by omega⟩
  have hq9 : qq ≤ 1000 := by omega
  simp [hw2, hw3, up_ok hk, hu2, hB2, hne, hl, hl2, wordAt_up, hq0, hqq]
  have h2 := fun Q => fire_loop2 hk hB (cs.1.map Coal.row) cs.1.length (by omega) Q qq q0.2 [] (by simp; omega)
  simp [apS_nil, apF_nil] at h2
  refine h2 _ ?_
  clear h2
  generalize touchesR (cs.1.length : Int) (if 1 < cs.1.length then qq else 0) q0.2 = ts at *
  have g1 : ∀ w, (H.set nm (wbox w)).get (H.length - 1, newKey c 33) = none := fun w => (Heap.get_set_other _ hnn1).trans hf1
  have g2 : ∀ w, (H.set nm (wbox w)).get (H.length - 1, newKey c 67) = none := fun w => (Heap.get_set_other _ hnn2).trans hf2
  have g3 : ∀ w b, ((H.set nm (wbox w)).set (H.length - 1, newKey c 33) b).get (H.length - 1, newKey c 67) = none := fun w b => (Heap.get_set_other b (by intro e; exact hn (Prod.mk.inj e).2.symm)).trans (g2 w)
  by_cases hz : cs.1 = []
  · by_cases hz2 : ts.1 = []
    · simp [hz, hz2, apS, apF, gleave_keep, h16, refs, refs2, refs1, dedup, moveOut, cleanBlk, g1, g2, g3, ren, ren2, ren1]
    · simp [hz, hz2, apS, apF, gleave_keep, h16, refs, refs2, refs1, dedup, moveOut, cleanBlk, g1, g2, g3, ren, ren2, ren1]
  · by_cases hz2 : ts.1 = []
    · simp [hz, hz2, apS, apF, gleave_keep, h16, refs, refs2, refs1, dedup, moveOut, cleanBlk, g1, g2, g3, ren, ren2, ren1]
    · simp [hz, hz2, apS, apF, gleave_keep, h16, refs, refs2, refs1, dedup, moveOut, cleanBlk, g1, g2, g3, ren, ren2, ren1]
end Go.Gh
