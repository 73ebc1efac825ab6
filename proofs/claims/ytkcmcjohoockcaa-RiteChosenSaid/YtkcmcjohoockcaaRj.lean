/- A scene that is sound is told so. -/
import Derived.Test.YtkcmcjohoockcaaPc
import Derived.Test.YtkcmcjohoockcaaRl
namespace Go.Gh
open Go.Proofs
set_option linter.unusedSimpArgs false
set_option linter.unusedVariables false
set_option linter.unnecessarySimpa false
set_option maxRecDepth 100000
set_option maxHeartbeats 4000000
variable {c : Nat} {H : Heap}
/-- What was counted. -/
def CF (nt : Nat) (C : List Int) (v : Nat) (f : Nat → Nat) : Prop := C.length = nt ∧ v ≤ nt ∧ ∀ t, t < nt → C.getD t 0 = (f t : Int)
end Go.Gh


/- A scene that is sound is told so: the whole. -/
namespace Go.Gh
open Go.Proofs
set_option linter.unusedSimpArgs false
set_option linter.unusedVariables false
set_option linter.unnecessarySimpa false
set_option maxRecDepth 100000
set_option maxHeartbeats 4000000
variable {c : Nat} {H : Heap}
end Go.Gh


/- A rite that is made in a law's frame: read, frozen, run. -/
namespace Go.Gh
open Go.Proofs
set_option linter.unusedSimpArgs false
set_option linter.unusedVariables false
set_option linter.unnecessarySimpa false
set_option maxRecDepth 100000
set_option maxHeartbeats 4000000
variable {c : Nat} {H : Heap}
theorem rdC_push {f : Fr} {g : GV} {q : PV} (h : rdC H g q) : rdC (f :: H) g q := by
  cases g with
  | hdr nm es top lo len =>
    obtain ⟨rows, v, ro, a, b⟩ := h
    have := Heap.get_lt a
    exact ⟨rows, v, ro, by rw [Heap.get_cons', if_neg (by omega)]; exact a, b⟩
  | pure p => exact h
  | nils => exact h
  | _ => exact h.elim
/-- The blocks of a rite in a frame. -/
structure RV (F : Fr) (n2 n3 n5 n7 : Nat) (r : Rite) : Prop where
  g2 : ∃ v ro, v ≤ r.people.length ∧ F.get n2 = some (.arr 2 (r.people.map Person.row) v ro)
  g3 : ∃ v ro, v ≤ r.things.length ∧ F.get n3 = some (.arr 5 (r.things.map Thing.row) v ro)
  g5 : r.lapses ≠ [] → ∃ v ro, v ≤ r.lapses.length ∧ F.get n5 = some (.arr 1 (r.lapses.map irow) v ro)
  g7 : r.acts ≠ [] → ∃ v ro, v ≤ r.acts.length ∧ F.get n7 = some (.arr 9 (r.acts.map RAct.row) v ro)
  sn : r.seen = []
theorem rdC_apS' {nm : Nm} {es : Nat} {rows : List (List PV)} (h : rows ≠ [] → ∃ v ro, v ≤ rows.length ∧ H.get nm = some (.arr es rows v ro)) : rdC H (apS nm es rows) (.slice rows) := by
  unfold apS
  by_cases hr : rows = []
  · subst hr; rw [if_pos rfl]; simp
  · rw [if_neg hr]
    obtain ⟨v, ro, a, b⟩ := h hr
    exact ⟨rows, v, ro, b, a, rfl, rfl, rfl, rfl⟩
theorem RV.rd {F : Fr} {n2 n3 n5 n7 : Nat} {r : Rite} (h : RV F n2 n3 n5 n7 r) : rdG (F :: H) (riteV (H.length, n2) (H.length, n3) (H.length, n5) (H.length, n7) r) (.agg r.row) := by
  have g : ∀ k, Heap.get (F :: H) (H.length, k) = F.get k := fun k => by simp
  rw [rowR]
  unfold riteV
  rw [rdG_agg]
  simp only [rdL_cons, rdL_nil, rdC_pure, and_true, true_and]
  obtain ⟨v2, o2, a2, b2⟩ := h.g2
  obtain ⟨v3, o3, a3, b3⟩ := h.g3
  refine ⟨⟨_, v2, o2, (g _).trans b2, a2, by simp, rfl, rfl, rfl⟩, ⟨_, v3, o3, (g _).trans b3, a3, by simp, rfl, rfl, rfl⟩, by rw [h.sn]; rfl, rdC_apS' fun hr => ?_, rdC_apS' fun hr => ?_⟩
  · obtain ⟨v, o, a, b⟩ := h.g5 (by simpa using hr)
    exact ⟨v, o, by simpa using a, (g _).trans b⟩
  · obtain ⟨v, o, a, b⟩ := h.g7 (by simpa using hr)
    exact ⟨v, o, by simpa using a, (g _).trans b⟩
end Go.Gh


/- The boxes that hold a rite and a scene. -/
namespace Go.Gh
open Go.Proofs
def riteX (n2 n3 n5 n7 : Nat) (r : Rite) : Blk := .box [.pure (.int .i64 r.wide), .pure (.int .i64 r.deep), .hdr (1, n2) 2 r.people.length 0 r.people.length, .hdr (1, n3) 5 r.things.length 0 r.things.length, .nils, apS (1, n5) 1 (r.lapses.map irow), apS (1, n7) 9 (r.acts.map RAct.row)]
end Go.Gh


/- A copy of a rite that lies in blocks. -/
namespace Go.Gh
open Go.Proofs
set_option linter.unusedSimpArgs false
set_option linter.unusedVariables false
set_option linter.unnecessarySimpa false
set_option maxRecDepth 100000
set_option maxHeartbeats 4000000
variable {c : Nat} {H : Heap}
theorem gelems_rd {g : GV} {l : List (List PV)} (h : rdC H g (.slice l)) : gelems H g = some (l, H) := by
  cases g with
  | hdr nm es top lo len =>
    obtain ⟨rows, v, ro, a, b, h1, h2, h3, h4⟩ := h
    subst h1 h2 h3; cases h4
    simp [gelems, sliceOf, a, b]
  | pure p => cases h; rfl
  | nils => cases h; rfl
  | _ => exact h.elim
theorem ints_rd {g : GV} (l : List Int) (hn : l.length ≤ 1000000) (hg : rdC H g (.slice (l.map irow))) (hH : 0 < H.length) : gcall KC (geval KC) 31 [g] c H = some (.pure (.slice (l.map irow)), H) := by
  have hb : l.length * 8 ≤ 1099511627776 := by omega
  have A := apK_from (H := H) (l := H.length) (key := 5) (es := 1) (bytes := 8) (rows := l.map irow) (fr := []) rfl rfl (by simpa using hb)
  have hall : ∀ x : Int, (irow x).length = 1 := fun x => rfl
  have E := gelems_rd (rdC_push (f := []) hg)
  cases g with
  | hdr nm es top lo len =>
    refine WPv_eq (call_enterR KC needT Try.func31 rfl rfl good31 rfl rfl rfl (by simp) hH ?_)
    simp [A, hall, E, -gelems_hdr]
    rw [gleave_free]
    · rw [WPv_some, cc_apS rfl (by omega)]
    · simp
  | pure p => cases hg; exact ints_ok l hn hH
  | nils =>
    have hl : l = [] := by
      have := hg
      simp [rdC] at this
      exact this
    subst hl
    refine WPv_eq (call_enter KC needT Try.func31 rfl rfl good31 rfl rfl rfl (by simp) hH ?_)
    simp
    rw [gleave_free]
    · rw [WPv_some]
      simp
    · simp
  | _ => exact hg.elim
theorem rdC_can1 {g : GV} {q : PV} (h : rdC H g q) : rdC H (canon1 g) q := by
  cases g with
  | nils => exact h.symm
  | pure p => exact h
  | hdr => exact h
  | _ => exact h.elim
theorem own_leave (r : Rite) (hf1 : H.get (H.length - 1, newKey c 6) = none) (hf2 : H.get (H.length - 1, newKey c 10) = none) (hf3 : H.get (H.length - 1, newKey c 22) = none) (x y : Blk) :
    gleave KC 11 c (ownG (H.length, 6) (H.length, 10) (H.length, 22) r) (apF 22 9 (r.acts.map RAct.row) (apF 10 5 (r.things.map Thing.row) (apF 6 2 (r.people.map Person.row) [(1, x), (2, y)])) :: H) =
      some (ownG (H.length - 1, newKey c 6) (H.length - 1, newKey c 10) (H.length - 1, newKey c 22) r, ownH H (H.length - 1, newKey c 6) (H.length - 1, newKey c 10) (H.length - 1, newKey c 22) r) := by
  have n12 : newKey c 6 ≠ newKey c 10 := by unfold newKey; omega
  have n13 : newKey c 6 ≠ newKey c 22 := by unfold newKey; omega
  have n23 : newKey c 10 ≠ newKey c 22 := by unfold newKey; omega
  have nn : ∀ a b : Nat, a ≠ b → ((H.length - 1, b) : Nm) ≠ (H.length - 1, a) := fun a b h e => h (Prod.mk.inj e).2.symm
  have gg : ∀ (H' : Heap) (a b : Nat) (x : Blk), a ≠ b → (H'.set (H.length - 1, a) x).get (H.length - 1, b) = H'.get (H.length - 1, b) := fun H' a b x h => Heap.get_set_other x (nn a b h)
  have d2 := fun x => (gg H _ _ x n12).trans hf2
  have d3 := fun x => (gg H _ _ x n13).trans hf3
  have d3' := fun x => (gg H _ _ x n23).trans hf3
  have d4 := fun x y => (gg (H.set (H.length - 1, newKey c 6) x) _ _ y n23).trans (d3 x)
  unfold ownG ownH
  by_cases e1 : r.people = []
  · by_cases e2 : r.things = []
    · by_cases e3 : r.acts = []
      · simp [e1, e2, e3, apS, apF, gleave_keep, refs, refs2, refs1, dedup, moveOut, cleanBlk, ren, ren2, ren1, apSet, hf1, hf2, hf3, d2, d3, d3', d4]
      · simp [e1, e2, e3, apS, apF, gleave_keep, refs, refs2, refs1, dedup, moveOut, cleanBlk, ren, ren2, ren1, apSet, hf1, hf2, hf3, d2, d3, d3', d4]
    · by_cases e3 : r.acts = []
      · simp [e1, e2, e3, apS, apF, gleave_keep, refs, refs2, refs1, dedup, moveOut, cleanBlk, ren, ren2, ren1, apSet, hf1, hf2, hf3, d2, d3, d3', d4]
      · simp [e1, e2, e3, apS, apF, gleave_keep, refs, refs2, refs1, dedup, moveOut, cleanBlk, ren, ren2, ren1, apSet, hf1, hf2, hf3, d2, d3, d3', d4]
  · by_cases e2 : r.things = []
    · by_cases e3 : r.acts = []
      · simp [e1, e2, e3, apS, apF, gleave_keep, refs, refs2, refs1, dedup, moveOut, cleanBlk, ren, ren2, ren1, apSet, hf1, hf2, hf3, d2, d3, d3', d4]
      · simp [e1, e2, e3, apS, apF, gleave_keep, refs, refs2, refs1, dedup, moveOut, cleanBlk, ren, ren2, ren1, apSet, hf1, hf2, hf3, d2, d3, d3', d4]
    · by_cases e3 : r.acts = []
      · simp [e1, e2, e3, apS, apF, gleave_keep, refs, refs2, refs1, dedup, moveOut, cleanBlk, ren, ren2, ren1, apSet, hf1, hf2, hf3, d2, d3, d3', d4]
      · simp [e1, e2, e3, apS, apF, gleave_keep, refs, refs2, refs1, dedup, moveOut, cleanBlk, ren, ren2, ren1, apSet, hf1, hf2, hf3, d2, d3, d3', d4]
theorem ownR_at {F : Fr} {n2 n3 n5 n7 : Nat} {r : Rite} (h : Short r) (hV : RV F n2 n3 n5 n7 r)
    (hf1 : F.get (newKey c 6) = none) (hf2 : F.get (newKey c 10) = none) (hf3 : F.get (newKey c 22) = none) :
    gcall KC (geval KC) 11 [riteV (H.length, n2) (H.length, n3) (H.length, n5) (H.length, n7) r] c (F :: H) =
      some (ownG (H.length, newKey c 6) (H.length, newKey c 10) (H.length, newKey c 22) r, apF (newKey c 22) 9 (r.acts.map RAct.row) (apF (newKey c 10) 5 (r.things.map Thing.row) (apF (newKey c 6) 2 (r.people.map Person.row) F)) :: H) := by
  refine WPv_eq (call_enterR KC needT Try.func11 rfl rfl good11 rfl rfl rfl (by simp) (by simp) ?_)
  have h1 := h.p
  have h2 := h.t
  have h3 := h.a
  have b1 : r.people.length * 16 ≤ 1099511627776 := by omega
  have b2 : r.things.length * 40 ≤ 1099511627776 := by omega
  have b3 : r.acts.length * 72 ≤ 1099511627776 := by omega
  have l1 : ∀ x : Person, x.row.length = 2 := fun x => rfl
  have l2 : ∀ x : Thing, x.row.length = 5 := fun x => rfl
  have l3 : ∀ x : RAct, x.row.length = 9 := fun x => rfl
  have R0 := hV.rd (H := H)
  rw [rowR] at R0
  unfold riteV at R0
  rw [rdG_agg] at R0
  simp only [rdL_cons, rdL_nil, rdC_pure, and_true, true_and] at R0
  obtain ⟨r2, r3, r4, r5, r7⟩ := R0
  have E2 := fun f => gelems_rd (rdC_push (f := f) r2)
  have E3 := fun f => gelems_rd (rdC_push (f := f) r3)
  replace r5 := rdC_can1 r5
  replace r7 := rdC_can1 r7
  obtain ⟨g5, e5⟩ : ∃ g, canon1 (apS (H.length, n5) 1 (r.lapses.map irow)) = g := ⟨_, rfl⟩
  obtain ⟨g7, e7⟩ : ∃ g, canon1 (apS (H.length, n7) 9 (r.acts.map RAct.row)) = g := ⟨_, rfl⟩
  rw [e5] at r5
  rw [e7] at r7
  have E7 := fun f => gelems_rd (rdC_push (f := f) r7)
  have I1 := fun c f => ints_ok (c := c) (H := f :: F :: H) [] (by simp) (by simp)
  simp only [List.map_nil] at I1
  have e4 : r.seen = [] := hV.sn
  have I2 := fun c f => ints_rd (c := c) r.lapses h.l (rdC_push (f := f) r5) (by simp)
  have A1 := fun fr hf => apK_from (H := F :: H) (l := (F :: H).length) (key := 6) (es := 2) (bytes := 16) (rows := r.people.map Person.row) (fr := fr) rfl hf (by simpa using b1)
  have A2 := fun fr hf => apK_from (H := F :: H) (l := (F :: H).length) (key := 10) (es := 5) (bytes := 40) (rows := r.things.map Thing.row) (fr := fr) rfl hf (by simpa using b2)
  have A3 := fun fr hf => apK_from (H := F :: H) (l := (F :: H).length) (key := 22) (es := 9) (bytes := 72) (rows := r.acts.map RAct.row) (fr := fr) rfl hf (by simpa using b3)
  simp only [List.length_cons] at A1 A2 A3
  unfold riteV
  simp [A1, A2, A3, l1, l2, l3, I1, I2, E2, E3, E7, e5, e7, -gelems_hdr]
  have L := fun x y => own_leave (c := c) (H := F :: H) r (by simpa using hf1) (by simpa using hf2) (by simpa using hf3) x y
  unfold ownG at L
  rw [e4] at L
  simp only [List.map_nil, List.length_cons, Nat.add_sub_cancel] at L
  rw [L, WPv_some]
  unfold ownG ownH
  rw [apSet_1 rfl, apSet_1 rfl, apSet_1 rfl, e4]
  simp
end Go.Gh
