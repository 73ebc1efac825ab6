/- Texts joined: the evaluator over ghost values, its soundness, the walks. Spaces struck and names made short by a program, for the size. -/
import Derived.Test.YtgmohiojddnfgaaGreatDoorGc6g
import Derived.Test.YtgmohiojddnfgaaGreatDoorGc6h
namespace Go.Gh
open Go.Proofs
set_option linter.unusedVariables false
set_option linter.unusedSimpArgs false
set_option linter.unnecessarySimpa false
set_option maxRecDepth 100000
set_option maxHeartbeats 8000000
section
variable {c : Nat} {H : Heap}
theorem eqI_loop (l : List Int) (hn : l.length ≤ 1000000) (Q : GX → GSt → Prop) (hH : 0 < H.length) : ∀ k i : Nat, i + k = l.length →
  Q (.exit 0) ⟨[(4, gdead)], H, 26⟩ →
  WPL KC needT 33 (lp Tryz.f33 0) [0, 1, 5] [4] Q [(0, .pure (.slice (l.map irow))), (1, .pure (.slice (l.map irow))), (5, .pure (.int .i64 i))] H 26 := by
 intro k
 induction k with
 | zero =>
  intro i hi h1
  apply WPL_step
  conv => arg 4; whnf
  have : ¬ i < l.length := by omega
  simp [this, hH]
  exact h1
 | succ k ih =>
  intro i hi h1
  have hia : i < l.length := by omega
  have hw := w64 (x := (i : Int) + 1) (by omega) (by omega)
  have ih' := ih (i + 1) (by omega) h1
  apply WPL_step
  conv => arg 4; whnf
  simp [hia, hH, irow, hw]
  simpa [irow] using ih'
theorem eqI_ok (l : List Int) (hn : l.length ≤ 1000000) (hH : 0 < H.length) :
  gcall KC (geval KC) 33 [.pure (.slice (l.map irow)), .pure (.slice (l.map irow))] c H = some (.pure (.bool true), H) := by
 refine WPv_eq (call_enter KC needT Tryz.func33 rfl rfl good33 rfl rfl rfl (by simp) hH ?_)
 simp
 refine eqI_loop (H := [] :: H) l hn _ (by simp) l.length 0 (by omega) ?_
 simp [gleave_free]
end
section
variable {c : Nat} {H : Heap}
theorem eqLs_loop (l : List (List Int)) (hn : l.length ≤ 1000000) (hs : ∀ a ∈ l, a.length ≤ 1000000) (Q : GX → GSt → Prop) (hH : 0 < H.length) : ∀ k i : Nat, i + k = l.length →
  Q (.exit 0) ⟨[(4, gdead)], H, 27⟩ →
  WPL KC needT 75 (lp Tryz.f75 0) [0, 1, 5] [4] Q [(0, .pure (.slice (l.map arow))), (1, .pure (.slice (l.map arow))), (5, .pure (.int .i64 i))] H 27 := by
 intro k
 induction k with
 | zero =>
  intro i hi h1
  apply WPL_step
  conv => arg 4; whnf
  have : ¬ i < l.length := by omega
  simp [this, hH]
  exact h1
 | succ k ih =>
  intro i hi h1
  have hia : i < l.length := by omega
  have hw := w64 (x := (i : Int) + 1) (by omega) (by omega)
  have ih' := ih (i + 1) (by omega) h1
  have hla := hs _ (List.getElem_mem hia)
  have E := fun c (H : Heap) (hH : 0 < H.length) => eqI_ok (c := c) (H := H) l[i] hla hH
  apply WPL_step
  conv => arg 4; whnf
  simp [hia, hH, arow, hw, E]
  simpa [arow] using ih'
theorem eqLs_ok (l : List (List Int)) (hn : l.length ≤ 1000000) (hs : ∀ a ∈ l, a.length ≤ 1000000) (hH : 0 < H.length) :
  gcall KC (geval KC) 75 [.pure (.slice (l.map arow)), .pure (.slice (l.map arow))] c H = some (.pure (.bool true), H) := by
 refine WPv_eq (call_enter KC needT Tryz.func75 rfl rfl good75 rfl rfl rfl (by simp) hH ?_)
 simp
 refine eqLs_loop (H := [] :: H) l hn hs _ (by simp) l.length 0 (by omega) ?_
 simp [gleave_free]
theorem eqT_ok (t : Tab) (hs : Sm t) (hH : 0 < H.length) :
  gcall KC (geval KC) 24 [.pure (.agg t.row), .pure (.agg t.row)] c H = some (.pure (.bool true), H) := by
 refine WPv_eq (call_enter KC needT Tryz.func24 rfl rfl good24 rfl rfl rfl (by simp) hH ?_)
 have E := fun c (H : Heap) (hH : 0 < H.length) => eqLs_ok (c := c) (H := H) t.answers hs.1 hs.2 hH
 simp [Tab.row, E, gleave_free]
def zb64 : Blk := .box [.pure (.int .i64 0), .pure (.int .i64 0), .pure (.int .i64 0), .nils]
end
section
variable {c : Nat} {H : Heap}
def rdC (H : Heap) : GV → PV → Prop
 | .pure p, q => p = q
 | .nils, q => q = .slice []
 | .hdr nm es top lo len, q => ∃ rows v ro, H.get nm = some (.arr es rows v ro) ∧ v ≤ top ∧ rows.length = top ∧ lo = 0 ∧ len = top ∧ q = .slice rows
 | _, _ => False
def rdL (H : Heap) : List GV → List PV → Prop
 | [], [] => True
 | g :: l, q :: m => rdC H g q ∧ rdL H l m
 | _, _ => False
def rdG (H : Heap) : GV → PV → Prop
 | .agg l, .agg m => rdL H l m
 | .pure p, q => p = q
 | _, _ => False
@[simp] theorem rdC_pure {p q : PV} : rdC H (.pure p) q = (p = q) := .trans rfl rfl
@[simp] theorem rdC_nils {q : PV} : rdC H .nils q = (q = .slice []) := .trans rfl rfl
@[simp] theorem rdC_hdr {nm : Nm} {es top lo len : Nat} {q : PV} : rdC H (.hdr nm es top lo len) q = ∃ rows v ro, H.get nm = some (.arr es rows v ro) ∧ v ≤ top ∧ rows.length = top ∧ lo = 0 ∧ len = top ∧ q = .slice rows := .trans rfl rfl
@[simp] theorem rdL_nil : rdL H [] [] = True := .trans rfl rfl
@[simp] theorem rdL_cons {g : GV} {q : PV} {l : List GV} {m : List PV} : rdL H (g :: l) (q :: m) = (rdC H g q ∧ rdL H l m) := .trans rfl rfl
@[simp] theorem rdG_agg {l : List GV} {m : List PV} : rdG H (.agg l) (.agg m) = rdL H l m := .trans rfl rfl
@[simp] theorem rdG_pure {p q : PV} : rdG H (.pure p) q = (p = q) := .trans rfl rfl
def RoSim (H1 H2 : Heap) : Prop := ∀ nm es rows v ro, H1.get nm = some (.arr es rows v ro) → ∃ ro', H2.get nm = some (.arr es rows v ro')
theorem RoSim.refl (H : Heap) : RoSim H H := fun _ _ _ _ ro h => ⟨ro, h⟩
theorem rdC_sim {H1 H2 : Heap} (h : RoSim H1 H2) : ∀ {g : GV} {q : PV}, rdC H1 g q → rdC H2 g q := by
 intro g q hg
 cases g with
 | hdr nm es top lo len =>
  obtain ⟨rows, v, ro, a, b, d⟩ := hg
  obtain ⟨ro', e⟩ := h _ _ _ _ _ a
  exact ⟨rows, v, ro', e, b, d⟩
 | pure p => exact hg
 | nils => exact hg
 | _ => exact hg.elim
theorem frzCell_rd {g : GV} {q : PV} (h : rdC H g q) : canon1 (frzCell H g).1 = .pure q ∧ RoSim H (frzCell H g).2 := by
 cases g with
 | hdr nm es top lo len =>
  obtain ⟨rows, v, ro, h1, h2, h3, rfl, rfl, rfl⟩ := h
  subst h3
  have e : pureCell H (.hdr nm es rows.length 0 rows.length) = (.slice rows, H.set nm (.arr es rows v true)) := by simp [h1, h2]
  simp only [frzCell, e]
  refine ⟨rfl, fun nm' es' rows' v' ro' hg => ?_⟩
  by_cases hn : nm' = nm
  ·subst hn
   rw [h1] at hg
   cases hg
   exact ⟨true, Heap.get_set _ (Heap.get_lt h1)⟩
  ·exact ⟨ro', (Heap.get_set_other _ hn).trans hg⟩
 | pure p => cases h; exact ⟨rfl, RoSim.refl _⟩
 | nils => cases h; exact ⟨rfl, RoSim.refl _⟩
 | _ => exact h.elim
theorem frzVals_cons {g : GV} {r : List GV} : (frzVals H (g :: r)).1.map canon = canon (frzVal H g).1 :: (frzVals (frzVal H g).2 r).1.map canon := rfl
theorem rdC_push {f : Fr} {g : GV} {q : PV} (h : rdC H g q) : rdC (f :: H) g q := by
 cases g with
 | hdr nm es top lo len =>
  obtain ⟨rows, v, ro, a, b⟩ := h
  have := Heap.get_lt a
  exact ⟨rows, v, ro, by rw [Heap.get_cons', if_neg (by omega)]; exact a, b⟩
 | pure p => exact h
 | nils => exact h
 | _ => exact h.elim
theorem rdC_apS' {nm : Nm} {es : Nat} {rows : List (List PV)} (h : rows ≠ [] → ∃ v ro, v ≤ rows.length ∧ H.get nm = some (.arr es rows v ro)) : rdC H (apS nm es rows) (.slice rows) := by
 unfold apS
 by_cases hr : rows = []
 ·subst hr; rw [if_pos rfl]; simp
 ·rw [if_neg hr]
  obtain ⟨v, ro, a, b⟩ := h hr
  exact ⟨rows, v, ro, b, a, rfl, rfl, rfl, rfl⟩
theorem gcall0_canon {K : Ctx} {rec : Rec} {f : FuncId} {a b : List GV} (h : a.map canon = b.map canon) : gcall0 K rec f a c H = gcall0 K rec f b c H := by
 have hl : a.length = b.length := by have := congrArg List.length h; simpa using this
 unfold gcall0
 rw [h, hl]
theorem canon_frzC {H : Heap} {g : GV} {q : PV} (h : rdC H g q) : canon (frzVal H g).1 = .pure q ∧ RoSim H (frzVal H g).2 := by
 cases g with
 | hdr nm es top lo len =>
  obtain ⟨a, b⟩ := frzCell_rd h
  refine ⟨?_, b⟩
  show canon (frzCell H (.hdr nm es top lo len)).1 = _
  have e : ∀ x : GV, canon1 x = .pure q → x = .pure q ∨ (x = .nils ∧ q = .slice []) := fun x hx => by
   cases x <;> simp [canon1] at hx <;> simp_all
  rcases e _ a with e | ⟨e, e2⟩
  ·rw [e]; rfl
  ·rw [e, e2]; rfl
 | pure p => cases h; exact ⟨rfl, RoSim.refl _⟩
 | nils => cases h; exact ⟨rfl, RoSim.refl _⟩
 | _ => exact h.elim
end
section
variable {c : Nat} {H : Heap}
theorem upR_get (w n : Int) (h : n ≤ 9223372036854775807) (h1 : 1 ≤ n) : ∃ (i : Nat) (w' : Int), upR w n = ((i : Int), w') ∧ (i : Int) < n := by
 have := upR_rng w n h
 refine ⟨(upR w n).1.toNat, (upR w n).2, ?_, ?_⟩
 ·rw [Int.toNat_of_nonneg this.1]
 ·omega
theorem box2 {nm : Nm} (hlt : nm.1 < H.length) (w : Int) (f0 f1 : Fr) : isBox (f0 :: f1 :: H.set nm (wbox w)) nm := isBox_up (isBox_up (isBox_set' hlt))
theorem box1 {nm : Nm} (hlt : nm.1 < H.length) (w : Int) (f1 : Fr) : isBox (f1 :: H.set nm (wbox w)) nm := isBox_up (isBox_set' hlt)
theorem word2 {nm : Nm} (hlt : nm.1 < H.length) (w : Int) (f0 f1 : Fr) : wordAt (f0 :: f1 :: H.set nm (wbox w)) nm = w := by
 rw [wordAt_up (by simp [Heap.length_set]; omega), wordAt_up (by simpa [Heap.length_set] using hlt), wordAt_set hlt]
theorem word1 {nm : Nm} (hlt : nm.1 < H.length) (w : Int) (f1 : Fr) : wordAt (f1 :: H.set nm (wbox w)) nm = w := by
 rw [wordAt_up (by simpa [Heap.length_set] using hlt), wordAt_set hlt]
theorem numL_chk : ∀ (l seen : List Int), seen.length + l.length ≤ 9 → chkL (numL l seen) seen.length = 0
 | [], _, _ => rfl
 | x :: r, seen, h => by
  have hp := posL_le x seen
  have hl := posL_lt x seen
  simp only [List.length_cons] at h
  simp only [numL, chkL]
  rw [if_neg (by omega), if_neg (by omega)]
  by_cases hm : x ∈ seen
  ·rw [if_pos hm, if_neg (by have := hl.2 hm; omega)]
   exact numL_chk r seen (by omega)
  ·have e := posL_no x seen hm
   rw [if_neg hm, if_pos (by rw [e])]
   have := numL_chk r (seen ++ [x]) (by simp; omega)
   simpa using this
theorem numL_part {l : List Int} (h1 : l ≠ []) (h2 : l.length ≤ 9) : PartOk (numL l []) := by
 have hc := numL_chk l [] (by simpa using h2)
 have hl := numL_len l []
 exact ⟨fun e => h1 (List.length_eq_zero_iff.1 (by rw [← hl, e]; rfl)), by rw [hl]; exact h2, chkL_rng _ _ hc, hc⟩
theorem OfR_at {F : Fr} {k : Nat} (l : List Int) (hn : l.length ≤ 1000000) (hk : l ≠ [] → ∃ v ro, v ≤ l.length ∧ F.get k = some (.arr 1 (l.map irow) v ro)) : ∃ F', gcall KC (geval KC) 80 [apS (H.length, k) 1 (l.map irow)] c (F :: H) = some (.pure (.tuple (ofT l)), F' :: H) := by
 have hp : ∀ F' : Fr, gcall0 KC (geval KC) 80 [.pure (.slice (l.map irow))] c (F' :: H) = some (.pure (.tuple (ofT l)), F' :: H) := fun F' => by
  have := OfR_ok (c := c) (H := F' :: H) l hn (by simp)
  rwa [gcall_frz' rfl rfl rfl] at this
 rw [gcall_frz' rfl rfl rfl]
 by_cases h : l = []
 ·subst h
  refine ⟨F, ?_⟩
  have := hp F
  simp only [List.map_nil] at this
  rw [← this]
  exact gcall0_canon rfl
 ·obtain ⟨v, ro, hv, hF⟩ := hk h
  refine ⟨F.ins k (.arr 1 (l.map irow) v true), ?_⟩
  have hr : List.take l.length (l.map irow) = l.map irow := List.take_of_length_le (by simp)
  have e : frzVals (F :: H) [apS (H.length, k) 1 (l.map irow)] = ([.pure (.slice (l.map irow))], F.ins k (.arr 1 (l.map irow) v true) :: H) := by
   have h' : l.map irow ≠ [] := by simpa using h
   unfold apS
   rw [if_neg h']
   simp [frzVals, frzVal, frzCell, hF, hv, hr]
  rw [e]
  exact hp _
theorem part_loop {nm : Nm} (hlt : nm.1 < H.length) (n k : Nat) (hn : n ≤ 9) (hk : k ≤ 9) (Q : GX → GSt → Prop) : ∀ (j i : Nat) (l : List Int) (wd : Int), i + j = n → l.length = i →
  (∀ (l' : List Int) (wd' : Int), l'.length = n → Q (.exit 0) ⟨[(5, apS (H.length, 23) 1 (l'.map irow))], apF 23 1 (l'.map irow) [] :: H.set nm (wbox wd'), 30⟩) →
  WPL KC needT 30 (lp Tryz.f30 0) [0, 1, 5, 6, 7] [5] Q [(0, .bptr nm 0), (1, .pure (.int .i64 (n : Nat))), (5, apS (H.length, 23) 1 (l.map irow)), (6, .pure (.int .i64 (k : Nat))), (7, .pure (.int .i64 (i : Nat)))] (apF 23 1 (l.map irow) [] :: H.set nm (wbox wd)) 30 := by
 have hne : ¬ nm.1 = H.length := by omega
 have hne2 : ¬ nm.1 = H.length + 1 := by omega
 have hle : nm.1 ≤ H.length := by omega
 have hB := fun w f0 f1 => box2 (H := H) hlt w f0 f1
 have hW := fun w f0 f1 => word2 (H := H) hlt w f0 f1
 have hl2 : ∀ w, (H.set nm (wbox w)).length = H.length := fun w => Heap.length_set _ _ _
 intro j
 induction j with
 | zero =>
  intro i l wd hi hl h1
  apply WPL_step
  conv => arg 4; whnf
  have : ¬ i < n := by omega
  simp [this, hl2]
  exact h1 l wd (by omega)
 | succ j ih =>
  intro i l wd hi hl h1
  have hin : i < n := by omega
  have hw := w64 (x := (i : Int) + 1) (by omega) (by omega)
  obtain ⟨u, w', eu⟩ : ∃ (u w' : Int), upR wd k = (u, w') := ⟨_, _, rfl⟩
  have ih' := ih (i + 1) (l ++ [u]) w' (by omega) (by simp [hl]) h1
  have hb : (l.length + 1) * 8 ≤ 1099511627776 := by omega
  have hk2 : (k : Int) ≤ 9223372036854775807 := by omega
  have A := fun f0 => apK_1 (H := H.set nm (wbox w')) (l := H.length) (key := 23) (es := 1) (bytes := 8) (rows := l.map irow) (r := irow u) (fr := []) (f0 := f0) (hl2 _) rfl (by simpa using hb)
  simp only [irow] at A
  apply WPL_step
  conv => arg 4; whnf
  simp [hin, hl2, up_ok, hB, hW, hk2, eu, hlt, hne, hne2, Heap.set_up, hle, A, hw, irow]
  simpa [irow] using ih'
theorem anyR_get (w : Int) (hi : Nat) (h : hi ≤ 1000000) (h1 : 1 ≤ hi) : ∃ (i : Nat) (w' : Int), anyR w 1 hi = ((i : Int), w') ∧ 1 ≤ i ∧ i ≤ hi := by
 have := anyR_rng w 1 hi (by omega) (by omega) (by omega)
 refine ⟨(anyR w 1 hi).1.toNat, (anyR w 1 hi).2, ?_, ?_, ?_⟩
 ·rw [Int.toNat_of_nonneg (by omega)]
 ·omega
 ·omega
theorem part_ok {nm : Nm} (hB0 : isBox H nm) (n : Nat) (h1 : 1 ≤ n) (h9 : n ≤ 9) : ∃ p wd, PartOk p ∧ p.length = n ∧ gcall KC (geval KC) 30 [.bptr nm 0, .pure (.int .i64 (n : Nat))] c H = some (.pure (.slice (p.map irow)), H.set nm (wbox wd)) := by
 have hlt := isBox_lt hB0
 have hset := isBox_set hB0
 have hle : nm.1 ≤ H.length := by omega
 have hl2 : ∀ w, (H.set nm (wbox w)).length = H.length := fun w => Heap.length_set _ _ _
 suffices hs : WPv (gcall KC (geval KC) 30 [.bptr nm 0, .pure (.int .i64 (n : Nat))] c H) (fun x => ∃ p wd, PartOk p ∧ p.length = n ∧ x = (.pure (.slice (p.map irow)), H.set nm (wbox wd))) by
  obtain ⟨x, hx, p, wd, a, b, e⟩ := hs
  exact ⟨p, wd, a, b, by rw [hx, e]⟩
 refine call_enter KC needT Tryz.func30 rfl rfl good30 rfl rfl rfl (by simp) (by omega) ?_
 obtain ⟨k, w1, e1, k1, k9⟩ := anyR_get (wordAt H nm) n (by omega) h1
 have L := fun Q => part_loop (H := H) hlt n k h9 (by omega) Q n 0 [] w1 (by omega) rfl
 simp [apS_nil, apF_nil] at L
 simp [any_ok (isBox_up hB0), wordAt_up hlt, e1, Heap.set_up hlt, hle]
 refine L _ (fun l wd hl => ?_)
 have hl0 : l ≠ [] := fun e => by rw [e] at hl; simp at hl; omega
 obtain ⟨F', eO⟩ := OfR_at (c := 26) (F := apF 23 1 (l.map irow) []) (H := H.set nm (wbox wd)) (k := 23) l (by omega) (fun h => ⟨0, false, Nat.zero_le _, apF_self (by simpa using h)⟩)
 have eo : ofT l = [.slice ((numL l []).map irow), .int .i64 0] := by
  unfold ofT
  rw [if_neg (by omega), if_neg (by omega)]
 rw [hl2, eo] at eO
 simp [eO, gleave_free]
 exact ⟨numL l [], numL_part hl0 (by omega), by rw [numL_len]; exact hl, rfl, wd, rfl⟩
end
section
variable {c : Nat} {H : Heap}
def AnsOk (a : List Int) : Prop := ∀ x ∈ a, -1 ≤ x ∧ x ≤ 8
theorem AnsOk.wr {a : List Int} (h : AnsOk a) {n : Nat} (hl : a.length = n) : wrF a n = 0 := by
 unfold wrF
 rw [if_neg (by omega)]
 clear hl
 induction a with
 | nil => rfl
 | cons x r ih =>
  have hx := h x (List.mem_cons_self ..)
  have e : ansE x = 0 := by unfold ansE; rw [if_pos (inB_iff.2 hx)]
  simp only [firstE, e]
  rw [if_neg (by simp)]
  exact ih fun y hy => h y (List.mem_cons_of_mem _ hy)
structure SOk (s : Scoring) : Prop where
 five : ∀ x ∈ s.five, 0 ≤ x ∧ x ≤ 20
 rng : ∀ x ∈ s.keys, 1 ≤ x ∧ x ≤ 6
 nd : s.keys.Nodup
 len : s.keys.length ≤ 4
def zsb : Blk := .box [.pure (.int .i64 0), .pure (.int .i64 0), .pure (.int .i64 0), .pure (.int .i64 0), .pure (.int .i64 0), .nils]
def sFr (L : Nat) (p q w n l : Int) (keys : List Int) : Fr := apF 42 1 (keys.map irow) [(2, zsb), (3, .box [.pure (.int .i64 p), .pure (.int .i64 q), .pure (.int .i64 w), .pure (.int .i64 n), .pure (.int .i64 l), apS (L, 42) 1 (keys.map irow)])]
theorem keyOf_loop (p q w n o : Int) (l : List Int) (hl : l.length = 6) (hr : ∀ x ∈ l, 0 ≤ x ∧ x ≤ 5) (hd : l.Nodup) (Q : GX → GSt → Prop) : ∀ (i : Nat) (keys : List Int), i ≤ 4 → keys.length + i ≤ 4 → keys.Nodup → (∀ x ∈ keys, ∃ j, ∃ h : j < l.length, i < j ∧ x = 1 + l[j]) →
  (∀ keys' : List Int, keys'.length ≤ 4 → keys'.Nodup → (∀ x ∈ keys', 1 ≤ x ∧ x ≤ 6) → Q (.exit 0) ⟨[(2, .bptr (H.length, 2) 0), (3, .bptr (H.length, 3) 0)], sFr H.length p q w n o keys' :: H, 45⟩) →
  WPL KC needT 29 (lp Tryz.f29 0) [2, 3, 4, 5] [2, 3] Q [(2, .bptr (H.length, 2) 0), (3, .bptr (H.length, 3) 0), (4, .pure (.slice (l.map irow))), (5, .pure (.int .i64 (i : Nat)))] (sFr H.length p q w n o keys :: H) 45 := by
 intro i
 induction i with
 | zero =>
  intro keys hi hkl hkd hk h1
  have h1' := h1 keys (by omega) hkd (fun x hx => by
   obtain ⟨j, hj, _, e⟩ := hk x hx
   have := hr _ (List.getElem_mem hj)
   omega)
  apply WPL_step
  conv => arg 4; whnf
  simp
  exact h1'
 | succ i ih =>
  intro keys hi hkl hkd hk h1
  have hil : i + 1 < l.length := by omega
  have ri := hr _ (List.getElem_mem hil)
  have hw := w64 (x := 1 + l[i + 1]) (by omega) (by omega)
  have e0 : ((i : Int) + 1) - 1 = i := by omega
  have hw2 := w64 (x := (i : Int) + 1 - 1) (by omega) (by omega)
  rw [e0] at hw2
  have hb : (keys.length + 1) * 8 ≤ 1099511627776 := by omega
  have ih' := ih (keys ++ [1 + l[i + 1]]) (by omega) (by simp; omega) (by
   rw [List.nodup_append]
   refine ⟨hkd, by simp, fun x hx y hy => ?_⟩
   simp at hy
   subst hy
   obtain ⟨j, hj, hij, e⟩ := hk x hx
   intro e2
   have := List.pairwise_iff_getElem.1 hd (i + 1) j hil hj hij
   omega) (fun x hx => by
   rcases List.mem_append.1 hx with h | h
   ·obtain ⟨j, hj, hij, e⟩ := hk x h
    exact ⟨j, hj, by omega, e⟩
   ·simp at h; subst h; exact ⟨i + 1, hil, by omega, rfl⟩) h1
  have A := fun f0 fr (hf : Fr.get fr 42 = none) => apK_1 (H := H) (l := H.length) (key := 42) (es := 1) (bytes := 8) (rows := keys.map irow) (r := irow (1 + l[i + 1])) (fr := fr) (f0 := f0) rfl hf (by simpa using hb)
  simp only [irow] at A
  have t1 : ((i : Int) + 1).toNat = i + 1 := by omega
  have hp0 : (0 : Int) < (i : Int) + 1 := by omega
  have hn0 : ¬ (i : Int) + 1 < 0 := by omega
  apply WPL_step
  conv => arg 4; whnf
  simp [sFr, hil, hp0, hn0, t1, e0, hw, hw2, A, irow, zsb]
  simpa [sFr, irow, zsb] using ih'
end
section
variable {c : Nat} {H : Heap}
@[simp] theorem wrap_1 : IntKind.i64.wrap 1 = 1 := by decide
@[simp] theorem wrap_2 : IntKind.i64.wrap 2 = 2 := by decide
def swapL (l : List Int) (i j : Nat) : List Int := ((l ++ [(i : Int)]).set i ((l ++ [(i : Int)]).getD j 0)).set j i
theorem swapL_len (l : List Int) (i j : Nat) : (swapL l i j).length = l.length + 1 := by simp [swapL]
noncomputable def orderR : Nat → Nat → List Int → Int → List Int × Int
 | 0, _, l, wd => (l, wd)
 | k + 1, i, l, wd => orderR k (i + 1) (swapL l i (upR wd (i + 1 : Nat)).1.toNat) (upR wd (i + 1 : Nat)).2
theorem set_perm (l : List Int) (j : Nat) (hj : j < l.length) (x : Int) : (l.set j x ++ [l[j]]).Perm (l ++ [x]) := by
 have e : l = l.take j ++ l[j] :: l.drop (j + 1) := by rw [← List.drop_eq_getElem_cons hj, List.take_append_drop]
 have e2 : l.set j x = l.take j ++ x :: l.drop (j + 1) := List.set_eq_take_append_cons_drop .. |>.trans (by simp [hj])
 rw [e2]
 conv => rhs; rw [e]
 simp only [List.append_assoc]
 refine List.Perm.append_left _ ?_
 simp only [List.cons_append]
 refine (List.Perm.cons x List.perm_append_comm).trans ?_
 simp only [List.singleton_append]
 refine (List.Perm.swap ..).trans ?_
 refine List.Perm.cons _ ?_
 exact (List.perm_append_comm (l₁ := [x]) (l₂ := l.drop (j + 1)))
theorem swapL_perm (l : List Int) (i j : Nat) (hl : l.length = i) (hj : j ≤ i) : (swapL l i j).Perm (l ++ [(i : Int)]) := by
 subst hl
 unfold swapL
 by_cases e : j = l.length
 ·subst e; simp
 ·have hj' : j < l.length := by omega
  have h1 : (l ++ [(l.length : Int)]).getD j 0 = l[j] := by simp [List.getD_eq_getElem?_getD, List.getElem?_append_left hj', hj']
  rw [h1]
  have h2 : (l ++ [(l.length : Int)]).set l.length l[j] = l ++ [l[j]] := by simp
  rw [h2]
  have h3 : (l ++ [l[j]]).set j (l.length : Int) = l.set j l.length ++ [l[j]] := by rw [List.set_append_left _ _ hj']
  rw [h3]
  exact set_perm l j hj' _
theorem orderR_perm : ∀ (k i : Nat) (l : List Int) (wd : Int), l.Perm ((List.range i).map Int.ofNat) → i + k ≤ 1000000 → (orderR k i l wd).1.Perm ((List.range (i + k)).map Int.ofNat)
 | 0, i, l, wd, h, _ => by simpa [orderR] using h
 | k + 1, i, l, wd, h, hk => by
  have hr := upR_rng wd ((i + 1 : Nat) : Int) (by omega)
  have hl : l.length = i := by simpa using h.length_eq
  have e : i + (k + 1) = i + 1 + k := by omega
  rw [orderR, e]
  refine orderR_perm k (i + 1) _ _ ((swapL_perm l i _ hl (by omega)).trans ?_) (by omega)
  rw [List.range_succ, List.map_append]
  exact h.append_right _
def ordF (l : List Int) : Fr := [(20, .arr 1 (l.map irow) l.length false)]
theorem order_loop {nm : Nm} (hlt : nm.1 < H.length) (n : Nat) (hn : n ≤ 1000000) (Q : GX → GSt → Prop) : ∀ (k i : Nat) (l : List Int) (wd : Int), i + k = n → l.length = i → 0 < i →
  Q (.exit 0) ⟨[(5, .hdr (H.length, 20) 1 (orderR k i l wd).1.length 0 (orderR k i l wd).1.length)], ordF (orderR k i l wd).1 :: H.set nm (wbox (orderR k i l wd).2), 36⟩ →
  WPL KC needT 79 (lp Tryz.f79 0) [0, 1, 5, 6] [5] Q
   [(0, .bptr nm 0), (1, .pure (.int .i64 n)), (5, .hdr (H.length, 20) 1 l.length 0 l.length), (6, .pure (.int .i64 i))] (ordF l :: H.set nm (wbox wd)) 36 := by
 have hB : ∀ w f0 f1, isBox (f0 :: f1 :: H.set nm (wbox w)) nm := fun w f0 f1 => isBox_up (isBox_up (isBox_set' hlt))
 have hne : ¬ nm.1 = H.length := by omega
 have hne2 : ¬ nm.1 = H.length + 1 := by omega
 have hle : nm.1 ≤ H.length := by omega
 intro k
 induction k with
 | zero =>
  intro i l wd hi hl h0 hq
  have : ¬ i < n := by omega
  apply WPL_step
  conv => arg 4; whnf
  simp [ordF, this, Heap.length_set]
  simpa [ordF, orderR] using hq
 | succ k ih =>
  intro i l wd hi hl h0 hq
  have hia : i < n := by omega
  have hw := w64 (x := (i : Int) + 1) (by omega) (by omega)
  have hr := upR_rng wd ((i + 1 : Nat) : Int) (by omega)
  obtain ⟨j, ej⟩ : ∃ j : Nat, (upR wd ((i + 1 : Nat) : Int)).1 = j := ⟨(upR wd ((i + 1 : Nat) : Int)).1.toNat, by omega⟩
  have ih' := ih (i + 1) (swapL l i j) (upR wd ((i + 1 : Nat) : Int)).2 (by omega) (by rw [swapL_len, hl]) (by omega)
  rw [orderR, ej, Int.toNat_natCast] at hq
  have ih'' := ih' hq
  have hji : j < l.length + 1 := by omega
  have ec : ((i + 1 : Nat) : Int) = (i : Int) + 1 := by omega
  rw [ec] at ej ih''
  have hb : (l.length + 1) * 8 ≤ 1099511627776 := by omega
  have hnb : (i : Int) + 1 ≤ 9223372036854775807 := by omega
  have hW : ∀ w f0 f1, wordAt (f0 :: f1 :: H.set nm (wbox w)) nm = w := fun w f0 f1 => by rw [wordAt_up (by simp [Heap.length_set]; omega), wordAt_up (by simpa [Heap.length_set] using hlt), wordAt_set hlt]
  subst hl
  obtain ⟨m, em⟩ : ∃ m, m = l ++ [(l.length : Int)] := ⟨_, rfl⟩
  have hm : m.length = l.length + 1 := by simp [em]
  have ra : List.map irow l ++ [[PV.int .i64 l.length]] = List.map irow m := by simp [em, irow]
  have hjm : j < m.length := by omega
  have him : l.length < m.length := by omega
  have hjI : (j : Int) < (l.length : Int) + 1 := by omega
  have hiI : (l.length : Int) < (l.length : Int) + 1 := by omega
  have gi : m[l.length] = (l.length : Int) := by simp [em]
  have sw : swapL l l.length j = (m.set l.length m[j]).set j l.length := by
   unfold swapL; rw [← em]; simp [List.getD_eq_getElem?_getD, hjm]
  rw [sw] at ih''
  have hgj : ((List.map irow m).set l.length [PV.int .i64 m[j]])[j]'(by simpa using hjm) = [PV.int .i64 m[j]] := by rw [List.getElem_set]; split <;> simp [irow]
  apply WPL_step
  conv => arg 4; whnf
  simp [ordF, hia, hw, Heap.length_set, up_ok, hB, hW, hnb, hlt, hne, hne2, Heap.set_up, ej, hb, hji, hjI, hiI, hle, ra, hm, irow, splice, gi, hgj]
  simpa [ordF, irow, hm] using ih''
noncomputable def orderV : Nat → Int → List Int × Int := hid fun n wd => orderR n 0 [] wd
theorem orderV_def (n : Nat) (wd : Int) : orderV n wd = orderR n 0 [] wd := by rw [orderV, hid_eq]
theorem orderV_perm {n : Nat} (wd : Int) (hn : n ≤ 1000000) : (orderV n wd).1.Perm ((List.range n).map Int.ofNat) := by
 rw [orderV_def]
 simpa using orderR_perm n 0 [] wd (by simp) (by omega)
theorem order_ok {nm : Nm} (hB : isBox H nm) {n : Nat} (h0 : 0 < n) (hn : n ≤ 1000000) :
  gcall KC (geval KC) 79 [.bptr nm 0, .pure (.int .i64 n)] c H = some (.pure (.slice ((orderV n (wordAt H nm)).1.map irow)), H.set nm (wbox (orderV n (wordAt H nm)).2)) := by
 have hlt := isBox_lt hB
 have hset := isBox_set hB
 have hne : ¬ nm.1 = H.length := by omega
 have hne2 : ¬ nm.1 = H.length + 1 := by omega
 have hle : nm.1 ≤ H.length := by omega
 have hB2 : ∀ f0 f1, isBox (f0 :: f1 :: H) nm := fun f0 f1 => isBox_up (isBox_up hB)
 have hW : ∀ f0 f1, wordAt (f0 :: f1 :: H) nm = wordAt H nm := fun f0 f1 => by rw [wordAt_up (by simp; omega), wordAt_up hlt]
 have hnl : ¬ H.length ≤ H.length - 1 := by omega
 refine WPv_eq (call_enter KC needT Tryz.func79 rfl rfl good79 rfl rfl rfl (by simp) (by omega) ?_)
 obtain ⟨k, rfl⟩ : ∃ k, n = k + 1 := ⟨n - 1, by omega⟩
 have hr := upR_rng (wordAt H nm) 1 (by omega)
 have ej : (upR (wordAt H nm) 1).1 = 0 := by omega
 have L := fun Q => order_loop (H := H) hlt (k + 1) hn Q k 1 [0] (upR (wordAt H nm) 1).2 (by omega) rfl (by omega)
 have hd := orderV_def (k + 1) (wordAt H nm)
 have e1 : orderR (k + 1) 0 [] (wordAt H nm) = orderR k 1 [0] (upR (wordAt H nm) 1).2 := by
  rw [orderR]; simp [ej, swapL]
 rw [e1] at hd
 have hk : (0 : Int) < (k : Int) + 1 := by omega
 simp [ordF] at L
 simp
 apply WPL_step
 conv => arg 4; whnf
 simp [hk, Heap.length_set, up_ok, hB2, hW, hlt, hne, hne2, Heap.set_up, ej, hle, irow, splice]
 simp [irow] at L
 refine L _ ?_
 have tk : ∀ l : List Int, List.take l.length (List.map irow l) = List.map irow l := fun l => List.take_of_length_le (by simp)
 simp [gleave_free, hd, Heap.length_set, hnl, tk]
end
section
variable {c : Nat} {H : Heap}
section
variable {nm : Nm}
theorem up1 (hlt : nm.1 < H.length) (f0 : Fr) (w : Int) {n : Int} (hn : n ≤ 9223372036854775807) : gcall KC (geval KC) 42 [.bptr nm 0, .pure (.int .i64 n)] c (f0 :: H.set nm (wbox w)) = some (.pure (.int .i64 (upR w n).1), f0 :: H.set nm (wbox (upR w n).2)) := by
 have := up_ok (c := c) (box1 hlt w f0) hn
 rwa [word1 hlt, Heap.set_up (by rw [Heap.length_set]; exact hlt), Heap.set_set] at this
theorem any1 (hlt : nm.1 < H.length) (f0 : Fr) (w : Int) {lo hi : Int} : gcall KC (geval KC) 46 [.bptr nm 0, .pure (.int .i64 lo), .pure (.int .i64 hi)] c (f0 :: H.set nm (wbox w)) = some (.pure (.int .i64 (anyR w lo hi).1), f0 :: H.set nm (wbox (anyR w lo hi).2)) := by
 have := any_ok (c := c) (lo := lo) (hi := hi) (box1 hlt w f0)
 rwa [word1 hlt, Heap.set_up (by rw [Heap.length_set]; exact hlt), Heap.set_set] at this
theorem pick1 (hlt : nm.1 < H.length) (f0 : Fr) (w : Int) {l : List Int} (hn : l.length < 4611686018427387904) : gcall KC (geval KC) 44 [.bptr nm 0, .pure (.slice (l.map irow))] c (f0 :: H.set nm (wbox w)) = some (.pure (.int .i64 (pickR w l).1), f0 :: H.set nm (wbox (pickR w l).2)) := by
 have := pick_ok (c := c) (box1 hlt w f0) hn
 rwa [word1 hlt, Heap.set_up (by rw [Heap.length_set]; exact hlt), Heap.set_set] at this
theorem order1 (hlt : nm.1 < H.length) (f0 : Fr) (w : Int) {n : Nat} (h0 : 0 < n) (hn : n ≤ 1000000) : gcall KC (geval KC) 79 [.bptr nm 0, .pure (.int .i64 n)] c (f0 :: H.set nm (wbox w)) = some (.pure (.slice ((orderV n w).1.map irow)), f0 :: H.set nm (wbox (orderV n w).2)) := by
 have := order_ok (c := c) (box1 hlt w f0) h0 hn
 rwa [word1 hlt, Heap.set_up (by rw [Heap.length_set]; exact hlt), Heap.set_set] at this
end
theorem pick_rng (w u m : Int) (h0 : 0 ≤ u) (h9 : u ≤ m) : ∃ v w', pickR w [0, u] = (v, w') ∧ 0 ≤ v ∧ v ≤ m := by
 refine ⟨(pickR w [0, u]).1, (pickR w [0, u]).2, rfl, ?_⟩
 rw [pickR_def]
 have hr := upR_rng w 2 (by omega)
 simp only [List.length_cons, List.length_nil]
 rw [if_neg (by omega)]
 have : (upR w 2).1 = 0 ∨ (upR w 2).1 = 1 := by omega
 show 0 ≤ [0, u].getD (upR w 2).1.toNat 0 ∧ [0, u].getD (upR w 2).1.toNat 0 ≤ m
 rcases this with e | e <;> rw [e] <;> simp <;> omega
theorem scoring_ok0 {nm : Nm} (hlt : nm.1 < H.length) (w0 : Int) : ∃ s wd, SOk s ∧ gcall KC (geval KC) 29 [.bptr nm 0] c (H.set nm (wbox w0)) = some (.pure (.agg s.row), H.set nm (wbox wd)) := by
 have hle : nm.1 ≤ H.length := by omega
 have hl2 : ∀ w, (H.set nm (wbox w)).length = H.length := fun w => Heap.length_set _ _ _
 suffices hs : WPv (gcall KC (geval KC) 29 [.bptr nm 0] c (H.set nm (wbox w0))) (fun x => ∃ s wd, SOk s ∧ x = (.pure (.agg s.row), H.set nm (wbox wd))) by
  obtain ⟨x, hx, s, wd, h1, e⟩ := hs
  exact ⟨s, wd, h1, by rw [hx, e]⟩
 refine call_enter KC needT Tryz.func29 rfl rfl good29 rfl rfl rfl (by simp) (by rw [hl2]; omega) ?_
 obtain ⟨p, w1, e1, p5⟩ := upR_get w0 5 (by omega) (by omega)
 obtain ⟨q, w2, e2, q4⟩ := upR_get w1 4 (by omega) (by omega)
 obtain ⟨a1, w3, e3, a20⟩ := upR_get w2 20 (by omega) (by omega)
 obtain ⟨wh, w4, e4, wh0, wh9⟩ := pick_rng w3 a1 20 (by omega) (by omega)
 obtain ⟨a2, w5, e5, a6⟩ := upR_get w4 6 (by omega) (by omega)
 obtain ⟨nw, w6, e6, nw0, nw9⟩ := pick_rng w5 a2 20 (by omega) (by omega)
 obtain ⟨a3, w7, e7, a4⟩ := upR_get w6 4 (by omega) (by omega)
 obtain ⟨ls, w8, e8, ls0, ls9⟩ := pick_rng w7 a3 20 (by omega) (by omega)
 obtain ⟨l, w9, e9⟩ : ∃ l w9, orderV 6 w8 = (l, w9) := ⟨_, _, rfl⟩
 obtain ⟨i, w10, e10, i5⟩ := upR_get w9 5 (by omega) (by omega)
 have pm := orderV_perm (n := 6) w8 (by omega)
 rw [e9] at pm
 have hl6 : l.length = 6 := by simpa using pm.length_eq
 have hr : ∀ x ∈ l, 0 ≤ x ∧ x ≤ 5 := fun x hx => by
  have := pm.mem_iff.1 hx
  simp at this
  obtain ⟨k, hk, e⟩ := this
  omega
 have hd : l.Nodup := by
  rw [pm.nodup_iff]
  decide
 have U := fun c f0 w n hn => up1 (c := c) (H := H) hlt f0 w (n := n) hn
 have Pk := fun c f0 w (u : Int) => pick1 (c := c) (H := H) hlt f0 w (l := [0, u]) (by simp)
 have O := fun c f0 w => order1 (c := c) (H := H) hlt f0 w (n := 6) (by omega) (by omega)
 simp only [List.map_cons, List.map_nil, irow] at Pk
 have O6 : ∀ c f0 w, gcall KC (geval KC) 79 [.bptr nm 0, .pure (.int .i64 6)] c (f0 :: H.set nm (wbox w)) = some (.pure (.slice ((orderV 6 w).1.map irow)), f0 :: H.set nm (wbox (orderV 6 w).2)) := O
 have L := fun Q => keyOf_loop (H := H.set nm (wbox w10)) p q wh nw ls l hl6 hr hd Q i [] (by omega) (by simp; omega) (by simp) (fun x hx => absurd hx List.not_mem_nil)
 simp only [hl2, sFr, zsb, List.map_nil, apS_nil, apF_nil] at L
 simp [hle, hl2, U, e1, e2, e3, Pk, e4, e5, e6, e7, e8, O6, e9, e10]
 refine L _ (fun keys h1 h2 h3 => ?_)
 simp
 rw [gleave_free (by simp)]
 rw [WPv_some, hl2]
 refine ⟨⟨p, q, wh, nw, ls, keys⟩, ⟨fun x hx => ?_, h3, h2, h1⟩, w10, ?_⟩
 ·simp only [Scoring.five, List.mem_cons, List.not_mem_nil, or_false] at hx
  rcases hx with rfl | rfl | rfl | rfl | rfl <;> omega
 ·rw [clean_agg]
  simp only [List.map_cons, List.map_nil, clean1_pure]
  rw [clean1_apS (hl2 _) (by omega) (fun hne => apF_self hne)]
  by_cases hk : keys = []
  ·subst hk; simp [Scoring.row]
  ·have : keys.map irow ≠ [] := by simpa using hk
   rw [if_neg this]
   simp [Scoring.row]
theorem scoring_ok {nm : Nm} (hB : isBox H nm) : ∃ s wd, SOk s ∧ gcall KC (geval KC) 29 [.bptr nm 0] c H = some (.pure (.agg s.row), H.set nm (wbox wd)) := by
 obtain ⟨s, wd, h1, h2⟩ := scoring_ok0 (c := c) (isBox_lt hB) (wordAt H nm)
 rw [isBox_set hB] at h2
 exact ⟨s, wd, h1, h2⟩
end
section
variable {c : Nat} {H : Heap}
theorem any3 {nm : Nm} (hlt : nm.1 < H.length) (f2 f1 f0 : Fr) (w : Int) {lo hi : Int} : gcall KC (geval KC) 46 [.bptr nm 0, .pure (.int .i64 lo), .pure (.int .i64 hi)] c (f2 :: f1 :: f0 :: H.set nm (wbox w)) = some (.pure (.int .i64 (anyR w lo hi).1), f2 :: f1 :: f0 :: H.set nm (wbox (anyR w lo hi).2)) := by
 have hB : isBox (f2 :: f1 :: f0 :: H.set nm (wbox w)) nm := isBox_up (isBox_up (isBox_up (isBox_set' hlt)))
 have := any_ok (c := c) (lo := lo) (hi := hi) hB
 have e1 : wordAt (f2 :: f1 :: f0 :: H.set nm (wbox w)) nm = w := by
  rw [wordAt_up (by simp [Heap.length_set]; omega), wordAt_up (by simp [Heap.length_set]; omega), wordAt_up (by simpa [Heap.length_set] using hlt), wordAt_set hlt]
 rw [e1] at this
 rw [this, Heap.set_up (by simp [Heap.length_set]; omega), Heap.set_up (by simp [Heap.length_set]; omega), Heap.set_up (by simpa [Heap.length_set] using hlt), Heap.set_set]
def RowOk (q : Int) (l : List Int) : Prop := AnsOk l ∧ ∀ k, (h : k < l.length) → q ≤ k → l[k] = -1
theorem RowOk.nil (q : Int) : RowOk q [] := ⟨fun x hx => absurd hx List.not_mem_nil, fun k hk => by simp at hk⟩
theorem RowOk.snoc {q : Int} {l : List Int} (h : RowOk q l) {x : Int} (h1 : -1 ≤ x) (h2 : x ≤ 8) (h3 : q ≤ l.length → x = -1) : RowOk q (l ++ [x]) := by
 refine ⟨fun y hy => ?_, fun k hk hq => ?_⟩
 ·rcases List.mem_append.1 hy with h' | h'
  ·exact h.1 y h'
  ·simp at h'; subst h'; exact ⟨h1, h2⟩
 ·by_cases e : k = l.length
  ·subst e; simpa using h3 hq
  ·have hk' : k < l.length := by simp at hk; omega
   rw [List.getElem_append_left hk']; exact h.2 k hk' hq
def tFr (L : Nat) (p q s : Int) (rows : List (List Int)) : Fr := apF 59 1 (rows.map arow) [(6, zb64), (7, .box [.pure (.int .i64 p), .pure (.int .i64 q), .pure (.int .i64 s), apS (L, 59) 1 (rows.map arow)])]
theorem tabI_loop {nm : Nm} (hlt : nm.1 < H.length) (p : Nat) (q s : Int) (hp : p ≤ 9) (rows : List (List Int)) (i : Int) (Q : GX → GSt → Prop)
  (hQ : ∀ (l : List Int) (w : Int), l.length = p → RowOk q l → Q (.exit 2) ⟨[(0, .bptr nm 0), (6, .bptr (H.length, 6) 0), (7, .bptr (H.length, 7) 0), (8, .pure (.int .i64 i)), (9, apS (H.length + 1, 54) 1 (l.map irow))], apF 54 1 (l.map irow) [] :: tFr H.length p q s rows :: H.set nm (wbox w), 62⟩) :
  ∀ (j k : Nat) (l : List Int) (w : Int), k + j = p → l.length = k → RowOk q l →
  WPL KC needT 19 (lp Tryz.f19 1) [0, 6, 7, 8, 9, 10] [0, 6, 7, 8, 9] Q [(0, .bptr nm 0), (6, .bptr (H.length, 6) 0), (7, .bptr (H.length, 7) 0), (8, .pure (.int .i64 i)), (9, apS (H.length + 1, 54) 1 (l.map irow)), (10, .pure (.int .i64 (k : Nat)))] (apF 54 1 (l.map irow) [] :: tFr H.length p q s rows :: H.set nm (wbox w)) 62 := by
 have hle : nm.1 ≤ H.length := by omega
 have hle1 : nm.1 ≤ H.length + 1 := by omega
 have hl2 : ∀ w, (H.set nm (wbox w)).length = H.length := fun w => Heap.length_set _ _ _
 intro j
 induction j with
 | zero =>
  intro k l w hk hl hr
  have e : k = p := by omega
  apply WPL_step
  conv => arg 4; whnf
  have : ¬ k < p := by omega
  simp [this, tFr, hl2, hle, hle1]
  simpa [tFr] using hQ l w (by omega) hr
 | succ j ih =>
  intro k l w hk hl hr
  have hkp : k < p := by omega
  have hw := w64 (x := (k : Int) + 1) (by omega) (by omega)
  have hb : (l.length + 1) * 8 ≤ 1099511627776 := by omega
  have A := fun f0 (v w' : Int) => apK_1 (H := tFr H.length p q s rows :: H.set nm (wbox w')) (l := H.length + 1) (key := 54) (es := 1) (bytes := 8) (rows := l.map irow) (r := irow v) (fr := []) (f0 := f0) (by simp [hl2]) rfl (by simpa using hb)
  simp only [irow, tFr] at A
  have Y := fun c f2 f1 f0 w (lo hi : Int) => any3 (c := c) (H := H) hlt f2 f1 f0 w (lo := lo) (hi := hi)
  apply WPL_step
  conv => arg 4; whnf
  by_cases hq : (k : Int) < q
  ·obtain ⟨v, w1, e1⟩ : ∃ v w1, anyR w (-1) 8 = (v, w1) := ⟨_, _, rfl⟩
   have hv := anyR_rng w (-1) 8 (by omega) (by omega) (by omega)
   rw [e1] at hv
   have ih' := ih (k + 1) (l ++ [v]) w1 (by omega) (by simp [hl]) (hr.snoc hv.1 hv.2 (fun h => by omega))
   simp [hkp, tFr, hl2, hle, hle1, hq, Y, e1, A, irow, hw]
   simpa [tFr, irow] using ih'
  ·have ih' := ih (k + 1) (l ++ [-1]) w (by omega) (by simp [hl]) (hr.snoc (by omega) (by omega) (fun _ => rfl))
   simp [hkp, tFr, hl2, hle, hle1, hq, A, irow, hw]
   simpa [tFr, irow] using ih'
theorem tabO_loop {nm : Nm} (hlt : nm.1 < H.length) (N p : Nat) (hN : N ≤ 12) (q s : Int) (hp : p ≤ 9) (hp0 : 1 ≤ p) (Q : GX → GSt → Prop)
  (hQ : ∀ (rows : List (List Int)) (w : Int), rows.length = N → (∀ a ∈ rows, a.length = p ∧ RowOk q a) → Q (.exit 0) ⟨[(6, .bptr (H.length, 6) 0), (7, .bptr (H.length, 7) 0)], tFr H.length p q s rows :: H.set nm (wbox w), 62⟩) :
  ∀ (i : Nat) (rows : List (List Int)) (w : Int), i + rows.length = N → (∀ a ∈ rows, a.length = p ∧ RowOk q a) →
  WPL KC needT 19 (lp Tryz.f19 0) [0, 6, 7, 8] [6, 7] Q [(0, .bptr nm 0), (6, .bptr (H.length, 6) 0), (7, .bptr (H.length, 7) 0), (8, .pure (.int .i64 (i : Nat)))] (tFr H.length p q s rows :: H.set nm (wbox w)) 62 := by
 have hle : nm.1 ≤ H.length := by omega
 have hl2 : ∀ w, (H.set nm (wbox w)).length = H.length := fun w => Heap.length_set _ _ _
 intro i
 induction i with
 | zero =>
  intro rows w hi ha
  apply WPL_step
  conv => arg 4; whnf
  simp [tFr, hl2]
  simpa [tFr] using hQ rows w (by omega) ha
 | succ i ih =>
  intro rows w hi ha
  have e1 : (i : Int) + 1 - 1 = i := by omega
  have hw := w64 (x := (i : Int) + 1 - 1) (by omega) (by omega)
  rw [e1] at hw
  have k0 : (0 : Int) < (i : Int) + 1 := by omega
  have L := fun Q hQ => tabI_loop (H := H) hlt p q s hp rows ((i : Int) + 1) Q hQ p 0 [] w (by omega) rfl (.nil q)
  simp [tFr, apS_nil, apF_nil] at L
  apply WPL_step
  conv => arg 4; whnf
  simp [tFr, hl2, k0, hle]
  refine L _ (fun l w1 hl hr => ?_)
  have ih' := ih (rows ++ [l]) w1 (by simp; omega) (fun a h => by
   rcases List.mem_append.1 h with h | h
   ·exact ha a h
   ·simp at h; subst h; exact ⟨hl, hr⟩)
  have hne : l.map irow ≠ [] := by
   intro e; have := congrArg List.length e; simp at this; subst this; simp at hl; omega
  have hb : (rows.length + 1) * 24 ≤ 1099511627776 := by omega
  have A := fun f0 fr (hf : Fr.get fr 59 = none) => apK_1 (H := H.set nm (wbox w1)) (l := H.length) (key := 59) (es := 1) (bytes := 24) (rows := rows.map arow) (r := arow l) (fr := fr) (f0 := f0) (hl2 _) hf (by simpa using hb)
  simp only [arow] at A
  have hS : apS (H.length + 1, 54) 1 (l.map irow) = .hdr (H.length + 1, 54) 1 l.length 0 l.length := by unfold apS; rw [if_neg hne]; simp
  have hF := apF_self (key := 54) (es := 1) (fr := []) hne
  have htk : (l.map irow).take l.length = l.map irow := List.take_of_length_le (by simp)
  rw [hS]
  simp [hF, hl2, htk, A, arow, hw, e1, hle, zb64]
  simpa [tFr, arow, zb64] using ih'
structure TOk (t : Tab) : Prop where
 pk : 1 ≤ t.packets ∧ t.packets ≤ 9
 ps : 0 ≤ t.passed ∧ t.passed ≤ t.packets
 st : 1 ≤ t.state ∧ t.state ≤ 4
 cl : 3 ≤ t.state → t.passed = t.packets
 n : 1 ≤ t.answers.length ∧ t.answers.length ≤ 12
 row : ∀ a ∈ t.answers, (a.length : Int) = t.packets ∧ RowOk t.passed a
theorem TOk.sm {t : Tab} (h : TOk t) : Sm t := ⟨by have := h.n; omega, fun a ha => by have := (h.row a ha).1; have := h.pk; omega⟩
theorem RowOk.row {p q : Int} {a : List Int} (hl : (a.length : Int) = p) (hq : 0 ≤ q ∧ q ≤ p) (h : RowOk q a) : rowE p q a = 0 := by
 have hw : wrF a p = 0 := by
  have := h.1.wr (n := a.length) rfl
  rwa [hl] at this
 rw [rowE_late hl hw hq, if_pos]
 unfold lateOk
 rw [List.all_eq_true]
 intro x hx
 obtain ⟨k, hk, rfl⟩ := List.getElem_of_mem hx
 have hk' : q.toNat + k < a.length := by simp at hk; omega
 have := h.2 (q.toNat + k) hk' (by omega)
 simp only [List.getElem_drop, beq_iff_eq]
 exact this
theorem rowsE_zero {p q : Int} : ∀ {l : List (List Int)}, (∀ a ∈ l, rowE p q a = 0) → rowsE p q l = 0
 | [], _ => rfl
 | a :: r, h => by
  have h0 := h a (List.mem_cons_self ..)
  unfold rowsE
  rw [if_neg (not_not_intro h0)]
  exact rowsE_zero fun x hx => h x (List.mem_cons_of_mem _ hx)
theorem TOk.chk {t : Tab} (h : TOk t) : chkT t = 0 := by
 have h1 := h.pk; have h2 := h.ps; have h3 := h.st; have h4 := h.n
 have hr := rowsE_zero (p := t.packets) (q := t.passed) (l := t.answers) fun a ha => (h.row a ha).2.row (h.row a ha).1 h2
 unfold chkT
 rw [inB_iff.2 ⟨by omega, by omega⟩, inB_iff.2 ⟨by omega, by omega⟩, inB_iff.2 ⟨by omega, by omega⟩, hr]
 have e0 : ¬ t.answers = [] := fun e => by rw [e] at h4; simp at h4
 have h5 : ¬ (3 ≤ t.state ∧ t.passed < t.packets) := fun h' => by have := h.cl h'.1; omega
 have h6 : ¬ 12 < t.answers.length := by omega
 simp [e0, h5, h6]
theorem pick4 (w x : Int) (h : 1 ≤ x ∧ x ≤ 4) : ∃ v w', pickR w [1, 1, 1, x] = (v, w') ∧ 1 ≤ v ∧ v ≤ 4 := by
 refine ⟨(pickR w [1, 1, 1, x]).1, (pickR w [1, 1, 1, x]).2, rfl, ?_⟩
 rw [pickR_def]
 have hr := upR_rng w 4 (by omega)
 simp only [List.length_cons, List.length_nil]
 rw [if_neg (by omega)]
 have : (upR w 4).1 = 0 ∨ (upR w 4).1 = 1 ∨ (upR w 4).1 = 2 ∨ (upR w 4).1 = 3 := by omega
 show 1 ≤ [1, 1, 1, x].getD (upR w 4).1.toNat 0 ∧ [1, 1, 1, x].getD (upR w 4).1.toNat 0 ≤ 4
 rcases this with e | e | e | e <;> rw [e] <;> simp <;> omega
theorem table_ok0 {nm : Nm} (hlt : nm.1 < H.length) (w0 : Int) (P G : Nat) (hP : 1 ≤ P ∧ P ≤ 9) (hG : 1 ≤ G ∧ G ≤ 12) : ∃ t wd, TOk t ∧ gcall KC (geval KC) 19 [.bptr nm 0, .pure (.int .i64 (P : Nat)), .pure (.int .i64 (G : Nat))] c (H.set nm (wbox w0)) = some (.pure (.agg t.row), H.set nm (wbox wd)) := by
 have hle : nm.1 ≤ H.length := by omega
 have hl2 : ∀ w, (H.set nm (wbox w)).length = H.length := fun w => Heap.length_set _ _ _
 suffices hs : WPv (gcall KC (geval KC) 19 [.bptr nm 0, .pure (.int .i64 (P : Nat)), .pure (.int .i64 (G : Nat))] c (H.set nm (wbox w0))) (fun x => ∃ t wd, TOk t ∧ x = (.pure (.agg t.row), H.set nm (wbox wd))) by
  obtain ⟨x, hx, t, wd, h1, e⟩ := hs
  exact ⟨t, wd, h1, by rw [hx, e]⟩
 refine call_enter KC needT Tryz.func19 rfl rfl good19 rfl rfl rfl (by simp) (by rw [hl2]; omega) ?_
 obtain ⟨p, w1, e1, p1, p2⟩ := anyR_get w0 P (by omega) (by omega)
 obtain ⟨x, w2, e2⟩ : ∃ x w2, anyR w1 1 4 = (x, w2) := ⟨_, _, rfl⟩
 have hx := anyR_rng w1 1 4 (by omega) (by omega) (by omega)
 rw [e2] at hx
 obtain ⟨s, w3, e3, s1, s2⟩ := pick4 w2 x hx
 obtain ⟨q, w4, e4⟩ : ∃ q w4, anyR w3 0 p = (q, w4) := ⟨_, _, rfl⟩
 have hq := anyR_rng w3 0 p (by omega) (by omega) (by omega)
 rw [e4] at hq
 simp only at hq hx
 obtain ⟨n, w5, e5, n1, n2⟩ := anyR_get w4 G (by omega) (by omega)
 have Y := fun c f0 w (lo hi : Int) => any1 (c := c) (H := H) hlt f0 w (lo := lo) (hi := hi)
 have K := fun c f0 w => pick1 (c := c) (H := H) hlt f0 w (l := [1, 1, 1, x]) (by simp)
 simp [irow] at K
 have fin : ∀ (q' : Int) (hq' : 0 ≤ q' ∧ q' ≤ p) (hc : 3 ≤ s → q' = p) (rows : List (List Int)) (w : Int), rows.length = n → (∀ a ∈ rows, a.length = p ∧ RowOk q' a) → TOk ⟨p, q', s, rows⟩ := fun q' hq' hc rows w hl ha =>
  ⟨⟨by simp only; omega, by simp only; omega⟩, ⟨hq'.1, hq'.2⟩, ⟨s1, s2⟩, hc, ⟨by simp only; omega, by simp only; omega⟩, fun a h => ⟨by simp only; have := (ha a h).1; omega, (ha a h).2⟩⟩
 by_cases hs3 : 3 ≤ s
 ·have L := fun Q hQ => tabO_loop (H := H) hlt n p (by omega) p s (by omega) (by omega) Q hQ n [] w5 rfl (fun a h => absurd h List.not_mem_nil)
  simp [tFr, zb64, apS_nil, apF_nil] at L
  simp [hl2, hle, Y, e1, e2, e3, e4, e5, K, hs3]
  refine L _ (fun rows w hl ha => ?_)
  have T := fin p ⟨by omega, by omega⟩ (fun _ => rfl) rows w hl ha
  simp [hl2]
  rw [gleave_free]
  ·rw [WPv_some, hl2]
   refine ⟨_, T, w, ?_⟩
   rw [clean_agg]
   simp only [List.map_cons, List.map_nil, clean1_pure]
   rw [clean1_apS (hl2 _) (by omega) (fun hne => apF_self hne)]
   have hk : rows.map arow ≠ [] := fun e => by have := congrArg List.length e; simp at this; subst this; simp at hl; omega
   rw [if_neg hk]
   simp [Tab.row]
  ·simp
 ·have L := fun Q hQ => tabO_loop (H := H) hlt n p (by omega) q s (by omega) (by omega) Q hQ n [] w5 rfl (fun a h => absurd h List.not_mem_nil)
  simp [tFr, zb64, apS_nil, apF_nil] at L
  simp [hl2, hle, Y, e1, e2, e3, e4, e5, K, hs3]
  refine L _ (fun rows w hl ha => ?_)
  have T := fin q hq (fun h => absurd h hs3) rows w hl ha
  simp [hl2]
  rw [gleave_free]
  ·rw [WPv_some, hl2]
   refine ⟨_, T, w, ?_⟩
   rw [clean_agg]
   simp only [List.map_cons, List.map_nil, clean1_pure]
   rw [clean1_apS (hl2 _) (by omega) (fun hne => apF_self hne)]
   have hk : rows.map arow ≠ [] := fun e => by have := congrArg List.length e; simp at this; subst this; simp at hl; omega
   rw [if_neg hk]
   simp [Tab.row]
  ·simp
theorem table_ok {nm : Nm} (hB : isBox H nm) (P G : Nat) (hP : 1 ≤ P ∧ P ≤ 9) (hG : 1 ≤ G ∧ G ≤ 12) : ∃ t wd, TOk t ∧ gcall KC (geval KC) 19 [.bptr nm 0, .pure (.int .i64 (P : Nat)), .pure (.int .i64 (G : Nat))] c H = some (.pure (.agg t.row), H.set nm (wbox wd)) := by
 obtain ⟨t, wd, h1, h2⟩ := table_ok0 (c := c) (isBox_lt hB) (wordAt H nm) P G hP hG
 rw [isBox_set hB] at h2
 exact ⟨t, wd, h1, h2⟩
end
section
variable {c : Nat} {H : Heap}
theorem awakeX_ok (hH : 0 < H.length) : gcall KC (geval KC) 18 [] c H = some (.pure (.bool true), H) := by
 refine (gcall_ext KC (e := extTold [([], .bool true)]) (by kernel_rfl) (by rfl) hH).trans ?_
 rfl
def svS (t : Tab) : List UInt8 := if chkT t = 0 then saveS t else []
theorem Save_ok (t : Tab) (hs : Sm t) (hH : 0 < H.length) : gcall KC (geval KC) 20 [.pure (.agg t.row)] c H = some (.pure (.tuple [.str (svS t), .int .i64 (chkT t)]), H) := by
 unfold svS
 by_cases h : chkT t = 0
 ·rw [if_pos h, h]
  have hg := goodT h
  exact save0 t hs hH h fun a ha => ⟨by have := (hg.a a ha).1; omega, fun n hn => by have := (hg.a a ha).2 n hn; omega⟩
 ·rw [if_neg h]
  refine WPv_eq (call_enter KC needT Tryz.func20 rfl rfl good20 rfl rfl rfl (by simp) hH ?_)
  have hC := fun c G (hG : 0 < List.length G) => chkT_ok (c := c) (H := G) t hs hG
  have h' : (chkT t == 0) = false := by simpa using h
  unfold Tab.row at hC
  simp [Tab.row, hC, h, h', gleave_free, bne]
end
section
variable {c : Nat} {H : Heap}
def worthF (k : Int) (x : Score) (i : Int) : Int := if k = 1 then x.points else if k = 2 then x.packets else if k = 3 then x.pairs else if k = 4 then x.honour else if k = 5 then x.start else W (-i)
def x0 : Score := ⟨0, 0, 0, 0, 0, 0, 0, 0⟩
def befF (L : List Score) (i j : Nat) : List Int → Bool
 | [] => false
 | k :: ks => if worthF k (L.getD i x0) i ≠ worthF k (L.getD j x0) j then decide (worthF k (L.getD j x0) j < worthF k (L.getD i x0) i) else befF L i j ks
end
section
variable {c : Nat} {H : Heap}
def keyV (f : Nat) : GV := .func 159 [] [.pptr [.fn f]]
theorem key_ok (f : Nat) (hH : 0 < H.length) : gcall KC (geval KC) 158 [.pure (.fn f)] c H = some (keyV f, H) := by
 refine WPv_eq (call_enter KC needT Tryz.func158 rfl rfl good158 rfl rfl rfl (by simp) hH ?_)
 have h1 : ¬ H.length ≤ H.length - 1 := by omega
 simp
 rw [gleave_free (by simp)]
 simp [clean, clean2, allLe, capsP, capP, h1, allPure, canon, canon1, keyV]
@[simp] theorem cellsO_key {f : Nat} : cellsO (keyV f) = some [keyV f] := .trans rfl rfl
@[simp] theorem clean1_key {l0 : Nat} {f : Nat} : clean1 H l0 (keyV f) = keyV f := .trans rfl rfl
@[simp] theorem canon1_key {f : Nat} : canon1 (keyV f) = keyV f := .trans rfl rfl
@[simp] theorem allPure_key {f : Nat} {l : List GV} : allPure (keyV f :: l) = none := .trans rfl rfl
@[simp] theorem lowerCell_key {l0 : Nat} {f : Nat} : lowerCell H l0 (keyV f) = (keyV f, H) := .trans rfl rfl
def keysG : GV := .agg [.pure .nilf, keyV 160, keyV 161, keyV 162, keyV 163, keyV 164, .pure (.fn 165)]
theorem keys_ok (hH : 0 < H.length) : gcall KC (geval KC) 134 [] c H = some (keysG, H) := by
 refine WPv_eq (call_enter KC needT Tryz.func134 rfl rfl good134 rfl rfl rfl (by simp) hH ?_)
 simp [key_ok, gleave_free]
 rfl
def fieldF (f : Nat) (x : Score) : Int := if f = 160 then x.points else if f = 161 then x.packets else if f = 162 then x.pairs else if f = 163 then x.honour else x.start
theorem field_ok (f : Nat) (hf : 160 ≤ f ∧ f ≤ 164) (x : Score) (hH : 0 < H.length) : gcall KC (geval KC) f [.pure (.agg x.row)] c H = some (.pure (.int .i64 (fieldF f x)), H) := by
 rw [rowX]
 have : f = 160 ∨ f = 161 ∨ f = 162 ∨ f = 163 ∨ f = 164 := by omega
 rcases this with h | h | h | h | h <;> subst h
 ·refine WPv_eq (call_enter KC needT Tryz.func160 rfl rfl good160 rfl rfl rfl (by simp) hH ?_)
  simp [gleave_free, fieldF]
 ·refine WPv_eq (call_enter KC needT Tryz.func161 rfl rfl good161 rfl rfl rfl (by simp) hH ?_)
  simp [gleave_free, fieldF]
 ·refine WPv_eq (call_enter KC needT Tryz.func162 rfl rfl good162 rfl rfl rfl (by simp) hH ?_)
  simp [gleave_free, fieldF]
 ·refine WPv_eq (call_enter KC needT Tryz.func163 rfl rfl good163 rfl rfl rfl (by simp) hH ?_)
  simp [gleave_free, fieldF]
 ·refine WPv_eq (call_enter KC needT Tryz.func164 rfl rfl good164 rfl rfl rfl (by simp) hH ?_)
  simp [gleave_free, fieldF]
theorem last_ok (L : List Score) (i j : Int) (hH : 0 < H.length) : gcall KC (geval KC) 165 [.pure (.slice (L.map Score.row)), .pure (.int .i64 i), .pure (.int .i64 j)] c H = some (.pure (.int .i64 (W (i - j))), H) := by
 refine WPv_eq (call_enter KC needT Tryz.func165 rfl rfl good165 rfl rfl rfl (by simp) hH ?_)
 simp [gleave_free, W]
@[simp] theorem canon_pptr {cs : List PV} : canon (.pptr cs) = .pptr cs := .trans rfl rfl
theorem diff_ok (f : Nat) (hf : 160 ≤ f ∧ f ≤ 164) (L : List Score) (i j : Nat) (hi : i < L.length) (hj : j < L.length) (hH : 0 < H.length) : gcall KC (geval KC) 159 [.pure (.slice (L.map Score.row)), .pure (.int .i64 (i : Nat)), .pure (.int .i64 (j : Nat)), .pptr [.fn f]] c H = some (.pure (.int .i64 (W (fieldF f L[j] - fieldF f L[i]))), H) := by
 refine WPv_eq (call_enter KC needT Tryz.func159 rfl rfl good159 rfl rfl rfl (by simp) hH ?_)
 have Fi := fun c (H : Heap) (hH : 0 < H.length) => field_ok (c := c) (H := H) f hf L[i] hH
 have Fj := fun c (H : Heap) (hH : 0 < H.length) => field_ok (c := c) (H := H) f hf L[j] hH
 rw [rowX] at Fi Fj
 simp [gleave_free, hi, hj, rowX, Fi, Fj, W]
end
section
variable {c : Nat} {H : Heap}
structure SmallX (x : Score) : Prop where
 p0 : -1000000000 ≤ x.points ∧ x.points ≤ 1000000000
 p1 : -1000000000 ≤ x.packets ∧ x.packets ≤ 1000000000
 p3 : -1000000000 ≤ x.pairs ∧ x.pairs ≤ 1000000000
 p6 : -1000000000 ≤ x.start ∧ x.start ≤ 1000000000
 p7 : -1000000000 ≤ x.honour ∧ x.honour ≤ 1000000000
def diffV (k : Int) (x y : Score) (i j : Nat) : Int := if k = 6 then W (i - j) else W (fieldF (159 + k.toNat) y - fieldF (159 + k.toNat) x)
theorem diffV_eq {k : Int} (h1 : 1 ≤ k) (h6 : k ≤ 6) {x y : Score} (hx : SmallX x) (hy : SmallX y) {i j : Nat} (hi : i ≤ 1000000) (hj : j ≤ 1000000) : diffV k x y i j = worthF k y j - worthF k x i := by
 obtain ⟨a0, a1, a3, a6, a7⟩ := hx
 obtain ⟨b0, b1, b3, b6, b7⟩ := hy
 have wi : W (-(i : Int)) = -i := w64 (by omega) (by omega)
 have wj : W (-(j : Int)) = -j := w64 (by omega) (by omega)
 have : k = 1 ∨ k = 2 ∨ k = 3 ∨ k = 4 ∨ k = 5 ∨ k = 6 := by omega
 rcases this with h | h | h | h | h | h <;> subst h <;> simp only [diffV, worthF, fieldF] <;> simp
 ·exact w64 (by omega) (by omega)
 ·exact w64 (by omega) (by omega)
 ·exact w64 (by omega) (by omega)
 ·exact w64 (by omega) (by omega)
 ·exact w64 (by omega) (by omega)
 ·rw [wi, wj]
  have : W ((i : Int) - j) = (i : Int) - j := w64 (by omega) (by omega)
  rw [this]; omega
def befX (s : Scoring) (H : Heap) : Heap := [(4, .box (s.row.map .pure)), (9, .box [.pure .nilf, keyV 160, keyV 161, keyV 162, keyV 163, keyV 164, .pure (.fn 165)])] :: H
theorem before_loop (s : Scoring) (hk : s.keys.length ≤ 1000000) (hr : ∀ x ∈ s.keys, 1 ≤ x ∧ x ≤ 6) (L : List Score) (hL : L.length ≤ 1000000) (hs : ∀ x ∈ L, SmallX x) (i j : Nat) (hi : i < L.length) (hj : j < L.length) (Q : GX → GSt → Prop) : ∀ m q : Nat, q + m = s.keys.length →
  (befF L i j (s.keys.drop q) = false → Q (.exit 0) ⟨[(8, gdead)], befX s H, 33⟩) → (∀ b, befF L i j (s.keys.drop q) = b → Q .ret ⟨[(8, .pure (.bool b))], befX s H, 33⟩) →
  WPL KC needT 99 (lp Tryz.f99 0) [1, 2, 3, 9, 15, 16, 17] [8] Q [(1, .pure (.slice (L.map Score.row))), (2, .pure (.int .i64 (i : Nat))), (3, .pure (.int .i64 (j : Nat))), (9, .bptr (H.length, 9) 0), (15, .pure (.slice (s.keys.map irow))), (16, .pure (.int .i64 (s.keys.length : Nat))), (17, .pure (.int .i64 (q : Nat)))] (befX s H) 33 := by
 intro m
 induction m with
 | zero =>
  intro q hq h1 h2
  have hn : ¬ q < s.keys.length := by omega
  have e : s.keys.drop q = [] := List.drop_eq_nil_of_le (by omega)
  rw [e] at h1 h2
  apply WPL_step
  conv => arg 4; whnf
  simp [hn, befX]
  simpa [befX] using h1 rfl
 | succ m ih =>
  intro q hq h1 h2
  have hia : q < s.keys.length := by omega
  have hw := w64 (x := (q : Int) + 1) (by omega) (by omega)
  have hkr := hr _ (List.getElem_mem hia)
  have hd := diffV_eq hkr.1 hkr.2 (hs _ (List.getElem_mem hi)) (hs _ (List.getElem_mem hj)) (i := i) (j := j) (by omega) (by omega)
  rw [List.drop_eq_getElem_cons hia] at h1 h2
  simp only [befF, getD_lt hi, getD_lt hj] at h1 h2
  have hcase : s.keys[q] = 1 ∨ s.keys[q] = 2 ∨ s.keys[q] = 3 ∨ s.keys[q] = 4 ∨ s.keys[q] = 5 ∨ s.keys[q] = 6 := by omega
  generalize worthF s.keys[q] L[j] j = wj at *
  generalize worthF s.keys[q] L[i] i = wi at *
  have D := fun (f : Nat) hf c (H : Heap) (hH : 0 < H.length) => diff_ok (c := c) (H := H) f hf L i j hi hj hH
  have Z := fun c (H : Heap) (hH : 0 < H.length) => last_ok (c := c) (H := H) L i j hH
  by_cases g : wi = wj
  ·simp only [if_neg (not_not_intro g)] at h1 h2
   have ih' := ih (q + 1) (by omega) h1 h2
   have hd0 : diffV s.keys[q] L[i] L[j] i j = 0 := by omega
   rcases hcase with h | h | h | h | h | h
   all_goals
    rw [h] at hd0
    simp [diffV] at hd0
    apply WPL_step
    conv => arg 4; whnf
    simp [hia, irow, h, befX, keyV, D, Z, hd0, hw]
    simpa [irow, befX, keyV] using ih'
  ·simp only [if_pos g] at h1 h2
   have h2 := h2 _ rfl
   have hdn : diffV s.keys[q] L[i] L[j] i j ≠ 0 := by omega
   have hdb : decide (diffV s.keys[q] L[i] L[j] i j < 0) = decide (wj < wi) := by
    rw [Bool.eq_iff_iff, decide_eq_true_iff, decide_eq_true_iff]; omega
   rcases hcase with h | h | h | h | h | h
   all_goals
    rw [h] at hdn hdb
    simp only [diffV] at hdn hdb
    simp at hdn
    rw [← hdb] at h2
    apply WPL_step
    conv => arg 4; whnf
    simp [hia, irow, h, befX, keyV, D, Z, hdn, hw]
    simpa [irow, befX, keyV] using h2
end
section
variable {c : Nat} {H : Heap}
theorem before_ok0 (s : Scoring) (hk : s.keys.length ≤ 1000000) (hr : ∀ x ∈ s.keys, 1 ≤ x ∧ x ≤ 6) (L : List Score) (hL : L.length ≤ 1000000) (hs : ∀ x ∈ L, SmallX x) (i j : Nat) (hi : i < L.length) (hj : j < L.length) (hH : 0 < H.length) :
  gcall0 KC (geval KC) 99 [.pure (.agg s.row), .pure (.slice (L.map Score.row)), .pure (.int .i64 (i : Nat)), .pure (.int .i64 (j : Nat))] c H = some (.pure (.bool (befF L i j s.keys)), H) := by
 refine WPv_eq (call_enter0 KC needT Tryz.func99 rfl rfl good99 (by simp) hH ?_)
 have B := fun Q => before_loop (H := H) s hk hr L hL hs i j hi hj Q s.keys.length 0 (by omega)
 have K := fun c (H : Heap) (hH : 0 < H.length) => keys_ok (c := c) (H := H) hH
 unfold befX at B
 rw [rowS] at *
 simp at B
 simp [K, keysG]
 refine B _ (fun h => ?_) ?_
 ·simp [h, gleave_free]
 ·simp [gleave_free]
theorem frz4C {a b d e : GV} {p q r u : PV} (h1 : rdC H a p) (h2 : rdC H b q) (h3 : rdC H d r) (h4 : rdC H e u) : (frzVals H [a, b, d, e]).1.map canon = [.pure p, .pure q, .pure r, .pure u] := by
 obtain ⟨x1, y1⟩ := canon_frzC h1
 obtain ⟨x2, y2⟩ := canon_frzC (rdC_sim y1 h2)
 obtain ⟨x3, y3⟩ := canon_frzC (rdC_sim y2 (rdC_sim y1 h3))
 obtain ⟨x4, y4⟩ := canon_frzC (rdC_sim y3 (rdC_sim y2 (rdC_sim y1 h4)))
 rw [frzVals_cons, x1, frzVals_cons, x2, frzVals_cons, x3, frzVals_cons, x4]
 rfl
theorem before_rd {g : GV} (s : Scoring) (hk : s.keys.length ≤ 1000000) (hr : ∀ x ∈ s.keys, 1 ≤ x ∧ x ≤ 6) (L : List Score) (hL : L.length ≤ 1000000) (hs : ∀ x ∈ L, SmallX x) (h : rdC H g (.slice (L.map Score.row))) (i j : Nat) (hi : i < L.length) (hj : j < L.length) (hH : 0 < H.length) :
  gcall KC (geval KC) 99 [.pure (.agg s.row), g, .pure (.int .i64 (i : Nat)), .pure (.int .i64 (j : Nat))] c H = some (.pure (.bool (befF L i j s.keys)), H) :=
 bor_flat KC rfl rfl (frz4C (show rdC H (.pure (.agg s.row)) _ from rfl) h (show rdC H (.pure (.int .i64 (i : Nat))) _ from rfl) (show rdC H (.pure (.int .i64 (j : Nat))) _ from rfl)) rfl hH (fun H hH => before_ok0 s hk hr L hL hs i j hi hj hH) rfl
end
section
variable {c : Nat} {H : Heap}
def befN (L : List Score) (ks : List Int) (i n : Nat) : Nat := cntB (fun j => befF L j i ks) n
structure SFr (fr : Fr) (s : Scoring) (L : List Score) : Prop where
 g3 : fr.get 3 = some (.box (s.row.map .pure))
 g73 : fr.get 73 = none
 g50 : L.map Score.row ≠ [] → fr.get 50 = some (.arr 8 (L.map Score.row) 0 false)
theorem SFr.rd {fr : Fr} {s : Scoring} {L : List Score} (h : SFr fr s L) (ps : List Int) (f0 f1 : Fr) : rdC (f0 :: f1 :: apF 73 1 (ps.map irow) fr :: H) (apS (H.length, 50) 8 (L.map Score.row)) (.slice (L.map Score.row)) := by
 refine rdC_push (rdC_push (rdC_apS' fun hne => ⟨0, false, Nat.zero_le _, ?_⟩))
 rw [Heap.get_cons', if_pos rfl]
 show (apF 73 1 (ps.map irow) fr).get 50 = _
 rw [apF_get (by decide)]
 exact h.g50 hne
theorem rank_loop3 (s : Scoring) (hk : s.keys.length ≤ 1000000) (hr : ∀ x ∈ s.keys, 1 ≤ x ∧ x ≤ 6) (L : List Score) (hL : L.length ≤ 100) (hs : ∀ x ∈ L, SmallX x) {fr : Fr} (hfr : SFr fr s L) (ps : List Int) (i : Nat) (hi : i < L.length) (Q : GX → GSt → Prop)
  (h1 : Q (.exit 4) ⟨[(3, .bptr (H.length, 3) 0), (6, apS (H.length, 50) 8 (L.map Score.row)), (7, apS (H.length, 73) 1 (ps.map irow)), (15, .pure (.int .i64 (1 + befN L s.keys i L.length : Nat))), (53, .pure (.int .i64 (L.length : Nat))), (54, .pure (.int .i64 (i : Nat)))], [] :: apF 73 1 (ps.map irow) fr :: H, 77⟩) : ∀ m q : Nat, q + m = L.length →
  WPL KC needT 63 (lp Tryz.f63 2) [3, 6, 7, 14, 15, 53, 54, 58, 59] [3, 6, 7, 15, 53, 54] Q [(3, .bptr (H.length, 3) 0), (6, apS (H.length, 50) 8 (L.map Score.row)), (7, apS (H.length, 73) 1 (ps.map irow)), (14, .pure (.int .i64 (i : Nat))), (15, .pure (.int .i64 (1 + befN L s.keys i q : Nat))), (53, .pure (.int .i64 (L.length : Nat))), (54, .pure (.int .i64 (i : Nat))), (58, .pure (.int .i64 (L.length : Nat))), (59, .pure (.int .i64 (q : Nat)))] ([] :: apF 73 1 (ps.map irow) fr :: H) 77 := by
 intro m
 induction m with
 | zero =>
  intro q hq
  have e : q = L.length := by omega
  subst e
  apply WPL_step
  conv => arg 4; whnf
  simp
  simpa using h1
 | succ m ih =>
  intro q hq
  have hia : q < L.length := by omega
  have hw := w64 (x := (q : Int) + 1) (by omega) (by omega)
  have ih' := ih (q + 1) (by omega)
  have hc := cntB_le (fun j => befF L j i s.keys) q
  have hw2 := w64 (x := 1 + (befN L s.keys i q : Int) + 1) (by unfold befN; omega) (by unfold befN; omega)
  have Bf := fun c f0 f1 => before_rd (c := c) (H := f0 :: f1 :: apF 73 1 (ps.map irow) fr :: H) s hk hr L (by omega) hs (hfr.rd ps f0 f1) q i hia hi (by simp)
  have g3 := hfr.g3
  rw [rowS] at *
  have en : befN L s.keys i (q + 1) = befN L s.keys i q + if befF L q i s.keys = true then 1 else 0 := rfl
  rw [en] at ih'
  generalize befN L s.keys i q = b at *
  apply WPL_step
  conv => arg 4; whnf
  by_cases g : befF L q i s.keys = true
  ·rw [if_pos g] at ih'
   simp only [g] at Bf
   have e1 : ((1 + (b + 1) : Nat) : Int) = 1 + (b : Int) + 1 := by omega
   rw [e1] at ih'
   simp [hia, hw, hw2, Bf, g3]
   simpa using ih'
  ·have g : befF L q i s.keys = false := by simpa using g
   simp only [g] at Bf ih'
   simp [hia, hw, hw2, Bf, g3]
   simpa using ih'
def plL (L : List Score) (ks : List Int) : Nat → List Int
 | 0 => []
 | i + 1 => plL L ks i ++ [((1 + befN L ks i L.length : Nat) : Int)]
theorem plL_len (L : List Score) (ks : List Int) : ∀ i, (plL L ks i).length = i
 | 0 => rfl
 | i + 1 => by simp [plL, plL_len L ks i]
theorem rank_loop2 (s : Scoring) (hk : s.keys.length ≤ 1000000) (hr : ∀ x ∈ s.keys, 1 ≤ x ∧ x ≤ 6) (L : List Score) (hL : L.length ≤ 100) (hs : ∀ x ∈ L, SmallX x) {fr : Fr} (hfr : SFr fr s L) (Q : GX → GSt → Prop)
  (h1 : Q (.exit 2) ⟨[(6, apS (H.length, 50) 8 (L.map Score.row)), (7, apS (H.length, 73) 1 ((plL L s.keys L.length).map irow))], apF 73 1 ((plL L s.keys L.length).map irow) fr :: H, 77⟩) : ∀ m i : Nat, i + m = L.length →
  WPL KC needT 63 (lp Tryz.f63 1) [3, 6, 7, 53, 54] [6, 7] Q [(3, .bptr (H.length, 3) 0), (6, apS (H.length, 50) 8 (L.map Score.row)), (7, apS (H.length, 73) 1 ((plL L s.keys i).map irow)), (53, .pure (.int .i64 (L.length : Nat))), (54, .pure (.int .i64 (i : Nat)))] (apF 73 1 ((plL L s.keys i).map irow) fr :: H) 77 := by
 intro m
 induction m with
 | zero =>
  intro i hi
  have e : i = L.length := by omega
  subst e
  apply WPL_step
  conv => arg 4; whnf
  simp
  simpa using h1
 | succ m ih =>
  intro i hi
  have hia : i < L.length := by omega
  have hw := w64 (x := (i : Int) + 1) (by omega) (by omega)
  have ih' := ih (i + 1) (by omega)
  have hb : ((plL L s.keys i).length + 1) * 8 ≤ 1099511627776 := by rw [plL_len]; omega
  have K := fun f0 (v : Int) => apK_1 (H := H) (l := H.length) (key := 73) (es := 1) (bytes := 8) (rows := (plL L s.keys i).map irow) (r := irow v) (fr := fr) (f0 := f0) rfl hfr.g73 (by simpa using hb)
  simp only [irow] at K
  have R := fun Q h1 => rank_loop3 (H := H) s hk hr L hL hs hfr (plL L s.keys i) i hia Q h1 L.length 0 (by omega)
  have z0 : befN L s.keys i 0 = 0 := rfl
  rw [z0] at R
  simp at R
  simp only [plL] at ih'
  generalize hps : plL L s.keys i = ps at *
  apply WPL_step
  conv => arg 4; whnf
  simp [hia]
  refine R _ ?_
  simp [hw, K, irow]
  simpa [irow] using ih'
end
theorem posL_map {f : Int → Int} (x : Int) : ∀ (l : List Int), (∀ y ∈ l, f x = f y → x = y) → posL (f x) (l.map f) = posL x l
 | [], _ => rfl
 | y :: l, h => by
  simp only [List.map_cons, posL]
  rw [posL_map x l fun z hz => h z (List.mem_cons_of_mem _ hz)]
  by_cases e : x = y
  ·simp [e]
  ·rw [if_neg (fun e2 => e (h y (List.mem_cons_self ..) e2)), if_neg e]
theorem numL_map {f : Int → Int} : ∀ (l seen : List Int), (∀ x, x ∈ l ∨ x ∈ seen → ∀ y, y ∈ l ∨ y ∈ seen → f x = f y → x = y) → numL (l.map f) (seen.map f) = numL l seen
 | [], _, _ => rfl
 | x :: l, seen, h => by
  simp only [List.map_cons, numL]
  have hx : x ∈ x :: l ∨ x ∈ seen := Or.inl (List.mem_cons_self ..)
  rw [posL_map x seen fun y hy => h x hx y (Or.inr hy)]
  have em : (f x ∈ seen.map f) ↔ x ∈ seen := by
   rw [List.mem_map]
   constructor
   ·rintro ⟨y, hy, e⟩
    rw [h x hx y (Or.inr hy) e.symm]; exact hy
   ·intro hm; exact ⟨x, hm, rfl⟩
  by_cases hm : x ∈ seen
  ·rw [if_pos hm, if_pos (em.2 hm)]
   rw [numL_map l seen fun a ha b hb => h a (ha.imp (List.mem_cons_of_mem _) id) b (hb.imp (List.mem_cons_of_mem _) id)]
  ·rw [if_neg hm, if_neg (fun e => hm (em.1 e))]
   have : seen.map f ++ [f x] = (seen ++ [x]).map f := by simp
   rw [this]
   have hh : ∀ a, a ∈ l ∨ a ∈ seen ++ [x] → a ∈ x :: l ∨ a ∈ seen := by
    intro a ha
    rcases ha with ha | ha
    ·exact Or.inl (List.mem_cons_of_mem _ ha)
    ·rcases List.mem_append.1 ha with ha | ha
     ·exact Or.inr ha
     ·rw [List.mem_singleton.1 ha]; exact hx
   rw [numL_map l (seen ++ [x]) fun a ha b hb => h a (hh a ha) b (hh b hb)]
def cntG (g : Int → Option Int) : List Int → List Int → Nat
 | p :: a, q :: b => (if g p = some q then 1 else 0) + cntG g a b
 | _, _ => 0
theorem cntG_none : ∀ a b, cntG (fun _ => none) a b = 0
 | [], _ => rfl
 | _ :: _, [] => rfl
 | p :: a, q :: b => by simp [cntG, cntG_none a b]
theorem cntG_upd {g : Int → Option Int} {x y : Int} (h : g x = none) : ∀ a b, cntG (fun u => if u = x then some y else g u) a b = comL x y a b + cntG g a b
 | [], _ => rfl
 | _ :: _, [] => rfl
 | p :: a, q :: b => by
  simp only [cntG, comL, cntG_upd h a b]
  by_cases e : p = x
  ·subst e
   by_cases e2 : q = y
   ·subst e2; simp [h]; omega
   ·have : ¬ y = q := fun h => e2 h.symm
    simp [h, e2, this]
  ·simp [e]; omega
theorem cntG_le (g : Int → Option Int) : ∀ a b : List Int, cntG g a b ≤ a.length
 | [], _ => Nat.le_refl _
 | _ :: _, [] => Nat.zero_le _
 | p :: a, q :: b => by
  have := cntG_le g a b
  simp only [cntG, List.length_cons]
  split <;> omega
theorem cntG_full {g : Int → Option Int} : ∀ {a b : List Int}, a.length = b.length → cntG g a b = a.length → ∀ i, i < a.length → g (a.getD i 0) = some (b.getD i 0)
 | [], _, _, _, i, h => by simp at h
 | p :: a, [], hl, _, i, h => by simp at hl
 | p :: a, q :: b, hl, hc, i, h => by
  have := cntG_le g a b
  simp only [cntG, List.length_cons] at hc
  by_cases e : g p = some q
  ·rw [if_pos e] at hc
   cases i with
   | zero => simpa using e
   | succ i =>
    have := cntG_full (g := g) (a := a) (b := b) (by simpa using hl) (by omega) i (by simpa using h)
    simpa using this
  ·rw [if_neg e] at hc; omega
theorem stG_src {a b : List Int} {com : Nat → Nat → Nat} (hc : ∀ x y : Nat, com x y = comL x y a b) {A : Nat} : ∀ (k : Nat) (T : List Bool), k ≤ A →
  ∃ g : Int → Option Int, (∀ x y, g x = some y → ∃ m j : Nat, x = m ∧ y = j ∧ A - k ≤ m ∧ T.getD j false = false) ∧ (∀ x x' y, g x = some y → g x' = some y → x = x') ∧ stG com A k T = cntG g a b
 | 0, T, _ => ⟨fun _ => none, fun _ _ h => by simp at h, fun _ _ _ h => by simp at h, by rw [cntG_none]; rfl⟩
 | k + 1, T, hk => by
  simp only [stG]
  rcases stepY_at (com := com (A - (k + 1))) (rec := stG com A k) (T := T) T.length 0 (stG com A k T) with e | ⟨y', _, hy, hf, e⟩
  ·obtain ⟨g, g1, g2, g3⟩ := stG_src hc (A := A) k T (by omega)
   refine ⟨g, fun x y h => ?_, g2, by rw [e, g3]⟩
   obtain ⟨m, j, h1, h2, h3, h4⟩ := g1 x y h
   exact ⟨m, j, h1, h2, by omega, h4⟩
  ·obtain ⟨g, g1, g2, g3⟩ := stG_src hc (A := A) k (T.set y' true) (by omega)
   have hn : g ((A - (k + 1) : Nat) : Int) = none := by
    cases hg : g ((A - (k + 1) : Nat) : Int) with
    | none => rfl
    | some y =>
     obtain ⟨m, j, h1, _, h3, _⟩ := g1 _ _ hg
     have : A - (k + 1) = m := by omega
     omega
   have hy' : y' < T.length := by omega
   have gone : ∀ x, g x = some (y' : Int) → False := fun x h => by
    obtain ⟨m, j, _, h2, _, h4⟩ := g1 _ _ h
    have : y' = j := by omega
    subst this
    rw [getD_setL _ _ _ _ _ hy', if_pos rfl] at h4
    cases h4
   refine ⟨fun u => if u = ((A - (k + 1) : Nat) : Int) then some (y' : Int) else g u, fun x y h => ?_, fun x x' y h h' => ?_, by rw [e, g3, cntG_upd hn, hc]⟩
   ·by_cases hx : x = ((A - (k + 1) : Nat) : Int)
    ·simp only [if_pos hx, Option.some.injEq] at h
     exact ⟨A - (k + 1), y', hx, h.symm, Nat.le_refl _, hf⟩
    ·simp only [if_neg hx] at h
     obtain ⟨m, j, h1, h2, h3, h4⟩ := g1 x y h
     rw [getD_setL _ _ _ _ _ hy'] at h4
     split at h4
     ·cases h4
     ·exact ⟨m, j, h1, h2, by omega, h4⟩
   ·by_cases hx : x = ((A - (k + 1) : Nat) : Int) <;> by_cases hx' : x' = ((A - (k + 1) : Nat) : Int)
    ·rw [hx, hx']
    ·simp only [if_pos hx, if_neg hx', Option.some.injEq] at h h'
     rw [← h] at h'; exact (gone _ h').elim
    ·simp only [if_pos hx', if_neg hx, Option.some.injEq] at h h'
     rw [← h'] at h; exact (gone _ h).elim
    ·simp only [if_neg hx, if_neg hx'] at h h'
     exact g2 x x' y h h'
theorem movV_src {a b : List Int} (hl : a.length = b.length) : 0 ≤ movV a b ∧ movV a b ≤ a.length ∧ (movV a b = 0 → ∀ i j, i < a.length → j < a.length → eqB a i j = eqB b i j) := by
 obtain ⟨g, g1, g2, g3⟩ := stG_src (a := a) (b := b) (com := fun x y => comL x y a b) (fun _ _ => rfl) (A := (blkF a).toNat) (blkF a).toNat (List.replicate (blkF b).toNat false) (Nat.le_refl _)
 unfold movV
 rw [g3]
 have := cntG_le g a b
 refine ⟨by omega, by omega, fun h i j hi hj => ?_⟩
 have hf := cntG_full hl (g := g) (by omega)
 have e1 := hf i hi
 have e2 := hf j hj
 unfold eqB
 rw [Bool.eq_iff_iff, beq_iff_eq, beq_iff_eq]
 constructor
 ·intro e
  rw [e, e2] at e1
  exact (Option.some.inj e1).symm
 ·intro e
  rw [e] at e1
  exact g2 _ _ _ e1 e2
theorem posL_app {x : Int} (ys : List Int) : ∀ {l : List Int}, x ∈ l → posL x (l ++ ys) = posL x l
 | y :: l, h => by
  simp only [List.cons_append, posL]
  by_cases e : x = y
  ·rw [if_pos e, if_pos e]
  ·rw [if_neg e, if_neg e, posL_app ys ((List.mem_cons.1 h).resolve_left e)]
def rngL (m : Nat) : List Int := (List.range m).map Int.ofNat
theorem rngL_succ (m : Nat) : rngL (m + 1) = rngL m ++ [(m : Int)] := by simp [rngL, List.range_succ]
theorem rngL_mem {m : Nat} {x : Int} : x ∈ rngL m ↔ 0 ≤ x ∧ x < m := by
 unfold rngL
 rw [List.mem_map]
 constructor
 ·rintro ⟨n, hn, rfl⟩
  rw [List.mem_range] at hn
  show (0 : Int) ≤ (n : Int) ∧ (n : Int) < m
  omega
 ·intro h
  exact ⟨x.toNat, by rw [List.mem_range]; omega, by show ((x.toNat : Nat) : Int) = x; omega⟩
theorem rngL_len (m : Nat) : (rngL m).length = m := by simp [rngL]
theorem posL_rng : ∀ (m : Nat) {x : Int}, 0 ≤ x → x < m → (posL x (rngL m) : Int) = x
 | 0, x, h0, h => by omega
 | m + 1, x, h0, h => by
  rw [rngL_succ]
  by_cases e : x < m
  ·rw [posL_app _ (rngL_mem.2 ⟨h0, e⟩)]
   exact posL_rng m h0 e
  ·have hx : x = m := by omega
   have hn : x ∉ rngL m := fun h => e (rngL_mem.1 h).2
   obtain ⟨E, hE⟩ : ∃ E, rngL m = E := ⟨_, rfl⟩
   have hl := rngL_len m
   rw [hE] at hn hl ⊢
   have : posL x (E ++ [(m : Int)]) = E.length := by
    clear hE hl
    induction E with
    | nil => simp [posL, hx]
    | cons y r ih =>
     have h1 : x ≠ y := fun e => hn (by simp [e])
     have h2 : x ∉ r := fun e => hn (by simp [e])
     simp only [List.cons_append, posL, if_neg h1, ih h2, List.length_cons]
   rw [this]; omega
theorem numL_rng : ∀ (l : List Int) (m : Nat), chkL l m = 0 → numL l (rngL m) = l
 | [], _, _ => rfl
 | x :: l, m, h => by
  simp only [chkL] at h
  split at h
  ·cases h
  ·rename_i h1
   split at h
   ·cases h
   ·rename_i h2
    simp only [numL]
    by_cases e : x = m
    ·have hn : x ∉ rngL m := fun h => by have := (rngL_mem.1 h).2; omega
     rw [if_pos e] at h
     have e1 : rngL m ++ [x] = rngL (m + 1) := by rw [rngL_succ, e]
     rw [if_neg hn, posL_no _ _ hn, rngL_len, e1, numL_rng l (m + 1) (by simpa using h), e]
    ·have hm : x ∈ rngL m := rngL_mem.2 ⟨by omega, by omega⟩
     rw [if_neg e] at h
     rw [if_pos hm, posL_rng m (by omega) (by omega), numL_rng l m h]
theorem numL_self {p : List Int} (h : PartOk p) : numL p [] = p := numL_rng p 0 h.ck
theorem ren_of {a p : List Int} (hl : a.length = p.length) (hp : ∀ i j, i < a.length → j < a.length → eqB a i j = eqB p i j) : ∃ f : Int → Int, a.map f = p ∧ (∀ x ∈ a, ∀ y ∈ a, f x = f y → x = y) := by
 have hex : ∀ x ∈ a, ∃ i, i < a.length ∧ a.getD i 0 = x := fun x hx => by
  obtain ⟨i, hi, e⟩ := List.getElem_of_mem hx
  exact ⟨i, hi, by rw [getD_lt hi]; exact e⟩
 have hf : ∃ f : Int → Int, ∀ x ∈ a, ∃ i, i < a.length ∧ a.getD i 0 = x ∧ f x = p.getD i 0 := by
  classical
  refine ⟨fun x => if h : ∃ i, i < a.length ∧ a.getD i 0 = x then p.getD h.choose 0 else 0, fun x hx => ?_⟩
  have h := hex x hx
  exact ⟨h.choose, h.choose_spec.1, h.choose_spec.2, by simp only [dif_pos h]⟩
 obtain ⟨f, hf⟩ := hf
 refine ⟨f, List.ext_getElem (by simpa using hl) fun i h1 h2 => ?_, fun x hx y hy e => ?_⟩
 ·have h1 : i < a.length := by simpa using h1
  obtain ⟨j, hj, e1, e2⟩ := hf a[i] (List.getElem_mem h1)
  have := hp i j h1 hj
  unfold eqB at this
  rw [Bool.eq_iff_iff, beq_iff_eq, beq_iff_eq] at this
  have := this.1 (by rw [e1, getD_lt h1])
  rw [List.getElem_map, e2, ← this, getD_lt h2]
 ·obtain ⟨i, hi, e1, e2⟩ := hf x hx
  obtain ⟨j, hj, e3, e4⟩ := hf y hy
  have := hp i j hi hj
  unfold eqB at this
  rw [Bool.eq_iff_iff, beq_iff_eq, beq_iff_eq] at this
  rw [← e1, ← e3]
  exact this.2 (by rw [← e2, ← e4, e])
theorem numL_eq {a p : List Int} (hl : a.length = p.length) (hp : ∀ i j, i < a.length → j < a.length → eqB a i j = eqB p i j) : numL a [] = numL p [] := by
 obtain ⟨f, e, hi⟩ := ren_of hl hp
 rw [← e]
 exact (numL_map a [] fun x hx y hy => hi x (by simpa using hx) y (by simpa using hy)).symm
theorem both_part {q p : List Int} (hq : PartOk q) (hp : PartOk p) (hl : q.length = p.length) : bothE q p = 0 := by
 unfold bothE
 rw [if_neg (by simp [hq.zero]), if_neg (by simp [hp.zero]), if_neg (by omega)]
theorem hon_rng {a p : List Int} (hp : PartOk p) (hl : a.length = p.length) : honF p a ≤ 3 ∧ (honF p a = 3 → a.contains (-1) = false ∧ numL a [] = p) := by
 have ha : a ≠ [] := fun e => hp.ne (List.length_eq_zero_iff.1 (by rw [← hl, e]; rfl))
 have h9 := hp.le
 have hq := numL_part ha (by omega)
 have hql : (numL a []).length = p.length := by rw [numL_len]; exact hl
 have hm : movN (numL a []) p = movV (numL a []) p := by unfold movN; rw [if_neg (by simp [both_part hq hp hql])]
 obtain ⟨m1, m2, m3⟩ := movV_src hql
 unfold honF
 rw [hm]
 by_cases hc : a.contains (-1) = true
 ·rw [if_pos hc]; exact ⟨by omega, fun h => by omega⟩
 ·rw [if_neg hc]
  have hw := w64 (x := 3 - movV (numL a []) p) (by omega) (by omega)
  have hW : W (3 - movV (numL a []) p) = 3 - movV (numL a []) p := hw
  rw [hW]
  by_cases g : 0 < 3 - movV (numL a []) p
  ·rw [if_pos g]
   refine ⟨by omega, fun h => ⟨by simpa using hc, ?_⟩⟩
   have := numL_eq hql (m3 (by omega))
   rw [numL_self hq, numL_self hp] at this
   exact this
  ·rw [if_neg g]; exact ⟨by omega, fun h => by omega⟩
section
variable {c : Nat} {H : Heap}
theorem keyE_rng (l : List Int) : ∀ k i, i + k = l.length → keyE l k i = 0 → ∀ j (h : j < l.length), i ≤ j → 1 ≤ l[j] ∧ l[j] ≤ 6
 | 0, i, hi, _, j, hj, hij => by omega
 | k + 1, i, hi, h, j, hj, hij => by
  have hil : i < l.length := by omega
  simp only [keyE] at h
  rw [getD_lt hil] at h
  split at h
  ·cases h
  ·rename_i g
   split at h
   ·cases h
   ·by_cases e : j = i
    ·subst e; exact inB_iff.1 (by simpa using g)
    ·exact keyE_rng l k (i + 1) (by omega) h j hj (by omega)
theorem chkS_rng {s : Scoring} (h : chkS s = 0) : (∀ x ∈ s.five, 0 ≤ x ∧ x ≤ 1000) ∧ s.keys.length ≤ 6 ∧ ∀ x ∈ s.keys, 1 ≤ x ∧ x ≤ 6 := by
 unfold chkS at h
 split at h
 ·cases h
 ·rename_i g1
  split at h
  ·cases h
  ·rename_i g2
   refine ⟨fun x hx => ?_, by omega, fun x hx => ?_⟩
   ·have : okFive s.five = true := by simpa using g1
    unfold okFive at this
    rw [List.all_eq_true] at this
    exact inB_iff.1 (this x hx)
   ·obtain ⟨j, hj, rfl⟩ := List.getElem_of_mem hx
    exact keyE_rng s.keys _ 0 (by omega) h j hj (by omega)
theorem W_rng {a b d e f : Int} (ha : 0 ≤ a ∧ a ≤ 200000) (hb : 0 ≤ b ∧ b ≤ 200000) (hd : 0 ≤ d ∧ d ≤ 200000) (he : 0 ≤ e ∧ e ≤ 200000) (hf : 0 ≤ f ∧ f ≤ 200000) : W (W (W (W (W a + W b) + W d) + W e) - W f) = a + b + d + e - f := by
 unfold W
 rw [w64 (x := a) (by omega) (by omega), w64 (x := b) (by omega) (by omega), w64 (x := d) (by omega) (by omega), w64 (x := e) (by omega) (by omega), w64 (x := f) (by omega) (by omega), w64 (x := a + b) (by omega) (by omega), w64 (x := a + b + d) (by omega) (by omega), w64 (x := a + b + d + e) (by omega) (by omega), w64 (by omega) (by omega)]
theorem mul_big {x y : Int} (h0 : 0 ≤ x) (h1 : x ≤ 1000) (h2 : 0 ≤ y) (h3 : y ≤ 100) : 0 ≤ x * y ∧ x * y ≤ 200000 := by
 have := Int.mul_le_mul h1 h3 h2 (by omega)
 exact ⟨Int.mul_nonneg h0 h2, by omega⟩
theorem mark_small {s : Scoring} {t a : List Int} (h : chkS s = 0) (hp : PartOk t) (hl : a.length = t.length) : SmallX (markF s t a) := by
 obtain ⟨f5, _, _⟩ := chkS_rng h
 have q1 := f5 s.packet (by simp [Scoring.five])
 have q2 := f5 s.pair (by simp [Scoring.five])
 have q3 := f5 s.whole (by simp [Scoring.five])
 have q4 := f5 s.new (by simp [Scoring.five])
 have q5 := f5 s.loss (by simp [Scoring.five])
 have h9 := hp.le
 have b1 := cntB_le (rightB t a) t.length
 have b2 := pairN_le100 t a h9
 have b3 := cntB_le (heardB t a) t.length
 have b4 := cntB_le (fun j => hasB a j && !rightB t a j) t.length
 have b5 := stN_le t a t.length
 have b6 := (hon_rng hp hl).1
 have b7 : 0 ≤ honF t a := by
  unfold honF
  split
  ·omega
  ·split <;> omega
 refine ⟨?_, by show _ ≤ ((cntB (rightB t a) t.length : Nat) : Int) ∧ ((cntB (rightB t a) t.length : Nat) : Int) ≤ _; omega, by show _ ≤ ((pairN t a t.length : Nat) : Int) ∧ ((pairN t a t.length : Nat) : Int) ≤ _; omega, by show _ ≤ ((stN t a t.length : Nat) : Int) ∧ ((stN t a t.length : Nat) : Int) ≤ _; omega, by show _ ≤ honF t a ∧ honF t a ≤ _; omega⟩
 have e1 : (markF s t a).points = W (W (W (W (W (s.packet * (cntB (rightB t a) t.length : Nat)) + W (s.pair * (pairN t a t.length : Nat))) + W (s.new * (cntB (heardB t a) t.length : Nat))) + W (s.whole * (if allR t a t.length = true then 1 else 0))) - W (s.loss * (cntB (fun j => hasB a j && !rightB t a j) t.length : Nat))) := rfl
 obtain ⟨w, hw, w0, w1⟩ : ∃ w : Int, (if allR t a t.length = true then (1 : Int) else 0) = w ∧ 0 ≤ w ∧ w ≤ 1 := by
  split
  ·exact ⟨1, rfl, by omega, by omega⟩
  ·exact ⟨0, rfl, by omega, by omega⟩
 rw [e1, hw]
 have m1 := mul_big q1.1 q1.2 (y := ((cntB (rightB t a) t.length : Nat) : Int)) (by omega) (by omega)
 have m2 := mul_big q2.1 q2.2 (y := ((pairN t a t.length : Nat) : Int)) (by omega) (by omega)
 have m3 := mul_big q4.1 q4.2 (y := ((cntB (heardB t a) t.length : Nat) : Int)) (by omega) (by omega)
 have m4 := mul_big q3.1 q3.2 (y := w) (by omega) (by omega)
 have m5 := mul_big q5.1 q5.2 (y := ((cntB (fun j => hasB a j && !rightB t a j) t.length : Nat) : Int)) (by omega) (by omega)
 rw [W_rng m1 m2 m3 m4 m5]
 omega
theorem flt_all {n : Int} : ∀ {A : List (List Int)}, fltL n A = 0 → ∀ a ∈ A, wrF a n = 0
 | [], _, a, ha => absurd ha List.not_mem_nil
 | b :: A, h, a, ha => by
  simp only [fltL] at h
  by_cases g : wrF b n = 0
  ·rw [if_neg (not_not_intro g)] at h
   rcases List.mem_cons.1 ha with rfl | ha
   ·exact g
   ·exact flt_all h a ha
  ·rw [if_pos g] at h; exact (g h).elim
def rankT (s : Scoring) (t : List Int) (A : List (List Int)) : List PV :=
 if chkS s ≠ 0 then [.slice [], .slice [], .int .i64 (chkS s)] else if chkP t ≠ 0 then [.slice [], .slice [], .int .i64 (chkP t)] else if 12 < A.length then [.slice [], .slice [], .int .i64 8]
 else if fltL t.length A ≠ 0 then [.slice [], .slice [], .int .i64 (fltL t.length A)]
 else [.slice ((A.map (markF s t)).map Score.row), .slice ((plL (A.map (markF s t)) s.keys A.length).map irow), .int .i64 0]
theorem clean2_apS {H : Heap} {l0 : Nat} {nm : Nm} {es : Nat} {rows : List (List PV)} : clean2 H l0 (apS nm es rows) = clean1 H l0 (apS nm es rows) := by
 unfold apS
 split <;> rfl
theorem leave_two {F : Fr} {k1 k2 e1 e2 : Nat} {r1 r2 : List (List PV)} {p : PV} (hH : 0 < H.length) (h1 : r1 ≠ [] → F.get k1 = some (.arr e1 r1 0 false)) (h2 : r2 ≠ [] → F.get k2 = some (.arr e2 r2 0 false)) :
  canon (clean (F :: H) (H.length - 1) (.tuple [apS (H.length, k1) e1 r1, apS (H.length, k2) e2 r2, .pure p])) = .pure (.tuple [.slice r1, .slice r2, p]) := by
 rw [clean_tuple]
 simp only [List.map_cons, List.map_nil, clean2_apS]
 rw [clean1_apS rfl (by omega) h1, clean1_apS rfl (by omega) h2]
 have e : ∀ r : List (List PV), r = [] ∨ r ≠ [] := fun r => Classical.em _
 rcases e r1 with g1 | g1 <;> rcases e r2 with g2 | g2
 ·subst g1 g2; rfl
 ·subst g1; rw [if_pos rfl, if_neg g2]; rfl
 ·subst g2; rw [if_pos rfl, if_neg g1]; rfl
 ·rw [if_neg g1, if_neg g2]; rfl
theorem Rank_ok0 (s : Scoring) (hs : s.keys.length ≤ 1000000) (t : List Int) (ht : t.length ≤ 1000000) (A : List (List Int)) (bA : ∀ a ∈ A, a.length ≤ 1000000) (hA : A.length ≤ 1000000) (hH : 0 < H.length) :
  gcall0 KC (geval KC) 63 [.pure (.agg s.row), .pure (.slice (t.map irow)), .pure (.slice (A.map arow))] c H = some (.pure (.tuple (rankT s t A)), H) := by
 refine WPv_eq (call_enter0 KC needT Tryz.func63 rfl rfl good63 (by simp) hH ?_)
 have C1 := fun c (H : Heap) (hH : 0 < H.length) => chkS_ok (c := c) (H := H) s hs hH
 have C2 := fun c (H : Heap) (hH : 0 < H.length) => chk_ok (c := c) (H := H) t ht hH
 unfold rankT
 by_cases h1 : chkS s = 0
 ·by_cases h2 : chkP t = 0
  ·by_cases h3 : 12 < A.length
   ·have h3' : (12 : Int) < A.length := by omega
    rw [rowS] at *
    simp [C1, C2, h1, h2, h3, h3', gleave_free]
   ·have h3' : ¬ (12 : Int) < A.length := by omega
    have hp := chkP_zero h2
    obtain ⟨_, k6, kr⟩ := chkS_rng h1
    have L1 := fun Q => rank_loop1 (H := H) s t hp A (by omega) bA Q A.length 0 (by omega) [] (by simp)
    have hsm : fltL t.length A = 0 → ∀ x ∈ A.map (markF s t), SmallX x := fun h x hx => by
     obtain ⟨y, hy, rfl⟩ := List.mem_map.1 hx
     exact mark_small h1 hp (wrF_zero (flt_all h y hy)).1
    have hLl : A.length = (A.map (markF s t)).length := by simp
    have hL100 : (A.map (markF s t)).length ≤ 100 := by simp; omega
    generalize A.map (markF s t) = L at *
    rw [hLl]
    have hfr : SFr (apF 50 8 (L.map Score.row) (sbx s)) s L := ⟨by rw [apF_get (by decide)]; rfl, by rw [apF_get (by decide)]; rfl, fun h => apF_self h⟩
    have L2 := fun (hx : ∀ x ∈ L, SmallX x) Q h => rank_loop2 (H := H) s hs kr L hL100 hx hfr Q h L.length 0 (by omega)
    unfold sbx at L1 L2
    rw [rowS] at *
    simp [apS_nil, apF_nil, plL] at L1 L2
    rw [hLl] at L1 h3 h3'
    simp [C1, C2, h1, h2, h3, h3', hLl]
    refine L1 _ (fun h => ?_) ?_
    ·have hx := hsm h
     simp [h]
     refine L2 hx _ ?_
     simp
     rw [gleave_free (by simp), leave_two hH (fun hne => by rw [apF_get (by decide)]; exact apF_self hne) (fun hne => apF_self hne), WPv_some]
    ·intro e fr he h
     subst h
     simp [he, gleave_free]
  ·have e2 : (chkP t != 0) = true := by simpa using h2
   rw [rowS] at *
   simp [C1, C2, h1, h2, e2, gleave_free]
 ·have e1 : (chkS s != 0) = true := by simpa using h1
  rw [rowS] at *
  simp [C1, h1, e1, gleave_free]
end
section
variable {c : Nat} {H : Heap}
theorem eqSc_loop (L : List Score) (hn : L.length ≤ 1000000) (Q : GX → GSt → Prop) (hH : 0 < H.length) : ∀ k i : Nat, i + k = L.length →
  Q (.exit 0) ⟨[(4, gdead)], H, 26⟩ →
  WPL KC needT 32 (lp Tryz.f32 0) [0, 1, 5] [4] Q [(0, .pure (.slice (L.map Score.row))), (1, .pure (.slice (L.map Score.row))), (5, .pure (.int .i64 i))] H 26 := by
 intro k
 induction k with
 | zero =>
  intro i hi h1
  apply WPL_step
  conv => arg 4; whnf
  have : ¬ i < L.length := by omega
  simp [this, hH]
  exact h1
 | succ k ih =>
  intro i hi h1
  have hia : i < L.length := by omega
  have hw := w64 (x := (i : Int) + 1) (by omega) (by omega)
  have ih' := ih (i + 1) (by omega) h1
  apply WPL_step
  conv => arg 4; whnf
  simp [hia, hH, rowX, hw]
  simpa [rowX] using ih'
theorem eqSc_ok (L : List Score) (hn : L.length ≤ 1000000) (hH : 0 < H.length) :
  gcall KC (geval KC) 32 [.pure (.slice (L.map Score.row)), .pure (.slice (L.map Score.row))] c H = some (.pure (.bool true), H) := by
 refine WPv_eq (call_enter KC needT Tryz.func32 rfl rfl good32 rfl rfl rfl (by simp) hH ?_)
 simp
 refine eqSc_loop (H := [] :: H) L hn _ (by simp) L.length 0 (by omega) ?_
 simp [gleave_free]
theorem Rank_p (s : Scoring) (hs : s.keys.length ≤ 1000000) (t : List Int) (ht : t.length ≤ 1000000) (A : List (List Int)) (bA : ∀ a ∈ A, a.length ≤ 1000000) (hA : A.length ≤ 1000000) (hH : 0 < H.length) :
  gcall KC (geval KC) 63 [.pure (.agg s.row), .pure (.slice (t.map irow)), .pure (.slice (A.map arow))] c H = some (.pure (.tuple (rankT s t A)), H) := by
 rw [gcall_frz' rfl rfl rfl]
 exact Rank_ok0 s hs t ht A bA hA hH
theorem rankT_three (s : Scoring) (t : List Int) (A : List (List Int)) (hA : A.length ≤ 1000000) : ∃ (L : List Score) (P : List Int) (e : Int), L.length ≤ 1000000 ∧ P.length ≤ 1000000 ∧ rankT s t A = [.slice (L.map Score.row), .slice (P.map irow), .int .i64 e] := by
 unfold rankT
 split
 ·exact ⟨[], [], _, by simp, by simp, rfl⟩
 ·split
  ·exact ⟨[], [], _, by simp, by simp, rfl⟩
  ·split
   ·exact ⟨[], [], _, by simp, by simp, rfl⟩
   ·split
    ·exact ⟨[], [], _, by simp, by simp, rfl⟩
    ·exact ⟨_, _, _, by simpa using hA, by rw [plL_len]; exact hA, rfl⟩
end
section
variable {c : Nat} {H : Heap}
structure Deed where
 kind : Int
 guest : Int
 packet : Int
 number : Int
def Deed.row (d : Deed) : List PV := [.int .i64 d.kind, .int .i64 d.guest, .int .i64 d.packet, .int .i64 d.number]
theorem up2 {nm : Nm} (hlt : nm.1 < H.length) (f1 f0 : Fr) (w : Int) {n : Int} (hn : n ≤ 9223372036854775807) : gcall KC (geval KC) 42 [.bptr nm 0, .pure (.int .i64 n)] c (f1 :: f0 :: H.set nm (wbox w)) = some (.pure (.int .i64 (upR w n).1), f1 :: f0 :: H.set nm (wbox (upR w n).2)) := by
 have := up_ok (c := c) (n := n) (box2 hlt w f1 f0) hn
 rwa [word2 hlt, Heap.set_up (by simp [Heap.length_set]; omega), Heap.set_up (by rw [Heap.length_set]; exact hlt), Heap.set_set] at this
theorem any2 {nm : Nm} (hlt : nm.1 < H.length) (f1 f0 : Fr) (w : Int) {lo hi : Int} : gcall KC (geval KC) 46 [.bptr nm 0, .pure (.int .i64 lo), .pure (.int .i64 hi)] c (f1 :: f0 :: H.set nm (wbox w)) = some (.pure (.int .i64 (anyR w lo hi).1), f1 :: f0 :: H.set nm (wbox (anyR w lo hi).2)) := by
 have := any_ok (c := c) (lo := lo) (hi := hi) (box2 hlt w f1 f0)
 rwa [word2 hlt, Heap.set_up (by simp [Heap.length_set]; omega), Heap.set_up (by rw [Heap.length_set]; exact hlt), Heap.set_set] at this
theorem pick2 {nm : Nm} (hlt : nm.1 < H.length) (f1 f0 : Fr) (w : Int) {l : List Int} (hn : l.length < 4611686018427387904) : gcall KC (geval KC) 44 [.bptr nm 0, .pure (.slice (l.map irow))] c (f1 :: f0 :: H.set nm (wbox w)) = some (.pure (.int .i64 (pickR w l).1), f1 :: f0 :: H.set nm (wbox (pickR w l).2)) := by
 have := pick_ok (c := c) (box2 hlt w f1 f0) hn
 rwa [word2 hlt, Heap.set_up (by simp [Heap.length_set]; omega), Heap.set_up (by rw [Heap.length_set]; exact hlt), Heap.set_set] at this
theorem one2 {nm : Nm} (hlt : nm.1 < H.length) (f1 f0 : Fr) (w : Int) {n : Int} (hn : n ≤ 9223372036854775807) : gcall KC (geval KC) 27 [.bptr nm 0, .pure (.int .i64 n)] c (f1 :: f0 :: H.set nm (wbox w)) = some (.pure (.bool (oneR w n).1), f1 :: f0 :: H.set nm (wbox (oneR w n).2)) := by
 have := one_ok (c := c) (n := n) (box2 hlt w f1 f0) hn
 rwa [word2 hlt, Heap.set_up (by simp [Heap.length_set]; omega), Heap.set_up (by rw [Heap.length_set]; exact hlt), Heap.set_set] at this
theorem deeds_loop {nm : Nm} (hlt : nm.1 < H.length) (t : Tab) (hs : Sm t) (hp : t.packets ≤ 1000000) (N : Nat) (hN : N ≤ 1000) (Q : GX → GSt → Prop)
  (hQ : ∀ (ds : List Deed) (w : Int), ds.length = N → Q (.exit 0) ⟨[(7, apS (H.length, 47) 4 (ds.map Deed.row))], apF 47 4 (ds.map Deed.row) [(4, tb t)] :: H.set nm (wbox w), 49⟩) :
  ∀ (i : Nat) (ds : List Deed) (w : Int), i + ds.length = N →
  WPL KC needT 25 (lp Tryz.f25 0) [0, 4, 7, 8] [7] Q [(0, .bptr nm 0), (4, .bptr (H.length, 4) 0), (7, apS (H.length, 47) 4 (ds.map Deed.row)), (8, .pure (.int .i64 (i : Nat)))] (apF 47 4 (ds.map Deed.row) [(4, tb t)] :: H.set nm (wbox w)) 49 := by
 have hle : nm.1 ≤ H.length := by omega
 have hl2 : ∀ w, (H.set nm (wbox w)).length = H.length := fun w => Heap.length_set _ _ _
 have hs1 := hs.1
 intro i
 induction i with
 | zero =>
  intro ds w hi
  apply WPL_step
  conv => arg 4; whnf
  simp [hl2]
  simpa using hQ ds w (by omega)
 | succ i ih =>
  intro ds w hi
  have e1 : (i : Int) + 1 - 1 = i := by omega
  have hw := w64 (x := (i : Int) + 1 - 1) (by omega) (by omega)
  rw [e1] at hw
  have k0 : (0 : Int) < (i : Int) + 1 := by omega
  have hw2 := w64 (x := (t.answers.length : Int) + 1) (by omega) (by omega)
  obtain ⟨x, w1, y1⟩ : ∃ x w1, anyR w 0 7 = (x, w1) := ⟨_, _, rfl⟩
  obtain ⟨k, w2, y2⟩ : ∃ k w2, pickR w1 [1, 1, 1, 2, 2, 2, 2, 2, 3, 4, 4, 5, 6, x] = (k, w2) := ⟨_, _, rfl⟩
  obtain ⟨g, w3, y3⟩ : ∃ g w3, upR w2 ((t.answers.length : Int) + 1) = (g, w3) := ⟨_, _, rfl⟩
  obtain ⟨p, w4, y4⟩ : ∃ p w4, upR w3 t.packets = (p, w4) := ⟨_, _, rfl⟩
  obtain ⟨n, w5, y5⟩ : ∃ n w5, anyR w4 (-1) 8 = (n, w5) := ⟨_, _, rfl⟩
  obtain ⟨o, w6, y6⟩ : ∃ o w6, oneR w5 15 = (o, w6) := ⟨_, _, rfl⟩
  have Y := fun c f1 f0 w (lo hi : Int) => any2 (c := c) (H := H) hlt f1 f0 w (lo := lo) (hi := hi)
  have K := fun c f1 f0 w => pick2 (c := c) (H := H) hlt f1 f0 w (l := [1, 1, 1, 2, 2, 2, 2, 2, 3, 4, 4, 5, 6, x]) (by simp)
  simp [irow] at K
  have U1 := fun c f1 f0 w => up2 (c := c) (H := H) hlt f1 f0 w (n := (t.answers.length : Int) + 1) (by omega)
  have U2 := fun c f1 f0 w => up2 (c := c) (H := H) hlt f1 f0 w (n := t.packets) (by omega)
  have O := fun c f1 f0 w => one2 (c := c) (H := H) hlt f1 f0 w (n := 15) (by omega)
  have hb : (ds.length + 1) * 32 ≤ 1099511627776 := by omega
  have A := fun f0 fr (hf : Fr.get fr 47 = none) (d : Deed) w' => apK_1 (H := H.set nm (wbox w')) (l := H.length) (key := 47) (es := 4) (bytes := 32) (rows := ds.map Deed.row) (r := d.row) (fr := fr) (f0 := f0) (hl2 _) hf (by simpa using hb)
  apply WPL_step
  conv => arg 4; whnf
  cases o with
  | false =>
   have ih' := ih (ds ++ [⟨k, g, p, n⟩]) w6 (by simp; omega)
   have A' := fun f0 fr hf w' => A f0 fr hf ⟨k, g, p, n⟩ w'
   simp only [Deed.row] at A'
   simp [tb, hl2, hle, k0, Y, y1, K, y2, U1, y3, U2, y4, y5, O, y6, hw2, A', hw, e1, Deed.row]
   simpa [tb, Deed.row] using ih'
  | true =>
   obtain ⟨p', w7, y7⟩ : ∃ p w7, anyR w6 (-1) 9 = (p, w7) := ⟨_, _, rfl⟩
   obtain ⟨n', w8, y8⟩ : ∃ p w8, anyR w7 (-2) 9 = (p, w8) := ⟨_, _, rfl⟩
   have ih' := ih (ds ++ [⟨k, g, p', n'⟩]) w8 (by simp; omega)
   have A' := fun f0 fr hf w' => A f0 fr hf ⟨k, g, p', n'⟩ w'
   simp only [Deed.row] at A'
   simp [tb, hl2, hle, k0, Y, y1, K, y2, U1, y3, U2, y4, y5, O, y6, y7, y8, hw2, A', hw, e1, Deed.row]
   simpa [tb, Deed.row] using ih'
def setR (H : Heap) (nm : Nm) (es : Nat) (rows : List (List PV)) : Heap := if rows = [] then H else H.set nm (.arr es rows 0 false)
theorem deeds_ok0 {nm : Nm} (hlt : nm.1 < H.length) (t : Tab) (hs : Sm t) (hp : t.packets ≤ 1000000) (w0 : Int) (most : Nat) (hm : most ≤ 999) (hf : H.get (H.length - 1, newKey c 47) = none) (hne : nm ≠ (H.length - 1, newKey c 47)) (hcc : newKey c 47 < tyBase := by exact of_decide_eq_true (by kernel_rfl)) :
  ∃ (ds : List Deed) (wd : Int), ds.length ≤ most ∧ gcall KC (geval KC) 25 [.bptr nm 0, .pure (.agg t.row), .pure (.int .i64 (most : Nat))] c (H.set nm (wbox w0)) = some (apS (H.length - 1, newKey c 47) 4 (ds.map Deed.row), setR (H.set nm (wbox wd)) (H.length - 1, newKey c 47) 4 (ds.map Deed.row)) := by
 have hle : nm.1 ≤ H.length := by omega
 have hl2 : ∀ w, (H.set nm (wbox w)).length = H.length := fun w => Heap.length_set _ _ _
 suffices hs : WPv (gcall KC (geval KC) 25 [.bptr nm 0, .pure (.agg t.row), .pure (.int .i64 (most : Nat))] c (H.set nm (wbox w0))) (fun x => ∃ (ds : List Deed) (wd : Int), ds.length ≤ most ∧ x = (apS (H.length - 1, newKey c 47) 4 (ds.map Deed.row), setR (H.set nm (wbox wd)) (H.length - 1, newKey c 47) 4 (ds.map Deed.row))) by
  obtain ⟨x, hx, ds, wd, h1, e⟩ := hs
  exact ⟨ds, wd, h1, by rw [hx, e]⟩
 refine call_enter KC needT Tryz.func25 rfl rfl good25 rfl rfl rfl (by simp) (by rw [hl2]; omega) ?_
 obtain ⟨n, w1, e1, n1⟩ := upR_get w0 ((most : Int) + 1) (by omega) (by omega)
 have hw := w64 (x := (most : Int) + 1) (by omega) (by omega)
 have U := fun c f0 w => up1 (c := c) (H := H) hlt f0 w (n := (most : Int) + 1) (by omega)
 have L := fun Q hQ => deeds_loop (H := H) hlt t hs hp n (by omega) Q hQ n [] w1 (by simp)
 simp [tb, apS_nil, apF_nil] at L
 simp [Tab.row, hl2, hle, U, e1, hw]
 refine L _ (fun ds w hl => ?_)
 have hfw : (H.set nm (wbox w)).get (H.length - 1, newKey c 47) = none := by rw [Heap.get_set_other _ (Ne.symm hne)]; exact hf
 simp [hl2]
 by_cases hd : ds = []
 ·subst hd
  simp [apS_nil, apF_nil, gleave_keep, KC_keep, refs, refs2, refs1, deepRefs, dedup, moveOut, ren, ren2, ren1]
  exact ⟨[], by simp, by simp [apS_nil], w, by simp [setR]⟩
 ·have hd' : ds.map Deed.row ≠ [] := by simpa using hd
  have e1 : apS (H.length, 47) 4 (ds.map Deed.row) = .hdr (H.length, 47) 4 ds.length 0 ds.length := by unfold apS; rw [if_neg hd']; simp
  have e2 := apF_self (key := 47) (es := 4) (fr := [(4, tb t)]) hd'
  simp only [tb] at e2
  rw [e1]
  simp [gleave_keep, KC_keep, refs, refs2, refs1, deepRefs, boxRefs, e2, dedup, moveOut, cleanBlk, hl2, hfw, tyOk_lt hcc, ren, ren2, ren1]
  exact ⟨ds, by omega, by unfold apS; simp [hd], w, by unfold setR; simp [hd]⟩
theorem deeds_ok {nm : Nm} (hB : isBox H nm) (t : Tab) (hs : Sm t) (hp : t.packets ≤ 1000000) (most : Nat) (hm : most ≤ 999) (hf : H.get (H.length - 1, newKey c 47) = none) (hne : nm ≠ (H.length - 1, newKey c 47)) (hcc : newKey c 47 < tyBase := by exact of_decide_eq_true (by kernel_rfl)) :
  ∃ (ds : List Deed) (wd : Int), ds.length ≤ most ∧ gcall KC (geval KC) 25 [.bptr nm 0, .pure (.agg t.row), .pure (.int .i64 (most : Nat))] c H = some (apS (H.length - 1, newKey c 47) 4 (ds.map Deed.row), setR (H.set nm (wbox wd)) (H.length - 1, newKey c 47) 4 (ds.map Deed.row)) := by
 obtain ⟨ds, wd, h1, h2⟩ := deeds_ok0 (isBox_lt hB) t hs hp (wordAt H nm) most hm hf hne hcc
 rw [isBox_set hB] at h2
 exact ⟨ds, wd, h1, h2⟩
end
section
variable {c : Nat} {H : Heap}
theorem clone_okR (l : List Int) (h0 : l ≠ []) (hn : l.length ≤ 1000000) (hH : 0 < H.length) (hf : H.get (H.length - 1, newKey c 7) = none) (hcc : newKey c 7 < tyBase := by exact of_decide_eq_true (by kernel_rfl)) :
  gcall KC (geval KC) 106 [.pure (.slice (l.map irow))] c H = some (.hdr (H.length - 1, newKey c 7) 1 l.length 0 l.length, H.set (H.length - 1, newKey c 7) (.arr 1 (l.map irow) 0 false)) := by
 have he : (KC.cln 106 && emptyArg [.pure (.slice (l.map irow))]) = false := by
  obtain ⟨x, r, rfl⟩ := List.exists_cons_of_ne_nil h0
  have : emptyArg [.pure (.slice ((x :: r).map irow))] = false := rfl
  rw [this]; simp
 rw [gcall_frzC rfl he rfl rfl]
 exact clone_ok0 l h0 hn hH hf hcc
def rowV (nm : Nm) (es top : Nat) (x : Option (Nat × Heap)) : Option (GV × Heap) := match x with | some (i, H) => some (.rhdr nm es i top, H) | none => none
@[congr] theorem rowV_cg {nm : Nm} {es top : Nat} {x x' : Option (Nat × Heap)} (h : ∀ _ : Unit, x = x') : rowV nm es top x = rowV nm es top x' := by rw [h ()]
@[simp] theorem rowV_some {nm : Nm} {es top i : Nat} : rowV nm es top (some (i, H)) = some (.rhdr nm es i top, H) := .trans rfl rfl
theorem gliftRow_hdr {H0 Hr : Heap} {nm : Nm} {o key es top k : Nat} {f0 : Fr} {elems : List (List PV)} (h1 : H0.length = Hr.length + 1) (h2 : nm.1 < Hr.length) (h3 : H0.get (Hr.length, k) = none) (h4 : noRefF (Hr.length, k) f0 = true)
  (h5 : f0.get k = some (.arr es elems 0 false)) (h6 : top = elems.length) (h7 : 0 < top) :
  gliftRow H0 (.bptr nm o) key (.hdr (Hr.length, k) es top 0 top, f0 :: Hr) = rowV (nm.1, key) es top (addRow (delAll [k] f0 :: Hr) nm key es elems) := by
 subst h6
 have e : allNew H0 Hr.length f0 [k] = true := by simp [allNew, h3, h4]
 unfold gliftRow
 simp only [h1, h2, h5, e, decide_true, Bool.and_self, if_true, Nat.zero_le, true_and, and_true, h7]
 rfl
theorem lift_row {F : Fr} {b q : Nat} {a : List Int} (hal : 0 < a.length) : gliftRow ([] :: F :: H) (.bptr (H.length, b) 0) 77 (.hdr (H.length + 1, q) 1 a.length 0 a.length, [(q, .arr 1 (a.map irow) 0 false)] :: F :: H) =
  rowV (H.length, 77) 1 a.length (addRow ([] :: F :: H) (H.length, b) 77 1 (a.map irow)) := by
 have := gliftRow_hdr (H0 := [] :: F :: H) (Hr := F :: H) (nm := (H.length, b)) (o := 0) (key := 77) (es := 1) (top := a.length) (k := q) (f0 := [(q, .arr 1 (a.map irow) 0 false)]) (elems := a.map irow) (by simp) (by simp) (by simp [Fr.get]) (by simp [noRefF, noRefB]) (by simp [Fr.get]) (by simp) hal
 simpa only [delAll, Fr.del, if_true, List.length_cons] using this
def mrow (a : List Int) : List (List PV) := a.map irow
def wFr (L : Nat) (t : Tab) (i : Nat) : Fr :=
 if i = 0 then [(1, tb t), (8, .box [.pure (.int .i64 t.packets), .pure (.int .i64 t.passed), .pure (.int .i64 t.state), .nils])]
 else [(1, tb t), (8, .box [.pure (.int .i64 t.packets), .pure (.int .i64 t.passed), .pure (.int .i64 t.state), .hdr (L, 77) 1 i 0 i]), (77, .mat 1 ((t.answers.take i).map mrow) i)]
theorem work_loop (t : Tab) (hs : Sm t) (hne : ∀ a ∈ t.answers, a ≠ []) (Q : GX → GSt → Prop) (hH : 0 < H.length)
  (hQ : Q (.exit 0) ⟨[(3, .bptr (H.length, 8) 0)], wFr H.length t t.answers.length :: H, 35⟩) : ∀ k i : Nat, i + k = t.answers.length →
  WPL KC needT 76 (lp Tryz.f76 0) [3, 14, 15, 16] [3] Q [(3, .bptr (H.length, 8) 0), (14, .pure (.slice (t.answers.map arow))), (15, .pure (.int .i64 t.answers.length)), (16, .pure (.int .i64 (i : Nat)))] (wFr H.length t i :: H) 35 := by
 have hs1 := hs.1
 intro k
 induction k with
 | zero =>
  intro i hi
  obtain rfl : i = t.answers.length := by omega
  apply WPL_step
  conv => arg 4; whnf
  simp
  exact hQ
 | succ k ih =>
  intro i hi
  have hia : i < t.answers.length := by omega
  have hw := w64 (x := (i : Int) + 1) (by omega) (by omega)
  have hla := hs.2 _ (List.getElem_mem hia)
  have hn := hne _ (List.getElem_mem hia)
  have ih' := ih (i + 1) (by omega)
  obtain ⟨a, ha⟩ : ∃ a, t.answers[i] = a := ⟨_, rfl⟩
  rw [ha] at hla hn
  have C := fun (H : Heap) (hH : 0 < H.length) hf => clone_okR (c := 27) (H := H) a hn hla hH hf
  have hal : 0 < a.length := by cases a; simp at hn; simp
  have htk : (t.answers.take (i + 1)).map mrow = (t.answers.take i).map mrow ++ [mrow a] := by rw [List.take_succ_eq_append_getElem hia, ha]; simp
  have hb : (i + 1) * 24 ≤ 1099511627776 := by omega
  apply WPL_step
  conv => arg 4; whnf
  by_cases h0 : i = 0
  ·subst h0
   have C0 := C ([] :: wFr H.length t 0 :: H) (by simp) (by simp [wFr])
   have G : gliftRow ([] :: wFr H.length t 0 :: H) (.bptr (H.length, 8) 0) 77 (.hdr (H.length + 1, newKey 27 7) 1 a.length 0 a.length, [(newKey 27 7, .arr 1 (a.map irow) 0 false)] :: wFr H.length t 0 :: H) =
     some (.rhdr (H.length, 77) 1 0 a.length, [] :: [(1, tb t), (8, .box [.pure (.int .i64 t.packets), .pure (.int .i64 t.passed), .pure (.int .i64 t.state), .nils]), (77, .mat 1 [mrow a] 0)] :: H) := by
    rw [lift_row hal]
    simp [wFr, mrow]
   simp [wFr, tb] at C0 G
   simp [wFr, htk, mrow] at ih'
   simp [hia, ha, arow, wFr, C0, G, mrow, hw, tb, show IntKind.i64.wrap 1 = 1 from rfl]
   simpa [tb, arow] using ih'
  ·have C0 := C ([] :: wFr H.length t i :: H) (by simp) (by simp [wFr, h0])
   have hlt : ((t.answers.take i).map mrow).length = i := by simp; omega
   have hmin : min i t.answers.length = i := by omega
   have G : gliftRow ([] :: wFr H.length t i :: H) (.bptr (H.length, 8) 0) 77 (.hdr (H.length + 1, newKey 27 7) 1 a.length 0 a.length, [(newKey 27 7, .arr 1 (a.map irow) 0 false)] :: wFr H.length t i :: H) =
     some (.rhdr (H.length, 77) 1 i a.length, [] :: [(1, tb t), (8, .box [.pure (.int .i64 t.packets), .pure (.int .i64 t.passed), .pure (.int .i64 t.state), .hdr (H.length, 77) 1 i 0 i]), (77, .mat 1 ((t.answers.take i).map mrow ++ [mrow a]) i)] :: H) := by
    rw [lift_row hal]
    simp [wFr, h0, hlt, hmin, mrow]
   have hi1 : ¬ i + 1 = 0 := by omega
   have hgd : ((t.answers.take i).map mrow ++ [mrow a]).getD i [] = mrow a := by rw [List.getD_eq_getElem?_getD, List.getElem?_append_right (by omega)]; simp [hlt, hmin]
   have hgl : (mrow a).length = a.length := by simp [mrow]
   simp [wFr, h0, tb] at C0 G
   simp only [wFr, if_neg hi1, htk] at ih'
   have hcnd : ((List.map mrow (List.take i t.answers)).length + 1) = i + 1 := by rw [hlt]
   simp [hia, ha, arow, wFr, h0, C0, G, hw, tb, hlt, hmin, hgl, hb]
   simpa [tb, hi1] using ih'
def wBox (L k : Nat) (t : Tab) : Blk := .box [.pure (.int .i64 t.packets), .pure (.int .i64 t.passed), .pure (.int .i64 t.state), .hdr (L, k) 1 t.answers.length 0 t.answers.length]
def wMat (t : Tab) : Blk := .mat 1 (t.answers.map mrow) t.answers.length
theorem workOf_ok (t : Tab) (hs : Sm t) (h0 : t.answers ≠ []) (hne : ∀ a ∈ t.answers, a ≠ []) (hH : 0 < H.length) (hf1 : H.get (H.length - 1, newKey c 8) = none) (hf2 : H.get (H.length - 1, newKey c 77) = none) (hc8 : newKey c 8 < tyBase := by exact of_decide_eq_true (by kernel_rfl)) (hc77 : newKey c 77 < tyBase := by exact of_decide_eq_true (by kernel_rfl)) :
  gcall KC (geval KC) 76 [.pure (.agg t.row)] c H = some (.bptr (H.length - 1, newKey c 8) 0, (H.set (H.length - 1, newKey c 8) (wBox (H.length - 1) (newKey c 77) t)).set (H.length - 1, newKey c 77) (wMat t)) := by
 refine WPv_eq (call_enter KC needT Tryz.func76 rfl rfl good76 rfl rfl rfl (by simp) hH ?_)
 have L := fun Q hQ => work_loop (H := H) t hs hne Q hH hQ t.answers.length 0 (by omega)
 simp [wFr, tb] at L
 simp [Tab.row]
 refine L _ ?_
 have hl0 : ¬ t.answers.length = 0 := fun e => h0 (List.length_eq_zero_iff.1 e)
 have hk : newKey c 77 ≠ newKey c 8 := by unfold newKey; omega
 simp [h0]
 simp [gleave_keep, KC_keep, refs, refs2, refs1, deepRefs, boxRefs, matRefs, dedup, moveOut, cleanBlk, clM, isMat, ren, ren2, ren1, hf1, hf2, hk, tyOk_lt hc8, tyOk_lt hc77, Heap.get_set_other, wBox, wMat]
end
section
variable {c : Nat} {H : Heap}
structure isW (H : Heap) (l kb km : Nat) (t : Tab) : Prop where
 gb : H.get (l, kb) = some (wBox l km t)
 gm : H.get (l, km) = some (wMat t)
 sb : H.set (l, kb) (wBox l km t) = H
 sm : H.set (l, km) (wMat t) = H
 ne : kb ≠ km
 lt : l < H.length
def wSet (H : Heap) (l kb km : Nat) (t : Tab) : Heap := (H.set (l, kb) (wBox l km t)).set (l, km) (wMat t)
theorem isW.self {l kb km : Nat} {t : Tab} (h : isW H l kb km t) : wSet H l kb km t = H := by unfold wSet; rw [h.sb, h.sm]
theorem isW.up {l kb km : Nat} {t : Tab} (h : isW H l kb km t) (f : Fr) : isW (f :: H) l kb km t := by
 have hl := h.lt
 have hn : ¬ l = H.length := by omega
 exact ⟨by simp [hn, h.gb], by simp [hn, h.gm], by simp [hn, h.sb], by simp [hn, h.sm], h.ne, by simp; omega⟩
theorem wSet_up {l kb km : Nat} {t : Tab} (f : Fr) (hl : l < H.length) : wSet (f :: H) l kb km t = f :: wSet H l kb km t := by
 have hn : ¬ l = H.length := by omega
 simp [wSet, hn]
theorem Heap.set_commS {a b : Nm} (x y : Blk) (h : a ≠ b) : ∀ {H : Heap}, (H.set a x).set b y = (H.set b y).set a x
 | [] => rfl
 | f :: H => by
  by_cases h1 : a.1 = H.length
  ·by_cases h2 : b.1 = H.length
   ·have hk : b.2 ≠ a.2 := fun e => h (Prod.ext (by omega) e.symm)
    simp only [Heap.set, h1, h2, if_true]
    rw [Fr.ins_comm _ _ hk]
   ·simp only [Heap.set, h1, h2, if_true, if_false, Heap.length_set]
  ·by_cases h2 : b.1 = H.length
   ·simp only [Heap.set, h1, h2, if_true, if_false, Heap.length_set]
   ·simp only [Heap.set, h1, h2, if_false, Heap.length_set, Heap.set_commS x y h]
theorem isW.box {l kb km : Nat} {t t' : Tab} (h : isW H l kb km t) (he : t'.answers = t.answers) : wSet H l kb km t' = H.set (l, kb) (wBox l km t') := by
 have hne : ((l, kb) : Nm) ≠ (l, km) := fun e => h.ne (Prod.mk.inj e).2
 have hm : wMat t' = wMat t := by unfold wMat; rw [he]
 unfold wSet
 rw [hm, Heap.set_commS _ _ hne, h.sm]
theorem isW.mat {l kb km : Nat} {t t' : Tab} (h : isW H l kb km t) (h1 : t'.packets = t.packets) (h2 : t'.passed = t.passed) (h3 : t'.state = t.state) (h4 : t'.answers.length = t.answers.length) : wSet H l kb km t' = H.set (l, km) (wMat t') := by
 have hb : wBox l km t' = wBox l km t := by unfold wBox; rw [h1, h2, h3, h4]
 unfold wSet
 rw [hb, h.sb]
def wrT (t : Tab) (d : Deed) : Tab := { t with answers := t.answers.set d.guest.toNat ((t.answers.getD d.guest.toNat []).set d.packet.toNat d.number) }
theorem pass_ok {l kb km : Nat} {t : Tab} (hW : isW H l kb km t) (d : Deed) (hp : t.passed ≤ 1000000) (hp0 : -1000000 ≤ t.passed) (hH : 0 < H.length) : gcall KC (geval KC) 107 [.bptr (l, kb) 0, .pure (.agg d.row)] c H =
  some (.pure (.int .i64 (if t.state ≠ 1 then 10 else if t.passed = t.packets then 8 else 0)), wSet H l kb km (if t.state ≠ 1 then t else if t.passed = t.packets then t else { t with passed := t.passed + 1 })) := by
 refine WPv_eq (call_enter KC needT Tryz.func107 rfl rfl good107 rfl rfl rfl (by simp) hH ?_)
 have hl := hW.lt
 have hn : ¬ l = H.length := by omega
 have hle : l ≤ H.length := by omega
 have hb := hW.gb
 unfold wBox at hb
 by_cases h1 : t.state = 1
 ·by_cases h2 : t.passed = t.packets
  ·simp [h1, h2, hW.self, Deed.row, hn, hle, hb, gleave_free]
  ·have h2' : (t.passed == t.packets) = false := by simpa using h2
   have hw := w64 (x := t.passed + 1) (by omega) (by omega)
   rw [if_neg (by simpa using h1), if_neg h2, if_neg (by simpa using h1), if_neg h2, hW.box (t' := { t with passed := t.passed + 1 }) rfl]
   simp [h1, h2', Deed.row, hn, hle, hb, hw, gleave_free, wBox]
 ·have h1' : (t.state != 1) = true := by simpa using h1
  simp [h1, h1', hW.self, Deed.row, hn, hle, hb, gleave_free]
theorem turn_okW {l kb km : Nat} {t : Tab} (hW : isW H l kb km t) (a b : Int) (hH : 0 < H.length) : gcall KC (geval KC) 136 [.bptr (l, kb) 0, .pure (.int .i64 a), .pure (.int .i64 b)] c H =
  some (.pure (.int .i64 (if t.state ≠ a then 10 else 0)), wSet H l kb km (if t.state ≠ a then t else { t with state := b })) := by
 refine WPv_eq (call_enter KC needT Tryz.func136 rfl rfl good136 rfl rfl rfl (by simp) hH ?_)
 have hl := hW.lt
 have hn : ¬ l = H.length := by omega
 have hle : l ≤ H.length := by omega
 have hb := hW.gb
 unfold wBox at hb
 by_cases h1 : t.state = a
 ·rw [if_neg (by simpa using h1), if_neg (by simpa using h1), hW.box (t' := { t with state := b }) rfl]
  simp [h1, hn, hle, hb, gleave_free, wBox]
 ·have h1' : (t.state != a) = true := by simpa using h1
  simp [h1, h1', hW.self, hn, hle, hb, gleave_free]
theorem pause_ok {l kb km : Nat} {t : Tab} (hW : isW H l kb km t) (d : Deed) (hH : 0 < H.length) : gcall KC (geval KC) 109 [.bptr (l, kb) 0, .pure (.agg d.row)] c H =
  some (.pure (.int .i64 (if t.state ≠ 1 then 10 else 0)), wSet H l kb km (if t.state ≠ 1 then t else { t with state := 2 })) := by
 refine WPv_eq (call_enter KC needT Tryz.func109 rfl rfl good109 rfl rfl rfl (by simp) hH ?_)
 have T := fun c f => turn_okW (c := c) (hW.up f) 1 2 (by simp)
 simp only [wSet_up _ hW.lt] at T
 simp [T, Deed.row, gleave_free]
theorem resume_ok {l kb km : Nat} {t : Tab} (hW : isW H l kb km t) (d : Deed) (hH : 0 < H.length) : gcall KC (geval KC) 110 [.bptr (l, kb) 0, .pure (.agg d.row)] c H =
  some (.pure (.int .i64 (if t.state ≠ 2 then 10 else 0)), wSet H l kb km (if t.state ≠ 2 then t else { t with state := 1 })) := by
 refine WPv_eq (call_enter KC needT Tryz.func110 rfl rfl good110 rfl rfl rfl (by simp) hH ?_)
 have T := fun c f => turn_okW (c := c) (hW.up f) 2 1 (by simp)
 simp only [wSet_up _ hW.lt] at T
 simp [T, Deed.row, gleave_free]
theorem open_ok {l kb km : Nat} {t : Tab} (hW : isW H l kb km t) (d : Deed) (hH : 0 < H.length) : gcall KC (geval KC) 112 [.bptr (l, kb) 0, .pure (.agg d.row)] c H =
  some (.pure (.int .i64 (if t.state ≠ 3 then 10 else 0)), wSet H l kb km (if t.state ≠ 3 then t else { t with state := 4 })) := by
 refine WPv_eq (call_enter KC needT Tryz.func112 rfl rfl good112 rfl rfl rfl (by simp) hH ?_)
 have T := fun c f => turn_okW (c := c) (hW.up f) 3 4 (by simp)
 simp only [wSet_up _ hW.lt] at T
 simp [T, Deed.row, gleave_free]
theorem close_ok {l kb km : Nat} {t : Tab} (hW : isW H l kb km t) (d : Deed) (hH : 0 < H.length) : gcall KC (geval KC) 111 [.bptr (l, kb) 0, .pure (.agg d.row)] c H =
  some (.pure (.int .i64 (if t.state = 1 ∧ t.passed < t.packets then 6 else if t.state ≠ 1 then 10 else 0)), wSet H l kb km (if t.state = 1 ∧ t.passed < t.packets then t else if t.state ≠ 1 then t else { t with state := 3 })) := by
 refine WPv_eq (call_enter KC needT Tryz.func111 rfl rfl good111 rfl rfl rfl (by simp) hH ?_)
 have hl := hW.lt
 have hn : ¬ l = H.length := by omega
 have hle : l ≤ H.length := by omega
 have hb := hW.gb
 unfold wBox at hb
 have T := fun c f => turn_okW (c := c) (hW.up f) 1 3 (by simp)
 simp only [wSet_up _ hl] at T
 by_cases h1 : t.state = 1
 ·by_cases h2 : t.passed < t.packets
  ·simp [h1, h2, hW.self, Deed.row, hn, hle, hb, gleave_free]
  ·simp [h1] at T
   simp [h1, h2, Deed.row, hn, hle, hb, T, gleave_free]
 ·have h1' : (t.state == 1) = false := by simpa using h1
  simp [h1] at T
  simp [h1, h1', Deed.row, hn, hle, hb, T, gleave_free]
def wrE (t : Tab) (d : Deed) : Int :=
 if t.state ≠ 1 then 10 else if inB d.guest 0 ((t.answers.length : Int) - 1) = false then 7 else if inB d.packet 0 (t.packets - 1) = false then 7 else if t.passed ≤ d.packet then 13 else if inB d.number (-1) 8 = false then 2 else 0
theorem write_okS {l kb km : Nat} {t : Tab} (hW : isW H l kb km t) (d : Deed) (hs : Sm t) (hp : 0 ≤ t.packets ∧ t.packets ≤ 1000000) (ha : ∀ a ∈ t.answers, (a.length : Int) = t.packets) (hH : 0 < H.length) :
  gcall KC (geval KC) 108 [.bptr (l, kb) 0, .pure (.agg d.row)] c H = some (.pure (.int .i64 (wrE t d)), wSet H l kb km (if wrE t d ≠ 0 then t else wrT t d)) := by
 refine WPv_eq (call_enter KC needT Tryz.func108 rfl rfl good108 rfl rfl rfl (by simp) hH ?_)
 have hl := hW.lt
 have hn : ¬ l = H.length := by omega
 have hle : l ≤ H.length := by omega
 have hb := hW.gb
 have hm := hW.gm
 unfold wBox at hb
 unfold wMat at hm
 have hs1 := hs.1
 have W := fun c (H : Heap) (hH : 0 < H.length) (x lo hi : Int) => withinP_ok (c := c) (x := x) (lo := lo) (hi := hi) (H := H) hH
 have w1 := w64 (x := (t.answers.length : Int) - 1) (by omega) (by omega)
 have w2 := w64 (x := t.packets - 1) (by omega) (by omega)
 unfold wrE
 by_cases h1 : t.state = 1
 ·by_cases h2 : inB d.guest 0 ((t.answers.length : Int) - 1) = false
  ·simp [h1, h2, hW.self, Deed.row, hn, hle, hb, W, w1, gleave_free]
  have h2' : inB d.guest 0 ((t.answers.length : Int) - 1) = true := by simpa using h2
  by_cases h3 : inB d.packet 0 (t.packets - 1) = false
  ·simp [h1, h2', h3, hW.self, Deed.row, hn, hle, hb, W, w1, w2, gleave_free]
  have h3' : inB d.packet 0 (t.packets - 1) = true := by simpa using h3
  by_cases h4 : t.passed ≤ d.packet
  ·simp [h1, h2', h3', h4, hW.self, Deed.row, hn, hle, hb, W, w1, w2, gleave_free]
  by_cases h5 : inB d.number (-1) 8 = false
  ·simp [h1, h2', h3', h4, h5, hW.self, Deed.row, hn, hle, hb, W, w1, w2, gleave_free]
  have h5' : inB d.number (-1) 8 = true := by simpa using h5
  have r2 := inB_iff.1 h2'
  have r3 := inB_iff.1 h3'
  have hg : d.guest.toNat < t.answers.length := by omega
  have hg0 : ¬ d.guest < 0 := by omega
  have hgl : d.guest < (t.answers.length : Int) := by omega
  obtain ⟨a, hae⟩ : ∃ a, t.answers[d.guest.toNat] = a := ⟨_, rfl⟩
  have hal := ha _ (List.getElem_mem hg)
  rw [hae] at hal
  have hk : d.packet.toNat < a.length := by omega
  have hk0 : ¬ d.packet < 0 := by omega
  have hkl : d.packet < (a.length : Int) := by omega
  have e : wrT t d = { t with answers := t.answers.set d.guest.toNat (a.set d.packet.toNat d.number) } := by
   unfold wrT; rw [getD_lt hg, hae]
  simp only [h1, h2', h3', h5', if_neg h4, ne_eq, not_true_eq_false, if_false, Bool.true_eq_false]
  rw [hW.mat (t' := wrT t d) rfl rfl rfl (by simp [wrT])]
  have ed : wMat (wrT t d) = .mat 1 ((t.answers.map mrow).set d.guest.toNat ((mrow a).set d.packet.toNat [.int .i64 d.number])) t.answers.length := by
   rw [e]; unfold wMat; simp [mrow, irow, List.map_set]
  rw [ed]
  have hmr : (mrow a)[d.packet.toNat]? = some [.int .i64 a[d.packet.toNat]] := by simp [mrow, irow, hk]
  have hml : (mrow a).length = a.length := by simp [mrow]
  simp [h1, h2', h3', h4, h5', Deed.row, hn, hle, hb, hm, W, w1, w2, hg, hg0, hgl, hae, hk0, hkl, hmr, hml, gleave_free]
 ·have h1' : (t.state != 1) = true := by simpa using h1
  simp [h1, h1', hW.self, Deed.row, hn, hle, hb, gleave_free]
end
section
variable {c : Nat} {H : Heap}
@[simp] theorem gstep_insert {K : Ctx} {fn : FuncId} {rec : Rec} {dst : Option Tmp} {ty : TypeId} {pos : String} {af : Array Edge} {gu : Option (Nat × Bool)} {s : Slots} (t : TypeId) (m k v : Operand) :
  gstep K rec fn ⟨dst, .insert t m k v, ty, pos, af, gu⟩ s H = rh (muV K (tmap K.P t) H (ev s m) (ev s k) (ev s v)) := by
 have := gop_mapUpdate (K := K) (fn := fn) (dst := dst) (ty := ty) (pos := pos) (af := af) (gu := gu) (s := s) (H := H) (t := t) (m := m) (k := k) (v := v)
 rw [← this]
 rfl
@[simp] theorem lowerVal_func {l0 : Nat} {f : Nat} {a b : List GV} : lowerVal H l0 (.func f a b) = some (if allLe l0 a && allLe l0 b then .func f a b else gdead, H) := .trans rfl rfl
def doE (t : Tab) (d : Deed) : Int :=
 if d.kind = 1 then (if t.state ≠ 1 then 10 else if t.passed = t.packets then 8 else 0)
 else if d.kind = 2 then wrE t d
 else if d.kind = 3 then (if t.state ≠ 1 then 10 else 0)
 else if d.kind = 4 then (if t.state ≠ 2 then 10 else 0)
 else if d.kind = 5 then (if t.state = 1 ∧ t.passed < t.packets then 6 else if t.state ≠ 1 then 10 else 0)
 else if d.kind = 6 then (if t.state ≠ 3 then 10 else 0)
 else 4
def doN (t : Tab) (d : Deed) : Tab :=
 if d.kind = 1 then { t with passed := t.passed + 1 }
 else if d.kind = 2 then wrT t d
 else if d.kind = 3 then { t with state := 2 }
 else if d.kind = 4 then { t with state := 1 }
 else if d.kind = 5 then { t with state := 3 }
 else { t with state := 4 }
def doT (t : Tab) (d : Deed) : Tab := if doE t d ≠ 0 then t else doN t d
structure Vd (t : Tab) : Prop where
 pk : 1 ≤ t.packets ∧ t.packets ≤ 9
 ps : 0 ≤ t.passed ∧ t.passed ≤ t.packets
 n : 1 ≤ t.answers.length ∧ t.answers.length ≤ 12
 row : ∀ a ∈ t.answers, (a.length : Int) = t.packets
theorem Vd.sm {t : Tab} (h : Vd t) : Sm t := ⟨by have := h.n; omega, fun a ha => by have := h.row a ha; have := h.pk; omega⟩
theorem do_ok {l kb km : Nat} {t : Tab} (hW : isW H l kb km t) (d : Deed) (hV : Vd t) (hH : 0 < H.length) :
  gcall KC (geval KC) 78 [.bptr (l, kb) 0, .pure (.agg d.row)] c H = some (.pure (.int .i64 (doE t d)), wSet H l kb km (doT t d)) := by
 refine WPv_eq (call_enter KC needT Tryz.func78 rfl rfl good78 rfl rfl rfl (by simp) hH ?_)
 have hl := hW.lt
 have hn : ¬ l = H.length := by omega
 have hle : l ≤ H.length := by omega
 have hp := hV.pk
 have hps := hV.ps
 have M1 := fun c f => pass_ok (c := c) (hW.up f) d (by omega) (by omega) (by simp)
 have M2 := fun c f => write_okS (c := c) (hW.up f) d hV.sm (by omega) hV.row (by simp)
 have M3 := fun c f => pause_ok (c := c) (hW.up f) d (by simp)
 have M4 := fun c f => resume_ok (c := c) (hW.up f) d (by simp)
 have M5 := fun c f => close_ok (c := c) (hW.up f) d (by simp)
 have M6 := fun c f => open_ok (c := c) (hW.up f) d (by simp)
 obtain ⟨k, g, p, n⟩ := d
 simp only [wSet_up _ hl, Deed.row] at M1 M2 M3 M4 M5 M6
 unfold doT doE doN
 by_cases k1 : k = 1
 ·subst k1
  simp [Deed.row, hn, hle, findEntry, keyEq, M1, gleave_free]
  by_cases a : t.state = 1 <;> by_cases b : t.passed = t.packets <;> simp [a, b]
 by_cases k2 : k = 2
 ·subst k2
  simp [Deed.row, hn, hle, findEntry, keyEq, M2, gleave_free]
 by_cases k3 : k = 3
 ·subst k3
  simp [Deed.row, hn, hle, findEntry, keyEq, M3, gleave_free]
 by_cases k4 : k = 4
 ·subst k4
  simp [Deed.row, hn, hle, findEntry, keyEq, M4, gleave_free]
 by_cases k5 : k = 5
 ·subst k5
  simp [Deed.row, hn, hle, findEntry, keyEq, M5, gleave_free]
  by_cases a : t.state = 1 <;> by_cases b : t.passed < t.packets <;> simp [a, b]
 by_cases k6 : k = 6
 ·subst k6
  simp [Deed.row, hn, hle, findEntry, keyEq, M6, gleave_free]
 have e1 : (k == 1) = false := by simpa using k1
 have e2 : (k == 2) = false := by simpa using k2
 have e3 : (k == 3) = false := by simpa using k3
 have e4 : (k == 4) = false := by simpa using k4
 have e5 : (k == 5) = false := by simpa using k5
 have e6 : (k == 6) = false := by simpa using k6
 simp [Deed.row, hn, hle, findEntry, keyEq, e1, e2, e3, e4, e5, e6, k1, k2, k3, k4, k5, k6, hW.self, gleave_free]
end
section
variable {c : Nat} {H : Heap}
def zeroT : Tab := ⟨0, 0, 0, []⟩
def DoV (t : Tab) (d : Deed) : Tab × Int := if chkT t ≠ 0 then (zeroT, chkT t) else if doE t d ≠ 0 then (zeroT, doE t d) else (doN t d, 0)
theorem rowsE_all {p q : Int} : ∀ {l : List (List Int)}, rowsE p q l = 0 → ∀ a ∈ l, rowE p q a = 0
 | [], _, a, ha => by simp at ha
 | b :: r, h, a, ha => by
  unfold rowsE at h
  by_cases e : rowE p q b = 0
  ·rw [if_neg (not_not_intro e)] at h
   rcases List.mem_cons.1 ha with rfl | ha
   ·exact e
   ·exact rowsE_all h a ha
  ·rw [if_pos e] at h; exact absurd h e
theorem chkT_vd {t : Tab} (h : chkT t = 0) : Vd t := by
 unfold chkT at h
 split at h
 ·simp at h
 ·rename_i h1
  split at h
  ·simp at h
  ·rename_i h2
   split at h
   ·simp at h
   ·split at h
    ·simp at h
    ·rename_i h4
     split at h
     ·simp at h
     ·rename_i h5
      split at h
      ·rename_i h6; exact absurd h h6
      ·rename_i h6
       have r1 := inB_iff.1 (by simpa using h1 : inB t.packets 1 9 = true)
       have r2 := inB_iff.1 (by simpa using h2 : inB t.passed 0 t.packets = true)
       refine ⟨by omega, by omega, by omega, fun a ha => ?_⟩
       have := rowsE_all (by simpa using h6) a ha
       unfold rowE at this
       split at this
       ·rename_i e; exact absurd this e
       ·rename_i e; exact wrF_len (by simpa using e)
theorem Vd.ne {t : Tab} (h : Vd t) : t.answers ≠ [] := fun e => by have := h.n; rw [e] at this; simp at this
theorem Vd.ne' {t : Tab} (h : Vd t) : ∀ a ∈ t.answers, a ≠ [] := fun a ha e => by have := h.row a ha; rw [e] at this; have := h.pk; simp at *; omega
theorem Do_ok (t : Tab) (d : Deed) (hs : Sm t) (hH : 0 < H.length) : gcall KC (geval KC) 28 [.pure (.agg t.row), .pure (.agg d.row)] c H = some (.pure (.tuple [.agg (DoV t d).1.row, .int .i64 (DoV t d).2]), H) := by
 refine WPv_eq (call_enter KC needT Tryz.func28 rfl rfl good28 rfl rfl rfl (by simp) hH ?_)
 have C := fun c (H : Heap) (hH : 0 < H.length) => chkT_ok (c := c) (H := H) t hs hH
 unfold DoV
 by_cases h1 : chkT t = 0
 ·have hV := chkT_vd h1
  have W := fun F => workOf_ok (c := 16) (H := F :: H) t hs hV.ne hV.ne' (by simp)
  have k1 : newKey 16 8 = 32785 := by decide
  have k2 : newKey 16 77 = 315409 := by decide
  simp only [k1, k2] at W
  let F2 : Fr := [(2, tb t), (3, .box [.pure (.int .i64 d.kind), .pure (.int .i64 d.guest), .pure (.int .i64 d.packet), .pure (.int .i64 d.number)]), (4, zb64)]
  have W2 := W F2 (by simp [F2]) (by simp [F2])
  have hW : isW ([(2, tb t), (3, .box [.pure (.int .i64 d.kind), .pure (.int .i64 d.guest), .pure (.int .i64 d.packet), .pure (.int .i64 d.number)]), (4, zb64), (32785, wBox H.length 315409 t), (315409, wMat t)] :: H) H.length 32785 315409 t :=
   ⟨by simp, by simp, by simp, by simp, by decide, by simp⟩
  have D := do_ok (c := 19) hW d hV (by simp)
  simp [F2, tb, Tab.row, zb64, wBox, wMat] at W2
  simp [wSet, tb, Deed.row, zb64, wBox, wMat] at D
  simp only [Tab.row] at C
  by_cases h2 : doE t d = 0
  ·have e2 : doT t d = doN t d := by unfold doT; rw [if_neg (not_not_intro h2)]
   rw [e2, h2] at D
   have hnl : ¬ H.length ≤ H.length - 1 := by omega
   have hcm : ((fun r => [PV.slice r]) ∘ mrow) = arow := rfl
   have htk : ((doN t d).answers.map arow).take (doN t d).answers.length = (doN t d).answers.map arow := List.take_of_length_le (by simp)
   simp [h1, h2, Tab.row, Deed.row, C, W2, D, wBox, wMat, gleave_free, hnl, hcm, htk]
  ·have h2' : (doE t d != 0) = true := by simpa using h2
   simp [h1, h2, h2', Tab.row, Deed.row, C, W2, D, zeroT, gleave_free]
 ·have h1' : (chkT t != 0) = true := by simpa using h1
  simp only [Tab.row] at C
  simp [h1, h1', Tab.row, Deed.row, C, zeroT, gleave_free]
end
theorem firstE_ansok : ∀ {a : List Int}, firstE ansE a = 0 → AnsOk a
 | [], _ => fun x hx => by simp at hx
 | y :: r, h => by
  unfold firstE at h
  split at h
  ·rename_i e; exact absurd h e
  ·rename_i e
   have e : ansE y = 0 := by simpa using e
   intro x hx
   rcases List.mem_cons.1 hx with rfl | hx
   ·unfold ansE at e
    split at e
    ·rename_i e2; exact inB_iff.1 e2
    ·simp at e
   ·exact firstE_ansok h x hx
theorem lateOk_get {a : List Int} (h : lateOk a = true) : ∀ k, (hk : k < a.length) → a[k] = -1 := fun k hk => by
 unfold lateOk at h
 have := List.all_eq_true.1 h _ (List.getElem_mem hk)
 simpa using this
theorem chkT_tok {t : Tab} (h : chkT t = 0) : TOk t := by
 have hv := chkT_vd h
 have h1 := hv.pk; have h2 := hv.ps; have h3 := hv.n
 unfold chkT at h
 rw [inB_iff.2 ⟨by omega, by omega⟩, inB_iff.2 ⟨by omega, by omega⟩, if_neg (by simp), if_neg (by simp)] at h
 split at h
 ·simp at h
 ·rename_i hst
  rw [if_neg (by omega), if_neg (by omega)] at h
  split at h
  ·rename_i e; exact absurd h e
  ·rename_i hr
   split at h
   ·simp at h
   ·rename_i hc
    have hst := inB_iff.1 (by simpa using hst : inB t.state 1 4 = true)
    refine ⟨h1, h2, hst, fun h => ?_, h3, fun a ha => ⟨hv.row a ha, ?_⟩⟩
    ·have : ¬ t.passed < t.packets := fun h' => hc ⟨h, h'⟩
     omega
    ·have hra := rowsE_all (by simpa using hr) a ha
     have hwf : wrF a t.packets = 0 := by
      unfold rowE at hra
      split at hra
      ·rename_i e; exact absurd hra e
      ·rename_i e; simpa using e
     have hlen := hv.row a ha
     rw [rowE_late hlen hwf h2] at hra
     have hl : lateOk (a.drop t.passed.toNat) = true := by
      split at hra
      ·assumption
      ·simp at hra
     refine ⟨?_, fun k hk hq => ?_⟩
     ·unfold wrF at hwf
      rw [if_neg (by omega)] at hwf
      exact firstE_ansok hwf
     ·have := lateOk_get hl (k - t.passed.toNat) (by simp; omega)
      have e : t.passed.toNat + (k - t.passed.toNat) = k := by omega
      simpa [e] using this
theorem TOk.vd {t : Tab} (h : TOk t) : Vd t := ⟨h.pk, h.ps, h.n, fun a ha => (h.row a ha).1⟩
theorem wrE_zero {t : Tab} {d : Deed} (h : wrE t d = 0) : t.state = 1 ∧ (0 ≤ d.guest ∧ d.guest ≤ (t.answers.length : Int) - 1) ∧ (0 ≤ d.packet ∧ d.packet ≤ t.packets - 1) ∧ d.packet < t.passed ∧ (-1 ≤ d.number ∧ d.number ≤ 8) := by
 unfold wrE at h
 split at h
 ·simp at h
 ·rename_i a
  split at h
  ·simp at h
  ·rename_i b
   split at h
   ·simp at h
   ·rename_i c
    split at h
    ·simp at h
    ·rename_i e
     split at h
     ·simp at h
     ·rename_i f
      exact ⟨by simpa using a, inB_iff.1 (by simpa using b), inB_iff.1 (by simpa using c), by omega, inB_iff.1 (by simpa using f)⟩
theorem RowOk.set {q : Int} {a : List Int} (h : RowOk q a) {k : Nat} {x : Int} (h1 : -1 ≤ x) (h2 : x ≤ 8) (hk : (k : Int) < q) : RowOk q (a.set k x) := by
 refine ⟨fun y hy => ?_, fun j hj hq => ?_⟩
 ·rcases List.mem_or_eq_of_mem_set hy with hy | rfl
  ·exact h.1 y hy
  ·exact ⟨h1, h2⟩
 ·have hj' : j < a.length := by simpa using hj
  rw [List.getElem_set, if_neg (by omega)]
  exact h.2 j hj' hq
theorem RowOk.more {q q' : Int} {a : List Int} (h : RowOk q a) (hq : q ≤ q') : RowOk q' a := ⟨h.1, fun k hk hk' => h.2 k hk (by omega)⟩
theorem wrT_tok {t : Tab} {d : Deed} (h : TOk t) (he : wrE t d = 0) : TOk (wrT t d) := by
 obtain ⟨h1, h2, h3, h4, h5⟩ := wrE_zero he
 refine ⟨h.pk, h.ps, h.st, h.cl, by simpa [wrT] using h.n, fun a ha => ?_⟩
 simp only [wrT] at ha ⊢
 rcases List.mem_or_eq_of_mem_set ha with ha | rfl
 ·exact h.row a ha
 ·have hg : d.guest.toNat < t.answers.length := by omega
  rw [getD_lt hg]
  have := h.row _ (List.getElem_mem hg)
  exact ⟨by rw [List.length_set]; exact this.1, this.2.set h5.1 h5.2 (by omega)⟩
theorem doT_tok {t : Tab} (h : TOk t) (d : Deed) : TOk (doT t d) := by
 have hps := h.ps
 have hcl := h.cl
 unfold doT
 split
 ·exact h
 ·rename_i he
  have he : doE t d = 0 := by simpa using he
  unfold doE at he
  unfold doN
  split at he
  ·rename_i k
   rw [if_pos k]
   have hs : t.state = 1 := by
    by_cases e : t.state = 1
    ·exact e
    ·rw [if_pos e] at he; simp at he
   rw [if_neg (by simpa using hs)] at he
   have hp : t.passed ≠ t.packets := fun e => by rw [if_pos e] at he; simp at he
   exact ⟨h.pk, ⟨by simp only; omega, by simp only; omega⟩, h.st, fun h' => by simp only at h'; omega, h.n, fun a ha => ⟨(h.row a ha).1, (h.row a ha).2.more (by simp only; omega)⟩⟩
  ·rename_i k1
   rw [if_neg k1]
   split at he
   ·rename_i k
    rw [if_pos k]
    exact wrT_tok h he
   ·rename_i k2
    rw [if_neg k2]
    split at he
    ·rename_i k
     rw [if_pos k]
     exact ⟨h.pk, h.ps, ⟨by simp, by simp⟩, fun h' => by simp at h', h.n, h.row⟩
    ·rename_i k3
     rw [if_neg k3]
     split at he
     ·rename_i k
      rw [if_pos k]
      exact ⟨h.pk, h.ps, ⟨by simp, by simp⟩, fun h' => by simp at h', h.n, h.row⟩
     ·rename_i k4
      rw [if_neg k4]
      split at he
      ·rename_i k
       rw [if_pos k]
       have hs : ¬ (t.state = 1 ∧ t.passed < t.packets) := fun e => by rw [if_pos e] at he; simp at he
       rw [if_neg hs] at he
       have hs1 : t.state = 1 := by
        by_cases e : t.state = 1
        ·exact e
        ·rw [if_pos e] at he; simp at he
       have hlt : ¬ t.passed < t.packets := fun e => hs ⟨hs1, e⟩
       exact ⟨h.pk, h.ps, ⟨by simp, by simp⟩, fun _ => by simp only; omega, h.n, h.row⟩
      ·rename_i k5
       rw [if_neg k5]
       split at he
       ·have hs3 : t.state = 3 := by
         by_cases e : t.state = 3
         ·exact e
         ·rw [if_pos e] at he; simp at he
        exact ⟨h.pk, h.ps, ⟨by simp, by simp⟩, fun _ => hcl (by omega), h.n, h.row⟩
       ·simp at he
def runT : Tab → List Deed → Tab
 | t, [] => t
 | t, d :: r => runT (doT t d) r
def runE : Tab → List Deed → List Int
 | _, [] => []
 | t, d :: r => doE t d :: runE (doT t d) r
theorem runT_tok : ∀ {t : Tab} (ds : List Deed), TOk t → TOk (runT t ds)
 | t, [], h => h
 | t, d :: r, h => runT_tok r (doT_tok h d)
theorem runE_len : ∀ (t : Tab) (ds : List Deed), (runE t ds).length = ds.length
 | _, [] => rfl
 | t, d :: r => by simp [runE, runE_len _ r]
theorem runT_app : ∀ (t : Tab) (a b : List Deed), runT t (a ++ b) = runT (runT t a) b
 | _, [], _ => rfl
 | t, d :: r, b => by simp only [List.cons_append, runT]; exact runT_app _ r b
theorem runE_app : ∀ (t : Tab) (a b : List Deed), runE t (a ++ b) = runE t a ++ runE (runT t a) b
 | _, [], _ => rfl
 | t, d :: r, b => by simp only [List.cons_append, runE, runT]; rw [runE_app _ r b]
def runV (t : Tab) (ds : List Deed) : Tab × List Int × Int := if chkT t ≠ 0 then (zeroT, [], chkT t) else if 200 < ds.length then (zeroT, [], 8) else (runT t ds, runE t ds, 0)
section
variable {c : Nat} {H : Heap}
theorem apK_two {key es l bytes : Nat} {rows : List (List PV)} {r : List PV} {f1 f0 fr : Fr} (hl : H.length = l) (hf : fr.get key = none) (hb : (rows.length + 1) * bytes ≤ 1099511627776) (hk : key < tyBase) :
  apK l key (apS (l, key) es rows) es bytes [r] (f1 :: f0 :: apF key es rows fr :: H) = some (apS (l, key) es (rows ++ [r]), f1 :: f0 :: apF key es (rows ++ [r]) fr :: H) := by
 subst hl
 have n1 : ¬ H.length = H.length + 1 := by omega
 have n2 : ¬ H.length = H.length + 1 + 1 := by omega
 rw [apK_apS (fun h => ?_) (fun h => ?_) (by simp; omega) hb hk]
 ·unfold apF
  by_cases h : rows = []
  ·subst h; simp [n1, n2]
  ·simp [n1, n2, h, Fr.ins_ins]
 ·subst h; simp [n1, n2, apF_nil, hf]
 ·simp [n1, n2, apF_self h]
theorem tell_ok {f0 fr : Fr} {es : List Int} (e : Int) (h6 : fr.get 6 = none) (h9 : fr.get 9 = some (.box [apS (H.length, 6) 1 (es.map irow)])) (hb : es.length ≤ 1000000) :
  gcall KC (geval KC) 77 [.pure (.int .i64 e), .bptr (H.length, 9) 0] c (f0 :: apF 6 1 (es.map irow) fr :: H) =
   some (.pure (.tuple []), f0 :: apF 6 1 ((es ++ [e]).map irow) (fr.ins 9 (.box [apS (H.length, 6) 1 ((es ++ [e]).map irow)])) :: H) := by
 refine WPv_eq (call_enter KC needT Tryz.func77 rfl rfl good77 rfl rfl rfl (by simp) (by simp) ?_)
 have hbb : (es.length + 1) * 8 ≤ 1099511627776 := by omega
 have A := apK_two (H := H) (key := 6) (es := 1) (l := H.length) (bytes := 8) (rows := es.map irow) (r := irow e) (f1 := []) (f0 := f0) (fr := fr) rfl h6 (by simpa using hbb) (by simp)
 simp only [irow] at A
 simp [h9, A, irow, gleave_free]
def rFr (L : Nat) (t0 t : Tab) (es : List Int) : Fr := apF 6 1 (es.map irow) [(2, tb t0), (4, zb64), (9, .box [apS (L, 6) 1 (es.map irow)]), (32793, wBox L 315417 t), (315417, wMat t)]
theorem isW_rFr {f0 : Fr} {t0 t : Tab} {es : List Int} : isW (f0 :: rFr H.length t0 t es :: H) H.length 32793 315417 t :=
 ⟨by simp [rFr], by simp [rFr], by simp [rFr], by simp [rFr], by decide, by simp; omega⟩
theorem wSet_rFr {f0 : Fr} {t0 t t' : Tab} {es : List Int} : wSet (f0 :: rFr H.length t0 t es :: H) H.length 32793 315417 t' = f0 :: rFr H.length t0 t' es :: H := by
 simp [wSet, rFr]
theorem tell_rFr {f0 : Fr} {t0 t : Tab} {es : List Int} (e : Int) (hb : es.length ≤ 1000000) : gcall KC (geval KC) 77 [.pure (.int .i64 e), .bptr (H.length, 9) 0] c (f0 :: rFr H.length t0 t es :: H) = some (.pure (.tuple []), f0 :: rFr H.length t0 t (es ++ [e]) :: H) := by
 have := tell_ok (c := c) (H := H) (f0 := f0) (fr := [(2, tb t0), (4, zb64), (9, .box [apS (H.length, 6) 1 (es.map irow)]), (32793, wBox H.length 315417 t), (315417, wMat t)]) (es := es) e (by simp) (by simp) hb
 unfold rFr
 rw [this]
 simp
theorem runs_loop (t0 : Tab) (h0 : TOk t0) (ds : List Deed) (hn : ds.length ≤ 1000) (Q : GX → GSt → Prop)
  (hQ : Q (.exit 0) ⟨[(4, .bptr (H.length, 4) 0), (8, .bptr (H.length, 32793) 0), (9, .bptr (H.length, 9) 0)], rFr H.length t0 (runT t0 ds) (runE t0 ds) :: H, 43⟩) : ∀ k i : Nat, i + k = ds.length →
  WPL KC needT 26 (lp Tryz.f26 0) [4, 8, 9, 10, 26, 27, 28] [4, 8, 9] Q [(4, .bptr (H.length, 4) 0), (8, .bptr (H.length, 32793) 0), (9, .bptr (H.length, 9) 0), (10, .func 77 [] [.bptr (H.length, 9) 0]), (26, .pure (.slice (ds.map Deed.row))), (27, .pure (.int .i64 ds.length)), (28, .pure (.int .i64 (i : Nat)))]
   (rFr H.length t0 (runT t0 (ds.take i)) (runE t0 (ds.take i)) :: H) 43 := by
 intro k
 induction k with
 | zero =>
  intro i hi
  rw [List.take_of_length_le (show ds.length ≤ i by omega)]
  apply WPL_step
  conv => arg 4; whnf
  have : ¬ i < ds.length := by omega
  simp [this]
  exact hQ
 | succ k ih =>
  intro i hi
  have hia : i < ds.length := by omega
  have hw := w64 (x := (i : Int) + 1) (by omega) (by omega)
  have ih' := ih (i + 1) (by omega)
  obtain ⟨d, hd⟩ : ∃ d, ds[i] = d := ⟨_, rfl⟩
  have htk : ds.take (i + 1) = ds.take i ++ [d] := by rw [List.take_succ_eq_append_getElem hia, hd]
  rw [htk, runT_app, runE_app] at ih'
  have hV := (runT_tok (ds.take i) h0).vd
  have hel : (runE t0 (ds.take i)).length ≤ 1000000 := by rw [runE_len]; simp; omega
  generalize hT : runT t0 (ds.take i) = t at *
  generalize hE : runE t0 (ds.take i) = es at *
  simp only [runT, runE] at ih'
  have D := fun c (f0 : Fr) => do_ok (c := c) (isW_rFr (H := H) (f0 := f0) (t0 := t0) (t := t) (es := es)) d hV (by simp)
  simp only [wSet_rFr, Deed.row] at D
  have T := fun c (f0 : Fr) (t' : Tab) (e : Int) => tell_rFr (c := c) (H := H) (f0 := f0) (t0 := t0) (t := t') (es := es) e hel
  apply WPL_step
  conv => arg 4; whnf
  simp [hia, hd, Deed.row, D, T, hw]
  simpa [Deed.row] using ih'
end
section
variable {c : Nat} {H : Heap}
def runTup (t : Tab) (ds : List Deed) : GV := .pure (.tuple [.agg (runV t ds).1.row, .slice ((runV t ds).2.1.map irow), .int .i64 (runV t ds).2.2])
theorem Run_ok0 (t : Tab) (hs : Sm t) (ds : List Deed) (hn : ds.length ≤ 1000000) (hH : 0 < H.length) : gcall0 KC (geval KC) 26 [.pure (.agg t.row), .pure (.slice (ds.map Deed.row))] c H = some (runTup t ds, H) := by
 refine WPv_eq (call_enter0 KC needT Tryz.func26 rfl rfl good26 (by simp) hH ?_)
 have C := fun c (H : Heap) (hH : 0 < H.length) => chkT_ok (c := c) (H := H) t hs hH
 simp only [Tab.row] at C
 unfold runTup runV
 by_cases h1 : chkT t = 0
 ·by_cases h2 : 200 < ds.length
  ·have h2' : (200 : Int) < ds.length := by omega
   simp [h1, h2, h2', Tab.row, C, zeroT, gleave_free]
  have h2' : ¬ (200 : Int) < ds.length := by omega
  have hT := chkT_tok h1
  have hV := hT.vd
  have W := fun F => workOf_ok (c := 24) (H := F :: H) t hs hV.ne hV.ne' (by simp)
  have k1 : newKey 24 8 = 32793 := by decide
  have k2 : newKey 24 77 = 315417 := by decide
  simp only [k1, k2] at W
  have W2 := W [(2, tb t), (4, zb64)] (by simp) (by simp)
  simp [tb, Tab.row, zb64] at W2
  have L := fun Q hQ => runs_loop (H := H) t hT ds (by omega) Q hQ ds.length 0 (by omega)
  simp [rFr, tb, zb64, apF_nil, apS_nil, runT, runE] at L
  simp [h1, h2, h2', Tab.row, C, W2, zb64]
  refine L _ ?_
  generalize hR : runT t ds = r
  generalize hE : runE t ds = es
  have hnl : ¬ H.length ≤ H.length - 1 := by omega
  have hcm : ((fun r => [PV.slice r]) ∘ mrow) = arow := rfl
  have htk : (r.answers.map arow).take r.answers.length = r.answers.map arow := List.take_of_length_le (by simp)
  simp [wBox, wMat]
  rw [gleave_free]
  ·rw [WPv_some, clean_tuple]
   simp only [List.map_cons, List.map_nil, clean2_agg, clean2_pure, clean2_apS, clean1_pure]
   rw [clean1_apS rfl (by omega) (fun hne => apF_self hne)]
   by_cases he : es = []
   ·subst he
    simp [hnl, hcm, htk, apF_nil]
   ·have he' : es.map irow ≠ [] := by simpa using he
    rw [if_neg he']
    simp [hnl, hcm, htk]
  ·simp
 ·have h1' : (chkT t != 0) = true := by simpa using h1
  simp [h1, h1', Tab.row, C, zeroT, gleave_free]
end
section
variable {c : Nat} {H : Heap}
def fzF (key : Nat) (ds : List Deed) (F : Fr) : Fr := if ds = [] then F else F.ins key (.arr 4 (ds.map Deed.row) 0 true)
theorem fz_apS {F : Fr} {key : Nat} {p : PV} {ds : List Deed} (hF : ds ≠ [] → ∃ ro, F.get key = some (.arr 4 (ds.map Deed.row) 0 ro)) :
  ((frzVals (F :: [[]]) [.pure p, apS (1, key) 4 (ds.map Deed.row)]).1.map canon = [.pure p, .pure (.slice (ds.map Deed.row))]) ∧ (frzVals (F :: [[]]) [.pure p, apS (1, key) 4 (ds.map Deed.row)]).2 = fzF key ds F :: [[]] := by
 by_cases h : ds = []
 ·subst h
  simp [apS_nil, fzF, frzVals, frzVal, frzCell]
 ·have h' : ds.map Deed.row ≠ [] := by simpa using h
  obtain ⟨ro, hr⟩ := hF h
  have e : apS (1, key) 4 (ds.map Deed.row) = .hdr (1, key) 4 ds.length 0 ds.length := by unfold apS; rw [if_neg h']; simp
  have htk : (ds.map Deed.row).take ds.length = ds.map Deed.row := List.take_of_length_le (by simp)
  rw [e]
  simp [frzVals, frzVal, frzCell, hr, fzF, h, htk]
theorem Run_apS {F : Fr} {key : Nat} (t : Tab) (hs : Sm t) (ds : List Deed) (hn : ds.length ≤ 1000000) (hF : ds ≠ [] → ∃ ro, F.get key = some (.arr 4 (ds.map Deed.row) 0 ro)) :
  gcall KC (geval KC) 26 [.pure (.agg t.row), apS (1, key) 4 (ds.map Deed.row)] c (F :: [[]]) = some (runTup t ds, fzF key ds F :: [[]]) := by
 obtain ⟨h1, h2⟩ := fz_apS (p := .agg t.row) hF
 rw [gcall_frz' rfl rfl rfl, h2]
 have := Run_ok0 (c := c) (H := fzF key ds F :: [[]]) t hs ds hn (by simp)
 rw [← this]
 exact gcall0_canon (by rw [h1]; rfl)
theorem runE_get (t : Tab) (ds : List Deed) (i : Nat) (h : i < ds.length) : (runE t ds)[i]? = some (doE (runT t (ds.take i)) ds[i]) := by
 have e : ds = ds.take i ++ ds[i] :: ds.drop (i + 1) := by rw [← List.drop_eq_getElem_cons h, List.take_append_drop]
 have hl : (runE t (ds.take i)).length = i := by rw [runE_len]; simp; omega
 conv => lhs; rw [e, runE_app]
 rw [List.getElem?_append_right (by omega), hl]
 simp [runE]
end
section
variable {c : Nat} {H : Heap}
def resT (s : Scoring) (p : List Int) (t : Tab) : List PV :=
 if chkS s ≠ 0 then [.slice [], .slice [], .int .i64 (chkS s)] else if chkP p ≠ 0 then [.slice [], .slice [], .int .i64 (chkP p)] else if chkT t ≠ 0 then [.slice [], .slice [], .int .i64 (chkT t)]
 else if (p.length : Int) ≠ t.packets then [.slice [], .slice [], .int .i64 3] else if t.state ≠ 4 then [.slice [], .slice [], .int .i64 10] else rankT s p t.answers
theorem resT_three (s : Scoring) (p : List Int) (t : Tab) (hA : t.answers.length ≤ 1000000) : ∃ (L : List Score) (P : List Int) (e : Int), L.length ≤ 1000000 ∧ P.length ≤ 1000000 ∧ resT s p t = [.slice (L.map Score.row), .slice (P.map irow), .int .i64 e] := by
 unfold resT
 repeat' split
 all_goals first | exact ⟨[], [], _, by simp, by simp, rfl⟩ | exact rankT_three s p t.answers hA
theorem Res_ok (s : Scoring) (hs : s.keys.length ≤ 1000000) (p : List Int) (hp : p.length ≤ 1000000) (t : Tab) (ht : Sm t) (hH : 0 < H.length) :
  gcall KC (geval KC) 31 [.pure (.agg s.row), .pure (.slice (p.map irow)), .pure (.agg t.row)] c H = some (.pure (.tuple (resT s p t)), H) := by
 refine WPv_eq (call_enter KC needT Tryz.func31 rfl rfl good31 rfl rfl rfl (by simp) hH ?_)
 have C1 := fun c (H : Heap) (hH : 0 < H.length) => chkS_ok (c := c) (H := H) s hs hH
 have C2 := fun c (H : Heap) (hH : 0 < H.length) => chk_ok (c := c) (H := H) p hp hH
 have C3 := fun c (H : Heap) (hH : 0 < H.length) => chkT_ok (c := c) (H := H) t ht hH
 have R := fun c (H : Heap) (hH : 0 < H.length) => Rank_p (c := c) (H := H) s hs p hp t.answers ht.2 ht.1 hH
 obtain ⟨L, P, e, _, _, hr⟩ := rankT_three s p t.answers ht.1
 rw [hr] at R
 unfold resT
 rw [hr]
 generalize chkS s = a at *
 generalize chkP p = b at *
 generalize chkT t = d at *
 rw [rowS] at *
 simp only [Tab.row] at C3
 by_cases h1 : a = 0
 ·by_cases h2 : b = 0
  ·by_cases h3 : d = 0
   ·by_cases h4 : (p.length : Int) = t.packets
    ·by_cases h5 : t.state = 4
     ·have h4' : ((p.length : Int) != t.packets) = false := by simpa using h4
      have h5' : (t.state != 4) = false := by simpa using h5
      simp [Tab.row, C1, C2, C3, R, h1, h2, h3, h4', h5', gleave_free]
      rw [if_pos h4, if_pos h5]
     ·have h4' : ((p.length : Int) != t.packets) = false := by simpa using h4
      have h5' : (t.state != 4) = true := by simpa using h5
      simp [Tab.row, C1, C2, C3, h1, h2, h3, h4', h5', gleave_free]
      rw [if_pos h4, if_neg h5]
    ·have h4' : ((p.length : Int) != t.packets) = true := by simpa using h4
     simp [Tab.row, C1, C2, C3, h1, h2, h3, h4', gleave_free]
     exact fun h => absurd h h4
   ·have h3' : (d != 0) = true := by simpa using h3
    simp [Tab.row, C1, C2, C3, h1, h2, h3, h3', gleave_free]
  ·have h2' : (b != 0) = true := by simpa using h2
   simp [Tab.row, C1, C2, h1, h2, h2', gleave_free]
 ·have h1' : (a != 0) = true := by simpa using h1
  simp [Tab.row, C1, h1, h1', gleave_free]
end
end Go.Gh
