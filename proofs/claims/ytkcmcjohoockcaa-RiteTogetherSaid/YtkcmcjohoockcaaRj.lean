/- A scene that is sound is told so. -/
import Derived.Test.YtkcmcjohoockcaaPc
import Derived.Test.YtkcmcjohoockcaaRl
namespace Go.Gh
open Go.Proofs
set_option linter.unusedSimpArgs false
set_option linter.unusedVariables false
set_option linter.unnecessarySimpa false
set_option maxRecDepth 100000
set_option maxHeartbeats 4000000

variable {c : Nat} {H : Heap}

theorem has_loop (l : List Int) (x : Int) (hn : l.length ≤ 1000000) (Q : GX → GSt → Prop) (hH : 0 < H.length) : ∀ k i : Nat, i + k = l.length →
    ((l.drop i).contains x = false → Q (.exit 0) ⟨[(4, gdead)], H, 18⟩) → ((l.drop i).contains x = true → Q .ret ⟨[(4, .pure (.bool true))], H, 18⟩) →
    WPL KC needT 53 (lp Try.f53 0) [0, 1, 5] [4] Q [(0, .pure (.slice (l.map irow))), (1, .pure (.int .i64 x)), (5, .pure (.int .i64 i))] H 18 := by
  intro k
  induction k with
  | zero =>
    intro i hi h1 h2
    have e : l.drop i = [] := List.drop_of_length_le (by omega)
    rw [e] at h1
    apply WPL_step
    conv => arg 4; whnf
    have : ¬ i < l.length := by omega
    simp [this, hH]
    exact h1 rfl
  | succ k ih =>
    intro i hi h1 h2
    have hia : i < l.length := by omega
    have hw := w64 (x := (i : Int) + 1) (by omega) (by omega)
    have ed : l.drop i = l[i] :: l.drop (i + 1) := List.drop_eq_getElem_cons hia
    rw [ed, List.contains_cons] at h1 h2
    apply WPL_step
    conv => arg 4; whnf
    by_cases he : l[i] = x
    · have e2 : (x == l[i]) = true := by simp [he]
      rw [e2, Bool.true_or] at h2
      simp [hia, hH, irow, he]
      exact h2 rfl
    · have e1 : (l[i] == x) = false := by simpa using he
      have e2 : (x == l[i]) = false := by simpa using fun e => he e.symm
      rw [e2, Bool.false_or] at h1 h2
      have ih' := ih (i + 1) (by omega) h1 h2
      simp [hia, hH, irow, e1, hw]
      simpa [irow] using ih'
theorem has_ok (l : List Int) (x : Int) (hn : l.length ≤ 1000000) (hH : 0 < H.length) : gcall KC (geval KC) 53 [.pure (.slice (l.map irow)), .pure (.int .i64 x)] c H = some (.pure (.bool (l.contains x)), H) := by
  refine bor_c rfl rfl rfl rfl rfl hH fun H hH => ?_
  refine WPv_eq (call_enter0 KC needT Try.func53 rfl rfl good53 (by simp) hH ?_)
  have L := fun Q => has_loop (H := [] :: H) l x hn Q (by simp) l.length 0 (by omega)
  simp only [List.drop_zero] at L
  simp
  refine L _ (fun h => ?_) (fun h => ?_)
  · simp only [List.contains_eq_mem] at h
    simp [gleave_free]
    simpa using h
  · simp only [List.contains_eq_mem] at h
    simp [gleave_free]
    simpa using h

def cBlk (C : List Int) (v : Nat) : Blk := .arr 1 (C.map irow) v false
def sndF (r : Rite) (s : Scene) (C : List Int) (v : Nat) : Fr := [(2, rbox r), (3, sbox s), (39, cBlk C v)]
/-- What was counted. -/
def CF (nt : Nat) (C : List Int) (v : Nat) (f : Nat → Nat) : Prop := C.length = nt ∧ v ≤ nt ∧ ∀ t, t < nt → C.getD t 0 = (f t : Int)

theorem hand_step {r : Rite} {s : Scene} (hS : Snd r s) (hh1 : s.hands.length ≤ 1000000) {nt : Nat} (hnt : r.things.length = nt) (hn : nt ≤ 1000000) (i : Nat) (hi : i < s.hands.length) (hd : Int) (hh : hd = 0 ∨ hd = 1) (C : List Int) (v : Nat) (f : Nat → Nat) (hC : CF nt C v f) (hf : ∀ t, f t ≤ 1000000000) (Q : GX → GSt → Prop)
    (ih : ∀ C' v', CF nt C' v' (fun t => f t + if handAt s.hands i hd = t then 1 else 0) →
      WPL KC needT 19 (lp Try.f19 1) [2, 3, 5, 6, 7] [2, 3, 4, 5, 6] Q [(2, .bptr (H.length, 2) 0), (3, .bptr (H.length, 3) 0), (5, .hdr (H.length, 39) 1 nt 0 nt), (6, .pure (.int .i64 i)), (7, .pure (.int .i64 (hd + 1)))] ([] :: sndF r s C' v' :: H) 145) :
    WPL KC needT 19 (lp Try.f19 1) [2, 3, 5, 6, 7] [2, 3, 4, 5, 6] Q [(2, .bptr (H.length, 2) 0), (3, .bptr (H.length, 3) 0), (5, .hdr (H.length, 39) 1 nt 0 nt), (6, .pure (.int .i64 i)), (7, .pure (.int .i64 hd))] ([] :: sndF r s C v :: H) 145 := by
  obtain ⟨c1, c2, c3⟩ := hC
  have hiw : i < r.people.length := by rw [← hS.hl]; exact hi
  have R := handAt_rng hS.toScB (w := i) (hand := hd) hiw
  have et := hS.tl
  obtain ⟨x, hx⟩ : ∃ x, handAt s.hands i hd = x := ⟨_, rfl⟩
  rw [hx] at R ih
  have hx' : (if hd = 0 then s.hands[i].l else s.hands[i].r) = x := by rw [← hx]; unfold handAt; rw [getD_lt hi]
  have hw1 := w64 (x := hd + 1) (by omega) (by omega)
  have n1 : ¬ x < -1 := by omega
  have n2 : ¬ (nt : Int) ≤ x := by omega
  have ne : ¬ H.length = H.length + 1 := by omega
  by_cases h0 : 0 ≤ x
  · obtain ⟨t, rfl⟩ := Int.eq_ofNat_of_zero_le h0
    have ht : t < nt := by omega
    have htC : t < C.length := by omega
    have hv := c3 t ht
    rw [getD_lt htC] at hv
    have hft := hf t
    have hw2 := w64 (x := (f t : Int) + 1) (by omega) (by omega)
    have I := ih (C.set t ((f t : Int) + 1)) nt ⟨by simpa using c1, Nat.le_refl _, fun u hu => by
      rw [getDs (by omega)]
      by_cases e : t = u
      · subst e; simp
      · have : ¬ (t : Int) = u := by omega
        simp [e, this]; exact c3 u hu⟩
    apply WPL_step
    conv => arg 4; whnf
    rcases hh with rfl | rfl
    · rw [if_pos rfl] at hx'
      simp [sndF, cBlk, rbox, sbox, irow] at I
      simp [sndF, cBlk, rbox, sbox, hi, Hands.row, hx', n1, n2, h0, ht, htC, c1, c2, hv, hw2, ne, irow, splice]
      exact I
    · rw [if_neg (by decide)] at hx'
      have w11 : IntKind.i64.wrap (1 + 1) = 2 := rfl
      simp [sndF, cBlk, rbox, sbox, irow] at I
      simp [sndF, cBlk, rbox, sbox, hi, Hands.row, hx', n1, n2, h0, ht, htC, c1, c2, hv, hw2, w11, ne, irow, splice]
      exact I
  · have I := ih C v ⟨c1, c2, fun t ht => by
      have : ¬ x = t := by omega
      simp [this]; exact c3 t ht⟩
    apply WPL_step
    conv => arg 4; whnf
    rcases hh with rfl | rfl
    · rw [if_pos rfl] at hx'
      simp [sndF, cBlk, rbox, sbox, irow] at I
      simp [sndF, cBlk, rbox, sbox, hi, Hands.row, hx', n1, n2, h0, ne, irow]
      exact I
    · rw [if_neg (by decide)] at hx'
      have w11 : IntKind.i64.wrap (1 + 1) = 2 := rfl
      simp [sndF, cBlk, rbox, sbox, irow] at I
      simp [sndF, cBlk, rbox, sbox, hi, Hands.row, hx', n1, n2, h0, w11, ne, irow]
      exact I
end Go.Gh


/- A scene that is sound is told so: the whole. -/
namespace Go.Gh
open Go.Proofs
set_option linter.unusedSimpArgs false
set_option linter.unusedVariables false
set_option linter.unnecessarySimpa false
set_option maxRecDepth 100000
set_option maxHeartbeats 4000000

variable {c : Nat} {H : Heap}

theorem cntH_take {l : List Hands} {i : Nat} (h : i < l.length) (t : Int) : cntH (l.take (i + 1)) t = cntH (l.take i) t + ((if (l.getD i hands0).l = t then 1 else 0) + (if (l.getD i hands0).r = t then 1 else 0)) := by
  induction l generalizing i with
  | nil => simp at h
  | cons x l ih =>
    cases i with
    | zero => simp [cntH, oneH]
    | succ i =>
      have := ih (i := i) (by simpa using h)
      simp only [List.take_succ_cons, cntH, List.getD_cons_succ]
      omega
theorem cntH_le (l : List Hands) (t : Int) : cntH l t ≤ 2 * l.length := by
  induction l with
  | nil => simp [cntH]
  | cons x l ih =>
    simp only [cntH, oneH, List.length_cons]
    split <;> split <;> omega

theorem people_loop {r : Rite} {s : Scene} (hS : Snd r s) (hw0 : 1 ≤ r.wide * r.deep) (hw : r.wide * r.deep ≤ 1000000) (hpl : r.people.length ≤ 1000000) {nt : Nat} (hnt : r.things.length = nt) (hn : nt ≤ 1000000) (Q : GX → GSt → Prop) : ∀ (k i : Nat) (C : List Int) (v : Nat), i + k = s.people.length → CF nt C v (fun t => cntH (s.hands.take i) t) →
    (∀ C' v', CF nt C' v' (fun t => cntH s.hands t) → Q (.exit 0) ⟨[(2, .bptr (H.length, 2) 0), (3, .bptr (H.length, 3) 0), (4, gdead), (5, .hdr (H.length, 39) 1 nt 0 nt)], sndF r s C' v' :: H, 145⟩) →
    WPL KC needT 19 (lp Try.f19 0) [2, 3, 5, 6] [2, 3, 4, 5] Q [(2, .bptr (H.length, 2) 0), (3, .bptr (H.length, 3) 0), (5, .hdr (H.length, 39) 1 nt 0 nt), (6, .pure (.int .i64 i))] (sndF r s C v :: H) 145 := by
  have ep := hS.pl
  have eh := hS.hl
  intro k
  induction k with
  | zero =>
    intro i C v hi hC h1
    have e : s.hands.take i = s.hands := List.take_of_length_le (by omega)
    rw [e] at hC
    apply WPL_step
    conv => arg 4; whnf
    have : ¬ i < s.people.length := by omega
    simp [this, sndF, sbox, rbox]
    simpa [sndF, sbox, rbox] using h1 C v hC
  | succ k ih =>
    intro i C v hi hC h1
    have hia : i < s.people.length := by omega
    have hih : i < s.hands.length := by omega
    have hw1 := w64 (x := (i : Int) + 1) (by omega) (by omega)
    have pr := hS.pr _ (List.getElem_mem hia)
    have hwd := w64 (x := r.wide * r.deep) (by omega) (by omega)
    have n1 : ¬ s.people[i] < 0 := by omega
    have n2 : ¬ r.wide * r.deep ≤ s.people[i] := by omega
    have hnh : (s.people.take i).contains s.people[i] = false := by
      rw [← Bool.not_eq_true, List.contains_iff_mem]
      intro hm
      obtain ⟨j, hj, e⟩ := List.mem_take_iff_getElem.1 hm
      have hji : j < i := by omega
      have := List.pairwise_iff_getElem.1 hS.pn j i (by omega) hia hji
      exact this e
    have HS := fun c (H : Heap) (hH : 0 < H.length) => has_ok (c := c) (H := H) (s.people.take i) s.people[i] (by simp; omega) hH
    rw [hnh] at HS
    have hile : i ≤ s.people.length := by omega
    have hmin : min i s.people.length = i := by omega
    have hrl : ∀ x : Int, (irow x).length = 1 := fun _ => rfl
    have hcl := fun t => cntH_le (s.hands.take i) t
    have htl : (s.hands.take i).length ≤ 1000000 := by simp; omega
    apply WPL_step
    conv => arg 4; whnf
    simp only [List.map_take] at HS
    simp [sndF, sbox, rbox, hia, hile, hmin, HS, irow, n1, n2, hwd]
    have S1 := fun Q C v hC hf ih => hand_step (H := H) hS (by omega) hnt hn i hih 0 (.inl rfl) C v (fun t => cntH (s.hands.take i) t) hC hf Q ih
    simp [sndF, sbox, rbox] at S1
    refine S1 _ C v hC (fun t => by have := hcl t; omega) (fun C1 v1 hC1 => ?_)
    clear S1
    have S2 := fun Q C v hC hf ih => hand_step (H := H) hS (by omega) hnt hn i hih 1 (.inr rfl) C v (fun t => cntH (s.hands.take i) t + if handAt s.hands i 0 = t then 1 else 0) hC hf Q ih
    simp [sndF, sbox, rbox] at S2
    refine S2 _ C1 v1 hC1 (fun t => by have := hcl t; split <;> omega) (fun C2 v2 hC2 => ?_)
    clear S2
    have hC2' : CF nt C2 v2 (fun t => cntH (s.hands.take (i + 1)) t) := by
      obtain ⟨a, b, d⟩ := hC2
      refine ⟨a, b, fun t ht => ?_⟩
      have dt := d t ht
      dsimp only at dt ⊢
      rw [dt, cntH_take hih]
      unfold handAt
      simp
      omega
    have ih' := ih (i + 1) C2 v2 (by omega) hC2' h1
    apply WPL_step
    conv => arg 4; whnf
    simp [sndF, sbox, rbox] at ih'
    simp [hw1]
    exact ih'

theorem spots_loop {r : Rite} {s : Scene} (hS : Snd r s) (hw0 : 1 ≤ r.wide * r.deep) (hw : r.wide * r.deep ≤ 1000000) {nt : Nat} (hnt : r.things.length = nt) (hn : nt ≤ 1000000) (C : List Int) (v : Nat) (hC : CF nt C v (fun t => cntH s.hands t)) (Q : GX → GSt → Prop) : ∀ k i : Nat, i + k = nt →
    Q (.exit 4) ⟨[(4, gdead)], sndF r s C v :: H, 145⟩ →
    WPL KC needT 19 (lp Try.f19 2) [2, 3, 5, 9] [4] Q [(2, .bptr (H.length, 2) 0), (3, .bptr (H.length, 3) 0), (5, .hdr (H.length, 39) 1 nt 0 nt), (9, .pure (.int .i64 i))] (sndF r s C v :: H) 145 := by
  obtain ⟨c1, c2, c3⟩ := hC
  have et := hS.tl
  intro k
  induction k with
  | zero =>
    intro i hi h1
    apply WPL_step
    conv => arg 4; whnf
    have : ¬ i < nt := by omega
    simp [this, sndF, sbox, rbox, cBlk]
    simpa [sndF, sbox, rbox, cBlk] using h1
  | succ k ih =>
    intro i hi h1
    have hia : i < nt := by omega
    have hiC : i < C.length := by omega
    have his : i < s.things.length := by omega
    have hw1 := w64 (x := (i : Int) + 1) (by omega) (by omega)
    have hwd := w64 (x := r.wide * r.deep) (by omega) (by omega)
    have hv := c3 i hia
    rw [getD_lt hiC] at hv
    dsimp only at hv
    have th := hS.th i his
    rw [getD_lt his] at th
    have ih' := ih (i + 1) (by omega) h1
    simp [sndF, sbox, rbox, cBlk] at ih'
    have ne : ¬ H.length = H.length + 1 := by omega
    apply WPL_step
    conv => arg 4; whnf
    rcases th with ⟨a, b⟩ | ⟨a, b1, b2⟩
    · rw [a] at hv
      have n3 : ¬ r.wide * r.deep ≤ -1 := by omega
      simp [sndF, sbox, rbox, cBlk, hia, hiC, his, irow, Spot.row, hv, b, c1, c2, hwd, hw1, n3, ne]
      exact ih'
    · rw [a] at hv
      have n1 : ¬ s.things[i].cell = -1 := by omega
      have n1' : (s.things[i].cell == -1) = false := by simpa using n1
      have n2 : ¬ s.things[i].cell < -1 := by omega
      have n3 : ¬ r.wide * r.deep ≤ s.things[i].cell := by omega
      simp [sndF, sbox, rbox, cBlk, hia, hiC, his, irow, Spot.row, hv, n1, n1', n2, n3, c1, c2, hwd, hw1, ne]
      exact ih'

theorem sound_ok0 {r : Rite} {s : Scene} (hS : Snd r s) (hw0 : 1 ≤ r.wide * r.deep) (hw : r.wide * r.deep ≤ 1000000) (hpl : r.people.length ≤ 1000000) (htl : r.things.length ≤ 1000000) (hH : 0 < H.length) :
    gcall0 KC (geval KC) 19 [.pure (.agg r.row), .pure (.agg s.row)] c H = some (.pure (.bool true), H) := by
  refine WPv_eq (call_enter0 KC needT Try.func19 rfl rfl good19 (by simp) hH ?_)
  have ep := hS.pl
  have eh := hS.hl
  have et := hS.tl
  have e1 : ((s.people.length : Int) == r.people.length) = true := by simp [ep]
  have L1 := fun Q => people_loop (H := H) hS hw0 hw hpl rfl htl Q s.people.length 0 (List.replicate r.things.length 0) 0 (by omega) ⟨by simp, Nat.zero_le _, fun t ht => by simp [cntH, ht]⟩
  simp [sndF, cBlk, rbox, sbox, irow] at L1
  have hb : (r.things.length : Int) * 8 ≤ 1099511627776 := by omega
  rw [rowR]
  unfold Scene.row
  simp [ep, eh, et, hb]
  refine L1 _ (fun C' v' hC => ?_)
  clear L1
  simp
  have L2 := fun Q => spots_loop (H := H) hS hw0 hw rfl htl C' v' hC Q r.things.length 0 (by omega)
  simp [sndF, rbox, sbox] at L2
  refine L2 _ ?_
  simp [gleave_free]
theorem sound_ok {g1 g2 : GV} {r : Rite} {s : Scene} (hS : Snd r s) (hw0 : 1 ≤ r.wide * r.deep) (hw : r.wide * r.deep ≤ 1000000) (hpl : r.people.length ≤ 1000000) (htl : r.things.length ≤ 1000000) (h1 : rdG H g1 (.agg r.row)) (h2 : rdG H g2 (.agg s.row)) (hH : 0 < H.length) :
    gcall KC (geval KC) 19 [g1, g2] c H = some (.pure (.bool true), H) :=
  bor_flat KC rfl rfl (frz2 h1 h2) rfl hH (fun H hH => sound_ok0 (c := c) hS hw0 hw hpl htl hH) rfl
end Go.Gh


/- A rite that is made in a law's frame: read, frozen, run. -/
namespace Go.Gh
open Go.Proofs
set_option linter.unusedSimpArgs false
set_option linter.unusedVariables false
set_option linter.unnecessarySimpa false
set_option maxRecDepth 100000
set_option maxHeartbeats 4000000

variable {c : Nat} {H : Heap}

theorem rdC_push {f : Fr} {g : GV} {q : PV} (h : rdC H g q) : rdC (f :: H) g q := by
  cases g with
  | hdr nm es top lo len =>
    obtain ⟨rows, v, ro, a, b⟩ := h
    have := Heap.get_lt a
    exact ⟨rows, v, ro, by rw [Heap.get_cons', if_neg (by omega)]; exact a, b⟩
  | pure p => exact h
  | nils => exact h
  | _ => exact h.elim
theorem rdL_push {f : Fr} : ∀ {l : List GV} {m : List PV}, rdL H l m → rdL (f :: H) l m
  | [], [], _ => trivial
  | g :: l, q :: m, h => ⟨rdC_push h.1, rdL_push h.2⟩
  | [], _ :: _, h => h.elim
  | _ :: _, [], h => h.elim
theorem rdG_push {f : Fr} {g : GV} {q : PV} (h : rdG H g q) : rdG (f :: H) g q := by
  cases g with
  | agg l =>
    cases q with
    | agg m => exact rdL_push h
    | _ => exact h.elim
  | pure p => cases q <;> exact h
  | _ => cases q <;> exact h.elim

/-- The blocks of a rite in a frame. -/
structure RV (F : Fr) (n2 n3 n5 n7 : Nat) (r : Rite) : Prop where
  g2 : ∃ v ro, v ≤ r.people.length ∧ F.get n2 = some (.arr 2 (r.people.map Person.row) v ro)
  g3 : ∃ v ro, v ≤ r.things.length ∧ F.get n3 = some (.arr 5 (r.things.map Thing.row) v ro)
  g5 : r.lapses ≠ [] → ∃ v ro, v ≤ r.lapses.length ∧ F.get n5 = some (.arr 1 (r.lapses.map irow) v ro)
  g7 : r.acts ≠ [] → ∃ v ro, v ≤ r.acts.length ∧ F.get n7 = some (.arr 9 (r.acts.map RAct.row) v ro)
  sn : r.seen = []
theorem rdC_apS' {nm : Nm} {es : Nat} {rows : List (List PV)} (h : rows ≠ [] → ∃ v ro, v ≤ rows.length ∧ H.get nm = some (.arr es rows v ro)) : rdC H (apS nm es rows) (.slice rows) := by
  unfold apS
  by_cases hr : rows = []
  · subst hr; rw [if_pos rfl]; simp
  · rw [if_neg hr]
    obtain ⟨v, ro, a, b⟩ := h hr
    exact ⟨rows, v, ro, b, a, rfl, rfl, rfl, rfl⟩
theorem RV.rd {F : Fr} {n2 n3 n5 n7 : Nat} {r : Rite} (h : RV F n2 n3 n5 n7 r) : rdG (F :: H) (riteV (H.length, n2) (H.length, n3) (H.length, n5) (H.length, n7) r) (.agg r.row) := by
  have g : ∀ k, Heap.get (F :: H) (H.length, k) = F.get k := fun k => by simp
  rw [rowR]
  unfold riteV
  rw [rdG_agg]
  simp only [rdL_cons, rdL_nil, rdC_pure, and_true, true_and]
  obtain ⟨v2, o2, a2, b2⟩ := h.g2
  obtain ⟨v3, o3, a3, b3⟩ := h.g3
  refine ⟨⟨_, v2, o2, (g _).trans b2, a2, by simp, rfl, rfl, rfl⟩, ⟨_, v3, o3, (g _).trans b3, a3, by simp, rfl, rfl, rfl⟩, by rw [h.sn]; rfl, rdC_apS' fun hr => ?_, rdC_apS' fun hr => ?_⟩
  · obtain ⟨v, o, a, b⟩ := h.g5 (by simpa using hr)
    exact ⟨v, o, by simpa using a, (g _).trans b⟩
  · obtain ⟨v, o, a, b⟩ := h.g7 (by simpa using hr)
    exact ⟨v, o, by simpa using a, (g _).trans b⟩

/-- Frozen: the same blocks, but for what is frozen. -/
theorem RV.frz {F : Fr} {n2 n3 n5 n7 : Nat} {r : Rite} (h : RV F n2 n3 n5 n7 r) : ∃ F' g', frzVals (F :: H) [riteV (H.length, n2) (H.length, n3) (H.length, n5) (H.length, n7) r] = ([g'], F' :: H) ∧ canon g' = .pure (.agg r.row) ∧ RV F' n2 n3 n5 n7 r ∧ ∀ k, k ≠ n2 → k ≠ n3 → k ≠ n5 → k ≠ n7 → F'.get k = F.get k := by
  -- one cell
  have one : ∀ (k es : Nat) (rows : List (List PV)) (F : Fr), (rows ≠ [] → ∃ v ro, v ≤ rows.length ∧ F.get k = some (.arr es rows v ro)) → ∃ F', frzCell (F :: H) (apS (H.length, k) es rows) = ((if rows = [] then .nils else .pure (.slice rows)), F' :: H) ∧ (∀ j, j ≠ k → F'.get j = F.get j) ∧ (∀ es' rows' v ro, F.get k = some (.arr es' rows' v ro) → ∃ ro', F'.get k = some (.arr es' rows' v ro')) := fun k es rows F hk => by
    by_cases hr : rows = []
    · refine ⟨F, ?_, fun _ _ => rfl, fun _ _ v ro h => ⟨ro, h⟩⟩
      unfold apS
      rw [if_pos hr, if_pos hr]; rfl
    · obtain ⟨v, ro, a, b⟩ := hk hr
      refine ⟨F.ins k (.arr es rows v true), ?_, fun j hj => Fr.get_ins_other _ hj _, fun es' rows' v' ro' h' => ?_⟩
      · unfold apS
        rw [if_neg hr, if_neg hr]
        simp [frzCell, b, a]
      · rw [b] at h'
        cases h'
        exact ⟨true, Fr.get_ins ..⟩
  obtain ⟨v2, o2, a2, b2⟩ := h.g2
  obtain ⟨v3, o3, a3, b3⟩ := h.g3
  have p2 : ∃ F', frzCell (F :: H) (.hdr (H.length, n2) 2 r.people.length 0 r.people.length) = (.pure (.slice (r.people.map Person.row)), F' :: H) ∧ (∀ j, j ≠ n2 → F'.get j = F.get j) ∧ (∀ es' rows' v ro, F.get n2 = some (.arr es' rows' v ro) → ∃ ro', F'.get n2 = some (.arr es' rows' v ro')) := by
    refine ⟨F.ins n2 (.arr 2 (r.people.map Person.row) v2 true), ?_, fun j hj => Fr.get_ins_other _ hj _, fun es' rows' v' ro' h' => ?_⟩
    · simp [frzCell, b2, a2]
      exact List.take_of_length_le (by simp)
    · rw [b2] at h'
      cases h'
      exact ⟨true, Fr.get_ins ..⟩
  obtain ⟨F2, e2, i2, j2⟩ := p2
  have keep : ∀ (F F' : Fr) (k : Nat), (∀ j, j ≠ k → F'.get j = F.get j) → (∀ es' rows' v ro, F.get k = some (.arr es' rows' v ro) → ∃ ro', F'.get k = some (.arr es' rows' v ro')) → ∀ (j es : Nat) (rows : List (List PV)) (n : Nat), (∃ v ro, v ≤ n ∧ F.get j = some (.arr es rows v ro)) → ∃ v ro, v ≤ n ∧ F'.get j = some (.arr es rows v ro) := fun F F' k h1 h2 j es rows n ⟨v, ro, a, b⟩ => by
    by_cases e : j = k
    · subst e
      obtain ⟨ro', b'⟩ := h2 _ _ _ _ b
      exact ⟨v, ro', a, b'⟩
    · exact ⟨v, ro, a, (h1 j e).trans b⟩
  obtain ⟨v3', o3', a3', b3'⟩ := keep F F2 n2 i2 j2 n3 5 _ _ h.g3
  have p3 : ∃ F', frzCell (F2 :: H) (.hdr (H.length, n3) 5 r.things.length 0 r.things.length) = (.pure (.slice (r.things.map Thing.row)), F' :: H) ∧ (∀ j, j ≠ n3 → F'.get j = F2.get j) ∧ (∀ es' rows' v ro, F2.get n3 = some (.arr es' rows' v ro) → ∃ ro', F'.get n3 = some (.arr es' rows' v ro')) := by
    refine ⟨F2.ins n3 (.arr 5 (r.things.map Thing.row) v3' true), ?_, fun j hj => Fr.get_ins_other _ hj _, fun es' rows' v' ro' h' => ?_⟩
    · simp [frzCell, b3', a3']
      exact List.take_of_length_le (by simp)
    · rw [b3'] at h'
      cases h'
      exact ⟨true, Fr.get_ins ..⟩
  obtain ⟨F3, e3, i3, j3⟩ := p3
  have up : ∀ (j es : Nat) (rows : List (List PV)) (n : Nat), (∃ v ro, v ≤ n ∧ F.get j = some (.arr es rows v ro)) → ∃ v ro, v ≤ n ∧ F3.get j = some (.arr es rows v ro) := fun j es rows n hh => keep F2 F3 n3 i3 j3 j es rows n (keep F F2 n2 i2 j2 j es rows n hh)
  obtain ⟨F5, e5, i5, j5⟩ := one n5 1 (r.lapses.map irow) F3 (fun hr => up _ _ _ _ (by obtain ⟨v, ro, a, b⟩ := h.g5 (by simpa using hr); exact ⟨v, ro, by simpa using a, b⟩))
  obtain ⟨F7, e7, i7, j7⟩ := one n7 9 (r.acts.map RAct.row) F5 (fun hr => keep F3 F5 n5 i5 j5 _ _ _ _ (up _ _ _ _ (by obtain ⟨v, ro, a, b⟩ := h.g7 (by simpa using hr); exact ⟨v, ro, by simpa using a, b⟩)))
  have all : ∀ (j es : Nat) (rows : List (List PV)) (n : Nat), (∃ v ro, v ≤ n ∧ F.get j = some (.arr es rows v ro)) → ∃ v ro, v ≤ n ∧ F7.get j = some (.arr es rows v ro) := fun j es rows n hh => keep F5 F7 n7 i7 j7 j es rows n (keep F3 F5 n5 i5 j5 j es rows n (up j es rows n hh))
  have f0 : ∀ (H : Heap) p, frzCell H (.pure p) = (.pure p, H) := fun _ _ => rfl
  have fn : ∀ (H : Heap), frzCell H .nils = (.nils, H) := fun _ => rfl
  have ev : frzVal (F :: H) (riteV (H.length, n2) (H.length, n3) (H.length, n5) (H.length, n7) r) = (mkAgg [.pure (.int .i64 r.wide), .pure (.int .i64 r.deep), .pure (.slice (r.people.map Person.row)), .pure (.slice (r.things.map Thing.row)), .nils, (if r.lapses.map irow = [] then .nils else .pure (.slice (r.lapses.map irow))), (if r.acts.map RAct.row = [] then .nils else .pure (.slice (r.acts.map RAct.row)))], F7 :: H) := by
    unfold riteV
    simp only [frzVal, frzCells, f0, fn, e2, e3, e5, e7]
  have R := (frzG_rd (h.rd (H := H))).1
  rw [ev] at R
  refine ⟨F7, _, by simp only [frzVals, ev], R, ⟨all _ _ _ _ h.g2, all _ _ _ _ h.g3, fun hr => all _ _ _ _ (h.g5 hr), fun hr => all _ _ _ _ (h.g7 hr), h.sn⟩, fun k h2 h3 h5 h7 => by rw [i7 k h7, i5 k h5, i3 k h3, i2 k h2]⟩
theorem gcall0_canon {K : Ctx} {rec : Rec} {f : FuncId} {a b : List GV} (h : a.map canon = b.map canon) : gcall0 K rec f a c H = gcall0 K rec f b c H := by
  have hl : a.length = b.length := by have := congrArg List.length h; simpa using this
  unfold gcall0
  rw [h, hl]
theorem Scenes_at {F : Fr} {n2 n3 n5 n7 : Nat} {r : Rite} (h : RV F n2 n3 n5 n7 r) (hr : Runs r) : ∃ F', RV F' n2 n3 n5 n7 r ∧ (∀ k, k ≠ n2 → k ≠ n3 → k ≠ n5 → k ≠ n7 → F'.get k = F.get k) ∧ ∀ c, gcall KC (geval KC) 18 [riteV (H.length, n2) (H.length, n3) (H.length, n5) (H.length, n7) r] c (F :: H) =
      some (.pure (.tuple (if (accR r).2.2.2 = 0 then [.slice ((accR r).1.map Scene.row), .int .i64 0] else [.slice [], .int .i64 (accR r).2.2.2])), F' :: H) := by
  obtain ⟨F', g', e, hc, h', ho⟩ := h.frz (H := H)
  refine ⟨F', h', ho, fun c => ?_⟩
  rw [gcall_frz rfl rfl rfl, e]
  rw [gcall0_canon (b := [.pure (.agg r.row)]) (by simp [hc])]
  exact Scenes_ok0 hr (by simp)
theorem Run_at {F : Fr} {n2 n3 n5 n7 : Nat} {r : Rite} (h : RV F n2 n3 n5 n7 r) (hr : Runs r) : ∃ F', RV F' n2 n3 n5 n7 r ∧ (∀ k, k ≠ n2 → k ≠ n3 → k ≠ n5 → k ≠ n7 → F'.get k = F.get k) ∧ ∀ c, gcall KC (geval KC) 20 [riteV (H.length, n2) (H.length, n3) (H.length, n5) (H.length, n7) r] c (F :: H) =
      some (.pure (.tuple (if (accR r).2.2.2 = 0 then [.agg (accR r).2.1.row, .int .i64 (-1), .int .i64 0] else [.agg [.slice [], .slice [], .slice []], .int .i64 (accR r).2.2.1, .int .i64 (accR r).2.2.2])), F' :: H) := by
  obtain ⟨F', g', e, hc, h', ho⟩ := h.frz (H := H)
  refine ⟨F', h', ho, fun c => ?_⟩
  rw [gcall_frz rfl rfl rfl, e]
  rw [gcall0_canon (b := [.pure (.agg r.row)]) (by simp [hc])]
  exact Run_ok0 hr (by simp)

/-- A rite made in a law's frame, of a box in it. -/
theorem made_at {F : Fr} {kb c N : Nat} (hs : F.srt) (hN : N ≤ 15) (hN1 : 1 ≤ N) {w : Int} (hkb : F.get kb = some (wbox w)) (f1 : F.get (kp c) = none) (f2 : F.get (kt c) = none) (f3 : F.get (kl c) = none) (f4 : F.get (ka c) = none) (hne : ∀ k, kb ≠ newKey c k) :
    ∃ r0 acts s wd F', RiteB r0 acts s (2 * N + 6) ∧ gcall KC (geval KC) 12 [.bptr (H.length, kb) 0, .pure (.int .i64 3), .pure (.int .i64 N)] c (F :: H) =
      some (riteV (H.length, kp c) (H.length, kt c) (H.length, kl c) (H.length, ka c) (finR r0 acts s), F' :: H) ∧ RV F' (kp c) (kt c) (kl c) (ka c) (finR r0 acts s) ∧ F'.get kb = some (wbox wd) ∧ F'.srt ∧
      ∀ k, k ≠ kb → k ≠ kp c → k ≠ kt c → k ≠ kl c → k ≠ ka c → F'.get k = F.get k := by
  have hB : isBox (F :: H) (H.length, kb) := ⟨w, by simp [hkb], by simp [Fr.ins_same hs hkb]⟩
  obtain ⟨r0, acts, s, v, wd, hRB, hv, eR⟩ := RiteOf_ok (c := c) (H := F :: H) hB (N := N) hN hN1 (by simp [f1]) (by simp [f2]) (by simp [f3]) (by simp [f4]) (fun k e => by
    have := (Prod.mk.inj e).2
    exact hne k this)
  have q12 : kp c ≠ kt c := by unfold kp kt newKey; omega
  have q13 : kp c ≠ kl c := by unfold kp kl newKey; omega
  have q14 : kp c ≠ ka c := by unfold kp ka newKey; omega
  have q23 : kt c ≠ kl c := by unfold kt kl newKey; omega
  have q24 : kt c ≠ ka c := by unfold kt ka newKey; omega
  have q34 : kl c ≠ ka c := by unfold kl ka newKey; omega
  have b1 : kb ≠ kp c := hne _
  have b2 : kb ≠ kt c := hne _
  have b3 : kb ≠ kl c := hne _
  have b4 : kb ≠ ka c := hne _
  obtain ⟨m, hm⟩ : ∃ m, finR r0 acts s = m := ⟨_, rfl⟩
  have hv' : v ≤ m.things.length := by rw [← hm]; show v ≤ (finL _ _ _).length; rw [finL_len]; exact hv
  have hsn : m.seen = [] := by rw [← hm]; exact hRB.room.seen
  rw [hm] at eR
  have eH : riteH (Heap.set (F :: H) (H.length, kb) (wbox wd)) (H.length, kp c) (H.length, kt c) (H.length, kl c) (H.length, ka c) v m =
      apF (ka c) 9 (m.acts.map RAct.row) (apF (kl c) 1 (m.lapses.map irow) (((F.ins kb (wbox wd)).ins (kp c) (.arr 2 (m.people.map Person.row) 0 false)).ins (kt c) (.arr 5 (m.things.map Thing.row) v false))) :: H := by
    unfold riteH
    rw [show Heap.set (Heap.set (Heap.set (F :: H) (H.length, kb) (wbox wd)) (H.length, kp c) (.arr 2 (m.people.map Person.row) 0 false)) (H.length, kt c) (.arr 5 (m.things.map Thing.row) v false) = ((F.ins kb (wbox wd)).ins (kp c) (.arr 2 (m.people.map Person.row) 0 false)).ins (kt c) (.arr 5 (m.things.map Thing.row) v false) :: H by simp, apSet_1 rfl, apSet_1 rfl]
  simp only [List.length_cons, Nat.add_sub_cancel] at eR
  rw [eH] at eR
  refine ⟨r0, acts, s, wd, _, hRB, by rw [hm]; exact eR, ?_, ?_, ?_, fun k k1 k2 k3 k4 k5 => ?_⟩
  · rw [hm]
    refine ⟨⟨0, false, Nat.zero_le _, ?_⟩, ⟨v, false, hv', ?_⟩, fun hr => ⟨0, false, Nat.zero_le _, ?_⟩, fun hr => ⟨0, false, Nat.zero_le _, ?_⟩, hsn⟩
    · rw [apF_get q14, apF_get q13, Fr.get_ins_other _ q12, Fr.get_ins]
    · rw [apF_get q24, apF_get q23, Fr.get_ins]
    · rw [apF_get q34, apF_self (by simpa using hr)]
    · rw [apF_self (by simpa using hr)]
  · rw [apF_get b4, apF_get b3, Fr.get_ins_other _ b2, Fr.get_ins_other _ b1, Fr.get_ins]
  · exact apF_srt (apF_srt (Fr.ins_srt (Fr.ins_srt (Fr.ins_srt hs))))
  · rw [apF_get k5, apF_get k4, Fr.get_ins_other _ k3, Fr.get_ins_other _ k2, Fr.get_ins_other _ k1]
end Go.Gh


/- The boxes that hold a rite and a scene. -/
namespace Go.Gh
open Go.Proofs
def riteX (n2 n3 n5 n7 : Nat) (r : Rite) : Blk := .box [.pure (.int .i64 r.wide), .pure (.int .i64 r.deep), .hdr (1, n2) 2 r.people.length 0 r.people.length, .hdr (1, n3) 5 r.things.length 0 r.things.length, .nils, apS (1, n5) 1 (r.lapses.map irow), apS (1, n7) 9 (r.acts.map RAct.row)]
def sceneX (s : Scene) : Blk := .box [.pure (.slice (s.people.map irow)), .pure (.slice (s.hands.map Hands.row)), .pure (.slice (s.things.map Spot.row))]
end Go.Gh


/- A copy of a rite that lies in blocks. -/
namespace Go.Gh
open Go.Proofs
set_option linter.unusedSimpArgs false
set_option linter.unusedVariables false
set_option linter.unnecessarySimpa false
set_option maxRecDepth 100000
set_option maxHeartbeats 4000000

variable {c : Nat} {H : Heap}

theorem gelems_rd {g : GV} {l : List (List PV)} (h : rdC H g (.slice l)) : gelems H g = some (l, H) := by
  cases g with
  | hdr nm es top lo len =>
    obtain ⟨rows, v, ro, a, b, h1, h2, h3, h4⟩ := h
    subst h1 h2 h3; cases h4
    simp [gelems, sliceOf, a, b]
  | pure p => cases h; rfl
  | nils => cases h; rfl
  | _ => exact h.elim
theorem rdC_push2 {f f' : Fr} {g : GV} {q : PV} (h : rdC H g q) : rdC (f :: f' :: H) g q := rdC_push (rdC_push h)
theorem ints_rd {g : GV} (l : List Int) (hn : l.length ≤ 1000000) (hg : rdC H g (.slice (l.map irow))) (hH : 0 < H.length) : gcall KC (geval KC) 31 [g] c H = some (.pure (.slice (l.map irow)), H) := by
  have hb : l.length * 8 ≤ 1099511627776 := by omega
  have A := apK_from (H := H) (l := H.length) (key := 5) (es := 1) (bytes := 8) (rows := l.map irow) (fr := []) rfl rfl (by simpa using hb)
  have hall : ∀ x : Int, (irow x).length = 1 := fun x => rfl
  have E := gelems_rd (rdC_push (f := []) hg)
  cases g with
  | hdr nm es top lo len =>
    refine WPv_eq (call_enterR KC needT Try.func31 rfl rfl good31 rfl rfl rfl (by simp) hH ?_)
    simp [A, hall, E, -gelems_hdr]
    rw [gleave_free]
    · rw [WPv_some, cc_apS rfl (by omega)]
    · simp
  | pure p => cases hg; exact ints_ok l hn hH
  | nils =>
    have hl : l = [] := by
      have := hg
      simp [rdC] at this
      exact this
    subst hl
    refine WPv_eq (call_enter KC needT Try.func31 rfl rfl good31 rfl rfl rfl (by simp) hH ?_)
    simp
    rw [gleave_free]
    · rw [WPv_some]
      simp
    · simp
  | _ => exact hg.elim
theorem rdC_can1 {g : GV} {q : PV} (h : rdC H g q) : rdC H (canon1 g) q := by
  cases g with
  | nils => exact h.symm
  | pure p => exact h
  | hdr => exact h
  | _ => exact h.elim
theorem own_leave (r : Rite) (hf1 : H.get (H.length - 1, newKey c 6) = none) (hf2 : H.get (H.length - 1, newKey c 10) = none) (hf3 : H.get (H.length - 1, newKey c 22) = none) (x y : Blk) :
    gleave KC 11 c (ownG (H.length, 6) (H.length, 10) (H.length, 22) r) (apF 22 9 (r.acts.map RAct.row) (apF 10 5 (r.things.map Thing.row) (apF 6 2 (r.people.map Person.row) [(1, x), (2, y)])) :: H) =
      some (ownG (H.length - 1, newKey c 6) (H.length - 1, newKey c 10) (H.length - 1, newKey c 22) r, ownH H (H.length - 1, newKey c 6) (H.length - 1, newKey c 10) (H.length - 1, newKey c 22) r) := by
  have n12 : newKey c 6 ≠ newKey c 10 := by unfold newKey; omega
  have n13 : newKey c 6 ≠ newKey c 22 := by unfold newKey; omega
  have n23 : newKey c 10 ≠ newKey c 22 := by unfold newKey; omega
  have nn : ∀ a b : Nat, a ≠ b → ((H.length - 1, b) : Nm) ≠ (H.length - 1, a) := fun a b h e => h (Prod.mk.inj e).2.symm
  have gg : ∀ (H' : Heap) (a b : Nat) (x : Blk), a ≠ b → (H'.set (H.length - 1, a) x).get (H.length - 1, b) = H'.get (H.length - 1, b) := fun H' a b x h => Heap.get_set_other x (nn a b h)
  have d2 := fun x => (gg H _ _ x n12).trans hf2
  have d3 := fun x => (gg H _ _ x n13).trans hf3
  have d3' := fun x => (gg H _ _ x n23).trans hf3
  have d4 := fun x y => (gg (H.set (H.length - 1, newKey c 6) x) _ _ y n23).trans (d3 x)
  unfold ownG ownH
  by_cases e1 : r.people = []
  · by_cases e2 : r.things = []
    · by_cases e3 : r.acts = []
      · simp [e1, e2, e3, apS, apF, gleave_keep, refs, refs2, refs1, dedup, moveOut, cleanBlk, ren, ren2, ren1, apSet, hf1, hf2, hf3, d2, d3, d3', d4]
      · simp [e1, e2, e3, apS, apF, gleave_keep, refs, refs2, refs1, dedup, moveOut, cleanBlk, ren, ren2, ren1, apSet, hf1, hf2, hf3, d2, d3, d3', d4]
    · by_cases e3 : r.acts = []
      · simp [e1, e2, e3, apS, apF, gleave_keep, refs, refs2, refs1, dedup, moveOut, cleanBlk, ren, ren2, ren1, apSet, hf1, hf2, hf3, d2, d3, d3', d4]
      · simp [e1, e2, e3, apS, apF, gleave_keep, refs, refs2, refs1, dedup, moveOut, cleanBlk, ren, ren2, ren1, apSet, hf1, hf2, hf3, d2, d3, d3', d4]
  · by_cases e2 : r.things = []
    · by_cases e3 : r.acts = []
      · simp [e1, e2, e3, apS, apF, gleave_keep, refs, refs2, refs1, dedup, moveOut, cleanBlk, ren, ren2, ren1, apSet, hf1, hf2, hf3, d2, d3, d3', d4]
      · simp [e1, e2, e3, apS, apF, gleave_keep, refs, refs2, refs1, dedup, moveOut, cleanBlk, ren, ren2, ren1, apSet, hf1, hf2, hf3, d2, d3, d3', d4]
    · by_cases e3 : r.acts = []
      · simp [e1, e2, e3, apS, apF, gleave_keep, refs, refs2, refs1, dedup, moveOut, cleanBlk, ren, ren2, ren1, apSet, hf1, hf2, hf3, d2, d3, d3', d4]
      · simp [e1, e2, e3, apS, apF, gleave_keep, refs, refs2, refs1, dedup, moveOut, cleanBlk, ren, ren2, ren1, apSet, hf1, hf2, hf3, d2, d3, d3', d4]

theorem ownR_at {F : Fr} {n2 n3 n5 n7 : Nat} {r : Rite} (h : Short r) (hV : RV F n2 n3 n5 n7 r)
    (hf1 : F.get (newKey c 6) = none) (hf2 : F.get (newKey c 10) = none) (hf3 : F.get (newKey c 22) = none) :
    gcall KC (geval KC) 11 [riteV (H.length, n2) (H.length, n3) (H.length, n5) (H.length, n7) r] c (F :: H) =
      some (ownG (H.length, newKey c 6) (H.length, newKey c 10) (H.length, newKey c 22) r, apF (newKey c 22) 9 (r.acts.map RAct.row) (apF (newKey c 10) 5 (r.things.map Thing.row) (apF (newKey c 6) 2 (r.people.map Person.row) F)) :: H) := by
  refine WPv_eq (call_enterR KC needT Try.func11 rfl rfl good11 rfl rfl rfl (by simp) (by simp) ?_)
  have h1 := h.p
  have h2 := h.t
  have h3 := h.a
  have b1 : r.people.length * 16 ≤ 1099511627776 := by omega
  have b2 : r.things.length * 40 ≤ 1099511627776 := by omega
  have b3 : r.acts.length * 72 ≤ 1099511627776 := by omega
  have l1 : ∀ x : Person, x.row.length = 2 := fun x => rfl
  have l2 : ∀ x : Thing, x.row.length = 5 := fun x => rfl
  have l3 : ∀ x : RAct, x.row.length = 9 := fun x => rfl
  have R0 := hV.rd (H := H)
  rw [rowR] at R0
  unfold riteV at R0
  rw [rdG_agg] at R0
  simp only [rdL_cons, rdL_nil, rdC_pure, and_true, true_and] at R0
  obtain ⟨r2, r3, r4, r5, r7⟩ := R0
  have E2 := fun f => gelems_rd (rdC_push (f := f) r2)
  have E3 := fun f => gelems_rd (rdC_push (f := f) r3)
  replace r5 := rdC_can1 r5
  replace r7 := rdC_can1 r7
  obtain ⟨g5, e5⟩ : ∃ g, canon1 (apS (H.length, n5) 1 (r.lapses.map irow)) = g := ⟨_, rfl⟩
  obtain ⟨g7, e7⟩ : ∃ g, canon1 (apS (H.length, n7) 9 (r.acts.map RAct.row)) = g := ⟨_, rfl⟩
  rw [e5] at r5
  rw [e7] at r7
  have E7 := fun f => gelems_rd (rdC_push (f := f) r7)
  have I1 := fun c f => ints_ok (c := c) (H := f :: F :: H) [] (by simp) (by simp)
  simp only [List.map_nil] at I1
  have e4 : r.seen = [] := hV.sn
  have I2 := fun c f => ints_rd (c := c) r.lapses h.l (rdC_push (f := f) r5) (by simp)
  have A1 := fun fr hf => apK_from (H := F :: H) (l := (F :: H).length) (key := 6) (es := 2) (bytes := 16) (rows := r.people.map Person.row) (fr := fr) rfl hf (by simpa using b1)
  have A2 := fun fr hf => apK_from (H := F :: H) (l := (F :: H).length) (key := 10) (es := 5) (bytes := 40) (rows := r.things.map Thing.row) (fr := fr) rfl hf (by simpa using b2)
  have A3 := fun fr hf => apK_from (H := F :: H) (l := (F :: H).length) (key := 22) (es := 9) (bytes := 72) (rows := r.acts.map RAct.row) (fr := fr) rfl hf (by simpa using b3)
  simp only [List.length_cons] at A1 A2 A3
  unfold riteV
  simp [A1, A2, A3, l1, l2, l3, I1, I2, E2, E3, E7, e5, e7, -gelems_hdr]
  have L := fun x y => own_leave (c := c) (H := F :: H) r (by simpa using hf1) (by simpa using hf2) (by simpa using hf3) x y
  unfold ownG at L
  rw [e4] at L
  simp only [List.map_nil, List.length_cons, Nat.add_sub_cancel] at L
  rw [L, WPv_some]
  unfold ownG ownH
  rw [apSet_1 rfl, apSet_1 rfl, apSet_1 rfl, e4]
  simp
end Go.Gh
