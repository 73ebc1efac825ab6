/- RiteChecks. -/
import Derived.Test.YtkcmcjohoockcaaRf
namespace Go.Gh
open Go.Proofs
set_option linter.unusedSimpArgs false
set_option linter.unusedVariables false
set_option linter.unnecessarySimpa false
set_option maxRecDepth 100000
set_option maxHeartbeats 4000000

theorem kp19 : kp 19 = 771854356 := by decide
theorem kt19 : kt 19 = 1392611348 := by decide
theorem kl19 : kl 19 = 1610715156 := by decide
theorem ka19 : ka 19 = 253972 := by decide

/-- Headers in the innermost frame, read. -/
theorem rdO {F : Fr} {H : Heap} {n2 n3 n7 : Nat} {r : Rite} (h2 : r.people.map Person.row ≠ [] → F.get n2 = some (.arr 2 (r.people.map Person.row) 0 false)) (h3 : r.things.map Thing.row ≠ [] → F.get n3 = some (.arr 5 (r.things.map Thing.row) 0 false))
    (h7 : r.acts.map RAct.row ≠ [] → F.get n7 = some (.arr 9 (r.acts.map RAct.row) 0 false)) : rdG (F :: H) (ownG (H.length, n2) (H.length, n3) (H.length, n7) r) (.agg r.row) := by
  have g : ∀ k, Heap.get (F :: H) (H.length, k) = F.get k := fun k => by simp
  rw [rowR]
  unfold ownG
  rw [rdG_agg]
  simp only [rdL_cons, rdL_nil, rdC_pure, and_true, true_and]
  exact ⟨rdC_apS fun h => (g _).trans (h2 h), rdC_apS fun h => (g _).trans (h3 h), rdC_apS fun h => (g _).trans (h7 h)⟩
theorem rdV {F : Fr} {H : Heap} {n2 n3 n5 n7 v v7 : Nat} {r : Rite} (h2 : F.get n2 = some (.arr 2 (r.people.map Person.row) 0 false)) (h3 : F.get n3 = some (.arr 5 (r.things.map Thing.row) v false)) (hv : v ≤ r.things.length) (hv7 : v7 ≤ r.acts.length)
    (h5 : r.lapses.map irow ≠ [] → F.get n5 = some (.arr 1 (r.lapses.map irow) 0 false)) (h7 : r.acts.map RAct.row ≠ [] → F.get n7 = some (.arr 9 (r.acts.map RAct.row) v7 false)) (hs : r.seen = []) : rdG (F :: H) (riteV (H.length, n2) (H.length, n3) (H.length, n5) (H.length, n7) r) (.agg r.row) := by
  have g : ∀ k, Heap.get (F :: H) (H.length, k) = F.get k := fun k => by simp
  rw [rowR]
  unfold riteV
  rw [rdG_agg]
  simp only [rdL_cons, rdL_nil, rdC_pure, and_true, true_and]
  refine ⟨⟨_, 0, false, (g _).trans h2, Nat.zero_le _, by simp, rfl, rfl, rfl⟩, ⟨_, v, false, (g _).trans h3, hv, by simp, rfl, rfl, rfl⟩, by rw [hs]; rfl, rdC_apS fun h => (g _).trans (h5 h), ?_⟩
  unfold apS
  by_cases h : r.acts.map RAct.row = []
  · rw [if_pos h, h]; rfl
  · rw [if_neg h]
    exact ⟨_, v7, false, (g _).trans (h7 h), by simpa using hv7, rfl, rfl, by simp, rfl⟩

theorem apS_ne {nm : Nm} {es : Nat} {rows : List (List PV)} (h : rows ≠ []) : apS nm es rows = .hdr nm es rows.length 0 rows.length := if_neg h
theorem law3 (r : Rite) (a : RAct) (at' : Int) (nums : List Int) (hnums : nums.length ≤ 9223372036854775807) :
    ∃ H', gcall KC (geval KC) 3 [.pure (.agg r.row), .pure (.agg a.row), .pure (.int .i64 at'), .pure (.slice (nums.map irow))] 0 [[]] = some (.pure (.bool true), H') := by
  suffices hs : WPv (gcall KC (geval KC) 3 [.pure (.agg r.row), .pure (.agg a.row), .pure (.int .i64 at'), .pure (.slice (nums.map irow))] 0 [[]]) (fun x => x.1 = .pure (.bool true)) by
    obtain ⟨⟨v, H'⟩, h1, rfl⟩ := hs
    exact ⟨H', h1⟩
  refine call_enter KC needT Try.func3 rfl rfl good3 rfl rfl rfl (by simp) (by simp) ?_
  have B := fun c (H : Heap) (hH : 0 < H.length) => big_ok (c := c) (H := H) r hH
  rw [rowR] at B ⊢
  rw [show PV.agg a.row = .agg [.int .i64 a.at', .int .i64 a.who, .int .i64 a.kind, .int .i64 a.hand, .int .i64 a.thing, .int .i64 a.cell, .int .i64 a.other, .int .i64 a.seasons, .int .i64 a.rank] from rfl]
  cases hb : bigV r with
  | true =>
    simp [B, hb, awake_ok, gleave_free]
  | false =>
    obtain ⟨b1, b2, b3, b4, b5⟩ := bigV_false hb
    have hS : Short r := ⟨by omega, by omega, by omega, by omega, by omega⟩
    have O := ownRite_ok (c := 16) (H := [[(4, rbox r), (5, abox a)], []]) r hS (by simp) (by simp [newKey]) (by simp [newKey]) (by simp [newKey])
    -- the box, the rite
    obtain ⟨F0, hF0⟩ : ∃ F0 : Int → Fr, F0 = fun w => apF 90129 9 (r.acts.map RAct.row) (apF 40977 5 (r.things.map Thing.row) (apF 24593 2 (r.people.map Person.row) [(4, rbox r), (5, abox a), (9, .box [.pure (.int .i64 r.wide), .pure (.int .i64 r.deep), apS (1, 24593) 2 (r.people.map Person.row), apS (1, 40977) 5 (r.things.map Thing.row), .pure (.slice (r.seen.map irow)), .pure (.slice (r.lapses.map irow)), apS (1, 90129) 9 (r.acts.map RAct.row)]), (24595, wbox w)])) := ⟨_, rfl⟩
    obtain ⟨w, eB⟩ := BoxOf_ok (c := 18) (H := [apF 90129 9 (r.acts.map RAct.row) (apF 40977 5 (r.things.map Thing.row) (apF 24593 2 (r.people.map Person.row) [(4, rbox r), (5, abox a), (9, .box [.pure (.int .i64 r.wide), .pure (.int .i64 r.deep), apS (1, 24593) 2 (r.people.map Person.row), apS (1, 40977) 5 (r.things.map Thing.row), .pure (.slice (r.seen.map irow)), .pure (.slice (r.lapses.map irow)), apS (1, 90129) 9 (r.acts.map RAct.row)])])), []]) nums hnums (by simp) (by simp [newKey])
    have hfin : Heap.set [apF 90129 9 (r.acts.map RAct.row) (apF 40977 5 (r.things.map Thing.row) (apF 24593 2 (r.people.map Person.row) [(4, rbox r), (5, abox a), (9, .box [.pure (.int .i64 r.wide), .pure (.int .i64 r.deep), apS (1, 24593) 2 (r.people.map Person.row), apS (1, 40977) 5 (r.things.map Thing.row), .pure (.slice (r.seen.map irow)), .pure (.slice (r.lapses.map irow)), apS (1, 90129) 9 (r.acts.map RAct.row)])])), []] (1, 24595) (wbox w) = [F0 w, []] := by
      rw [hF0]; simp
    have k18 : newKey 18 6 = 24595 := by decide
    simp only [List.length_cons, List.length_nil, Nat.zero_add, Nat.add_sub_cancel, k18, hfin] at eB
    have k16a : newKey 16 6 = 24593 := by decide
    have k16b : newKey 16 10 = 40977 := by decide
    have k16c : newKey 16 22 = 90129 := by decide
    simp only [List.length_cons, List.length_nil, Nat.zero_add, Nat.add_sub_cancel, k16a, k16b, k16c, ownH] at O
    rw [apSet_1 (by rfl), apSet_1 (by rfl), apSet_1 (by rfl)] at O
    simp [rowR, ownG, rbox, abox] at O eB
    have hBx : ∀ w, isBox [F0 w, []] (1, 24595) := fun w => ⟨w, by rw [hF0]; simp, by rw [hF0]; simp⟩
    have fr0 : ∀ w k, k ∉ [4, 5, 9, 24593, 24595, 40977, 90129] → (F0 w).get k = none := fun w k hk => by
      simp only [List.mem_cons, List.not_mem_nil, or_false, not_or] at hk
      rw [hF0]
      simp [hk]
    obtain ⟨r0, acts, s, v, wd, hRB, hv, eR⟩ := RiteOf_ok (c := 19) (H := [F0 w, []]) (hBx w) (N := 8) (by omega) (by omega) (by simp [kp19, fr0]) (by simp [kt19, fr0]) (by simp [kl19, fr0]) (by simp [ka19, fr0]) (fun k e => by
      have := (Prod.mk.inj e).2
      unfold newKey at this; omega)
    have lnb : (finR r0 acts s).people.length ≤ 3 ∧ (finR r0 acts s).things.length ≤ 4 ∧ (finR r0 acts s).lapses.length ≤ 3 ∧ (finR r0 acts s).acts.length ≤ 22 ∧ (finR r0 acts s).seen = [] ∧ v ≤ (finR r0 acts s).things.length := by
      refine ⟨hRB.room.p3, ?_, hRB.room.ll, hRB.len, hRB.room.seen, ?_⟩
      · show (finL _ _ _).length ≤ 4; rw [finL_len]; exact hRB.room.t4
      · show v ≤ (finL _ _ _).length; rw [finL_len]; exact hv
    generalize finR r0 acts s = m at eR lnb
    obtain ⟨l1, l2, l3, l4, l5, l6⟩ := lnb
    have hset : ∀ x, Heap.set [F0 w, []] (1, 24595) (wbox x) = [F0 x, []] := fun x => by rw [hF0]; simp
    simp only [List.length_cons, List.length_nil, Nat.zero_add, Nat.add_sub_cancel, hset, riteH, kp19, kt19, kl19, ka19] at eR
    have hmadeH : apSet (apSet (Heap.set (Heap.set [F0 wd, []] (1, 771854356) (.arr 2 (m.people.map Person.row) 0 false)) (1, 1392611348) (.arr 5 (m.things.map Thing.row) v false)) (1, 1610715156) 1 (m.lapses.map irow)) (1, 253972) 9 (m.acts.map RAct.row) =
        [apF 253972 9 (m.acts.map RAct.row) (apF 1610715156 1 (m.lapses.map irow) (((F0 wd).ins 771854356 (.arr 2 (m.people.map Person.row) 0 false)).ins 1392611348 (.arr 5 (m.things.map Thing.row) v false))), []] := by
      have : Heap.set (Heap.set [F0 wd, []] (1, 771854356) (.arr 2 (m.people.map Person.row) 0 false)) (1, 1392611348) (.arr 5 (m.things.map Thing.row) v false) = [((F0 wd).ins 771854356 (.arr 2 (m.people.map Person.row) 0 false)).ins 1392611348 (.arr 5 (m.things.map Thing.row) v false), []] := by simp
      rw [this, apSet_1 (by rfl), apSet_1 (by rfl)]
    rw [hmadeH] at eR
    obtain ⟨F3, hF3⟩ : ∃ F3, apF 253972 9 (m.acts.map RAct.row) (apF 1610715156 1 (m.lapses.map irow) (((F0 wd).ins 771854356 (.arr 2 (m.people.map Person.row) 0 false)).ins 1392611348 (.arr 5 (m.things.map Thing.row) v false))) = F3 := ⟨_, rfl⟩
    rw [hF3] at eR
    have fr3 : ∀ k, k ∉ [253972, 1610715156, 771854356, 1392611348] → F3.get k = (F0 wd).get k := fun k hk => by
      simp only [List.mem_cons, List.not_mem_nil, or_false, not_or] at hk
      rw [← hF3, apF_get hk.1, apF_get hk.2.1, Fr.get_ins_other _ hk.2.2.2, Fr.get_ins_other _ hk.2.2.1]
    have p4 : F3.get 4 = some (rbox r) := (fr3 4 (by decide)).trans (by rw [hF0]; simp)
    have p5 : F3.get 5 = some (abox a) := (fr3 5 (by decide)).trans (by rw [hF0]; simp)
    have p9 : F3.get 9 = some (.box [.pure (.int .i64 r.wide), .pure (.int .i64 r.deep), apS (1, 24593) 2 (r.people.map Person.row), apS (1, 40977) 5 (r.things.map Thing.row), .pure (.slice (r.seen.map irow)), .pure (.slice (r.lapses.map irow)), apS (1, 90129) 9 (r.acts.map RAct.row)]) := (fr3 9 (by decide)).trans (by rw [hF0]; simp)
    have p10 : F3.get 10 = none := (fr3 10 (by decide)).trans (fr0 _ _ (by decide))
    have o2 : r.people.map Person.row ≠ [] → F3.get 24593 = some (.arr 2 (r.people.map Person.row) 0 false) := fun h => (fr3 _ (by decide)).trans (by rw [hF0]; simp only; rw [apF_get (by decide), apF_get (by decide), apF_self h])
    have o3 : r.things.map Thing.row ≠ [] → F3.get 40977 = some (.arr 5 (r.things.map Thing.row) 0 false) := fun h => (fr3 _ (by decide)).trans (by rw [hF0]; simp only; rw [apF_get (by decide), apF_self h])
    have o7 : r.acts.map RAct.row ≠ [] → F3.get 90129 = some (.arr 9 (r.acts.map RAct.row) 0 false) := fun h => (fr3 _ (by decide)).trans (by rw [hF0]; simp only; rw [apF_self h])
    have m2 : F3.get 771854356 = some (.arr 2 (m.people.map Person.row) 0 false) := by rw [← hF3, apF_get (by decide), apF_get (by decide), Fr.get_ins_other _ (by decide), Fr.get_ins]
    have m3 : F3.get 1392611348 = some (.arr 5 (m.things.map Thing.row) v false) := by rw [← hF3, apF_get (by decide), apF_get (by decide), Fr.get_ins]
    have m5 : m.lapses.map irow ≠ [] → F3.get 1610715156 = some (.arr 1 (m.lapses.map irow) 0 false) := fun h => by rw [← hF3, apF_get (by decide), apF_self h]
    have m7 : m.acts.map RAct.row ≠ [] → F3.get 253972 = some (.arr 9 (m.acts.map RAct.row) 0 false) := fun h => by rw [← hF3, apF_self h]
    have mS : ∀ l : List RAct, l.length = m.acts.length → Short { m with acts := l } := fun l hl => ⟨by show m.people.length ≤ _; omega, by show m.things.length ≤ _; omega, by show m.seen.length ≤ _; rw [l5]; simp, by show m.lapses.length ≤ _; omega, by show l.length ≤ _; omega⟩
    obtain ⟨F4, hF4⟩ : ∃ F4, F3.ins 10 (.box [.pure (.int .i64 m.wide), .pure (.int .i64 m.deep), .hdr (1, 771854356) 2 m.people.length 0 m.people.length, .hdr (1, 1392611348) 5 m.things.length 0 m.things.length, .nils, apS (1, 1610715156) 1 (m.lapses.map irow), apS (1, 253972) 9 (m.acts.map RAct.row)]) = F4 := ⟨_, rfl⟩
    have fr4 : ∀ k, k ≠ 10 → F4.get k = F3.get k := fun k hk => by rw [← hF4, Fr.get_ins_other _ hk]
    have q10 : F4.get 10 = some (.box [.pure (.int .i64 m.wide), .pure (.int .i64 m.deep), .hdr (1, 771854356) 2 m.people.length 0 m.people.length, .hdr (1, 1392611348) 5 m.things.length 0 m.things.length, .nils, apS (1, 1610715156) 1 (m.lapses.map irow), apS (1, 253972) 9 (m.acts.map RAct.row)]) := by rw [← hF4, Fr.get_ins]
    have q4 := (fr4 4 (by decide)).trans p4
    have q5 := (fr4 5 (by decide)).trans p5
    have q9 := (fr4 9 (by decide)).trans p9
    simp only [riteV] at eR
    -- the last line
    have last : ∀ (F : Fr) (l : List RAct) (v7 : Nat), l.length = m.acts.length → v7 ≤ l.length → (∀ k, k ≠ 5 → k ≠ 253972 → F.get k = F4.get k) → (l.map RAct.row ≠ [] → F.get 253972 = some (.arr 9 (l.map RAct.row) v7 false)) →
        (∀ c, gcall KC (geval KC) 15 [.agg [.pure (.int .i64 r.wide), .pure (.int .i64 r.deep), apS (1, 24593) 2 (r.people.map Person.row), apS (1, 40977) 5 (r.things.map Thing.row), .pure (.slice (r.seen.map irow)), .pure (.slice (r.lapses.map irow)), apS (1, 90129) 9 (r.acts.map RAct.row)]] c [F, []] = some (.pure (.int .i64 (checkF r)), [F, []])) ∧
        (∀ c, gcall KC (geval KC) 16 [.pure (.agg r.row)] c [F, []] = some (.pure (.int .i64 (checkF r)), [F, []])) ∧
        (∀ c, gcall KC (geval KC) 17 [.agg [.pure (.int .i64 r.wide), .pure (.int .i64 r.deep), apS (1, 24593) 2 (r.people.map Person.row), apS (1, 40977) 5 (r.things.map Thing.row), .pure (.slice (r.seen.map irow)), .pure (.slice (r.lapses.map irow)), apS (1, 90129) 9 (r.acts.map RAct.row)], .pure (.agg r.row)] c [F, []] = some (.pure (.bool true), [F, []])) ∧
        (∀ c, gcall KC (geval KC) 15 [.agg [.pure (.int .i64 m.wide), .pure (.int .i64 m.deep), .hdr (1, 771854356) 2 m.people.length 0 m.people.length, .hdr (1, 1392611348) 5 m.things.length 0 m.things.length, .nils, apS (1, 1610715156) 1 (m.lapses.map irow), apS (1, 253972) 9 (l.map RAct.row)]] c [F, []] = some (.pure (.int .i64 (checkF { m with acts := l })), [F, []])) ∧
        (∀ c, gcall KC (geval KC) 16 [.agg [.pure (.int .i64 m.wide), .pure (.int .i64 m.deep), .hdr (1, 771854356) 2 m.people.length 0 m.people.length, .hdr (1, 1392611348) 5 m.things.length 0 m.things.length, .nils, apS (1, 1610715156) 1 (m.lapses.map irow), apS (1, 253972) 9 (l.map RAct.row)]] c [F, []] = some (.pure (.int .i64 (checkF { m with acts := l })), [F, []])) := fun F l v7 hl hv7 hF h7 => by
      have e : ∀ k, k ≠ 5 → k ≠ 253972 → k ≠ 10 → F.get k = F3.get k := fun k h1 h2 h3 => (hF k h1 h2).trans (fr4 k h3)
      have R1 := rdO (F := F) (H := [[]]) (n2 := 24593) (n3 := 40977) (n7 := 90129) (r := r) (fun h => (e _ (by decide) (by decide) (by decide)).trans (o2 h)) (fun h => (e _ (by decide) (by decide) (by decide)).trans (o3 h)) (fun h => (e _ (by decide) (by decide) (by decide)).trans (o7 h))
      have R2 := rdV (F := F) (H := [[]]) (n2 := 771854356) (n3 := 1392611348) (n5 := 1610715156) (n7 := 253972) (v := v) (v7 := v7) (r := { m with acts := l }) ((e _ (by decide) (by decide) (by decide)).trans m2) ((e _ (by decide) (by decide) (by decide)).trans m3) l6 hv7 (fun h => (e _ (by decide) (by decide) (by decide)).trans (m5 h)) h7 l5
      exact ⟨fun c => checkB_ok r hS R1 (by simp), fun c => checkRB_ok r hS rfl (by simp), fun c => eqRites_ok r hS R1 rfl (by simp), fun c => checkB_ok _ (mS l hl) R2 (by simp), fun c => checkRB_ok _ (mS l hl) R2 (by simp)⟩
    by_cases hac : m.acts = []
    · obtain ⟨c1, c2, c3, c4, c5⟩ := last F4 m.acts 0 rfl (Nat.zero_le _) (fun k _ _ => rfl) (fun h => (fr4 _ (by decide)).trans (m7 h))
      simp [hac, apS_nil] at eR hF4 q10 c4 c5
      rw [rowR] at c2 c3
      simp only [rbox] at q4
      simp [B, hb, O, eB, eR, p10, Fr.get_ins, Fr.ins_ins, hF4, q10, q4, q9, c1, c2, c3, c4, c5, awake_ok, gleave_free]
    · have hac0 : 0 < m.acts.length := List.length_pos_iff.2 hac
      have hac1 : (0 : Int) < m.acts.length := by omega
      obtain ⟨k, hk, eF⟩ := fit_ok (H := [[]]) at' hac0 (by omega) (by simp)
      have nr : m.acts.map RAct.row ≠ [] := by simpa using hac
      have q7 : F4.get 253972 = some (.arr 9 (m.acts.map RAct.row) 0 false) := (fr4 _ (by decide)).trans (m7 nr)
      obtain ⟨a', ha'⟩ : ∃ a' : RAct, a' = { a with at' := m.acts[k].at' } := ⟨_, rfl⟩
      obtain ⟨F5, hF5⟩ : ∃ F5, F4.ins 5 (abox a') = F5 := ⟨_, rfl⟩
      have fr5 : ∀ k, k ≠ 5 → F5.get k = F4.get k := fun k hk => by rw [← hF5, Fr.get_ins_other _ hk]
      have s5 : F5.get 5 = some (abox a') := by rw [← hF5, Fr.get_ins]
      have s7 := (fr5 253972 (by decide)).trans q7
      have s10 := (fr5 10 (by decide)).trans q10
      obtain ⟨F6, hF6⟩ : ∃ F6, F5.ins 253972 (.arr 9 ((m.acts.set k a').map RAct.row) m.acts.length false) = F6 := ⟨_, rfl⟩
      have fr6 : ∀ k, k ≠ 253972 → F6.get k = F5.get k := fun k hk => by rw [← hF6, Fr.get_ins_other _ hk]
      have t4 := ((fr6 4 (by decide)).trans (fr5 4 (by decide))).trans q4
      have t9 := ((fr6 9 (by decide)).trans (fr5 9 (by decide))).trans q9
      have t10 := (fr6 10 (by decide)).trans s10
      obtain ⟨c1, c2, c3, c4, c5⟩ := last F6 (m.acts.set k a') m.acts.length (by simp) (by simp) (fun k h1 h2 => (fr6 k h2).trans (fr5 k h1)) (fun _ => by rw [← hF6, Fr.get_ins])
      rw [rowR] at c2 c3
      have hsl : m.acts.set k a' ≠ [] := by rw [ne_eq, List.set_eq_nil_iff]; exact hac
      simp only [rbox] at q4 t4
      simp only [abox] at q5 s5 hF5
      have nr2 : (m.acts.set k a').map RAct.row ≠ [] := by simpa using hsl
      have es1 := apS_ne (nm := (1, 253972)) (es := 9) nr
      have es2 := apS_ne (nm := (1, 253972)) (es := 9) nr2
      rw [es1] at eR hF4 q10 s10 t10
      rw [es2] at c4 c5
      simp [ha'] at eR hF4 q10 c4 c5 hF5 s5 s10 t10
      simp [RAct.row, ha'] at hF6
      simp [B, hb, O, eB, eR, p10, Fr.get_ins, Fr.ins_ins, hF4, q10, q4, q5, q7, q9, hac, hac0, hac1, eF, hk, hF5, s5, s7, s10, hF6, t4, t9, t10, c1, c2, c3, c4, c5, awake_ok, gleave_free, RAct.row]
end Go.Gh
