/- RiteChosen's loops. -/
import Derived.Test.YtkcmcjohoockcaaRk
import Derived.Test.YtkcmcjohoockcaaPd
import Derived.Test.YtkcmcjohoockcaaGm
namespace Go.Gh
open Go.Proofs
set_option linter.unusedSimpArgs false
set_option linter.unusedVariables false
set_option linter.unnecessarySimpa false
set_option maxRecDepth 100000
set_option maxHeartbeats 4000000
theorem bit_loop {F : Fr} (kk : Nat) (hk : kk ≤ 3) (n : Int) (Q : GX → GSt → Prop)
    (h1 : Q (.exit 0) ⟨[(3, .bptr (1, 24599) 0), (4, .bptr (1, 4) 0), (5, .pure (.int .i64 kk)), (6, .pure (.int .i64 n)), (7, .bptr (1, 7) 0), (8, .pure (.int .i64 0)), (9, .nils), (10, .pure (.int .i64 (2 ^ kk)))], [F, []], 165⟩) :
    ∀ j i : Nat, i + j = kk → WPL KC needT 7 (lp Try.f7 0) [3, 4, 5, 6, 7, 8, 9, 10, 11] [3, 4, 5, 6, 7, 8, 9, 10] Q [(3, .bptr (1, 24599) 0), (4, .bptr (1, 4) 0), (5, .pure (.int .i64 kk)), (6, .pure (.int .i64 n)), (7, .bptr (1, 7) 0), (8, .pure (.int .i64 0)), (9, .nils), (10, .pure (.int .i64 (2 ^ i))), (11, .pure (.int .i64 i))] [F, []] 165 := by
  intro j
  induction j with
  | zero =>
    intro i hi
    have e : i = kk := by omega
    subst e
    apply WPL_step
    conv => arg 4; whnf
    simp
    simpa using h1
  | succ j ih =>
    intro i hi
    have hia : i < kk := by omega
    have ih' := ih (i + 1) (by omega)
    have hw := w64 (x := (i : Int) + 1) (by omega) (by omega)
    have hw2 : IntKind.i64.wrap (2 * 2 ^ i) = 2 ^ (i + 1) := by
      have : i = 0 ∨ i = 1 ∨ i = 2 := by omega
      rcases this with rfl | rfl | rfl <;> exact w64 (by decide) (by decide)
    apply WPL_step
    conv => arg 4; whnf
    simp [hia, hw, hw2]
    simpa using ih'
theorem pick_rng (w : Int) (u : Int) (h0 : 0 ≤ u) (h9 : u ≤ 9) : 0 ≤ (pickR w [0, u]).1 ∧ (pickR w [0, u]).1 ≤ 9 := by
  rw [pickR_def]
  have hr := upR_rng w 2 (by omega)
  simp only [List.length_cons, List.length_nil]
  rw [if_neg (by omega)]
  have : (upR w 2).1 = 0 ∨ (upR w 2).1 = 1 := by omega
  show 0 ≤ [0, u].getD (upR w 2).1.toNat 0 ∧ [0, u].getD (upR w 2).1.toNat 0 ≤ 9
  rcases this with e | e <;> rw [e] <;> simp <;> omega
def mkd (a : RAct) (s q : Int) : RAct := { a with seasons := s, rank := q }
theorem bare_mkd (a : RAct) (s q : Int) : bare (mkd a s q) = bare a := rfl
structure MkSt (acts : List RAct) (kk : Nat) (n : Int) (N i : Nat) (F : Fr) (l : List RAct) (due : List RAct) : Prop where
  len : l.length = N
  bare : l.map Go.Gh.bare = acts
  ok : ∀ x ∈ l, MarkOk x
  un : ∀ j (h : j < l.length), i ≤ j → Go.Gh.bare l[j] = l[j]
  du : due = chosenL kk n (l.take i)
  dn : due = [] → F.get 100 = none
  ds : due ≠ [] → F.get 100 = some (.arr 9 (due.map RAct.row) 0 false)
theorem take_mark {l : List RAct} {i : Nat} (h : i < l.length) (a : RAct) : (l.set i a).take (i + 1) = l.take i ++ [a] := by
  rw [List.take_succ_eq_append_getElem (by simpa using h), List.take_set_of_le (Nat.le_refl _)]
  simp
theorem chosen_mark (kk : Nat) (n : Int) {l : List RAct} {i : Nat} (h : i < l.length) (a : RAct) : chosenL kk n ((l.set i a).take (i + 1)) = if passV kk n a = true then chosenL kk n (l.take i) ++ [Go.Gh.bare a] else chosenL kk n (l.take i) := by
  rw [take_mark h, chosen_append, chosen_cons]
  split
  · rfl
  · show _ ++ [] = _
    rw [List.append_nil]
theorem MkSt.step {acts : List RAct} {kk : Nat} {n : Int} {N i : Nat} {F F' : Fr} {l due due' : List RAct} (hM : MkSt acts kk n N i F l due) (hil : i < l.length) {s q : Int} (h1 : 0 ≤ s) (h2 : s ≤ 15) (h3 : 0 ≤ q) (h4 : q ≤ 9)
    (hdu : due' = chosenL kk n ((l.set i (mkd l[i] s q)).take (i + 1))) (dn : due' = [] → F'.get 100 = none) (ds : due' ≠ [] → F'.get 100 = some (.arr 9 (due'.map RAct.row) 0 false)) : MkSt acts kk n N (i + 1) F' (l.set i (mkd l[i] s q)) due' where
  len := by rw [List.length_set]; exact hM.len
  bare := by
    rw [List.map_set, bare_mkd, ← hM.bare]
    have : (l.map Go.Gh.bare)[i]'(by simpa using hil) = Go.Gh.bare l[i] := by simp
    rw [← this, List.set_getElem_self]
  ok := fun x hx => by
    rcases List.mem_or_eq_of_mem_set hx with h | h
    · exact hM.ok x h
    · subst h; exact ⟨h1, h2, h3, h4⟩
  un := fun j hj hij => by
    have hj' : j < l.length := by simpa using hj
    rw [List.getElem_set_ne (by omega)]
    exact hM.un j hj' (by omega)
  du := hdu
  dn := dn
  ds := ds
theorem mark_loop {acts : List RAct} (kk : Nat) (n bit : Int) (hb0 : ¬ bit = 0) (hbw : ∀ s : Nat, s < 16 → IntKind.i64.wrap ((s : Int).tdiv bit) = (s : Int).tdiv bit) (hbs : ∀ s : Nat, s < 16 → (band .i64 ((s : Int).fdiv (2 ^ (min kk 64))) 1 == 1) = (((s : Int).tdiv bit).tmod 2 == 1)) {N : Nat} (hN : N ≤ 1000000) {c0 c1 c2 c3 c4 c5 : GV} (Q : GX → GSt → Prop) :
    ∀ (k i : Nat) (F : Fr) (l due : List RAct) (w : Int) (v : Nat), i + k = N → v ≤ N → F.srt → F.get 24599 = some (wbox w) → F.get 4 = some (.box [c0, c1, c2, c3, c4, c5, .hdr (1, 253977) 9 N 0 N]) → F.get 253977 = some (.arr 9 (l.map RAct.row) v false) → MkSt acts kk n N i F l due →
    (∀ F' l' due' v' w', (∀ k, k ≠ 24599 → k ≠ 253977 → k ≠ 100 → F'.get k = F.get k) → F'.srt → v' ≤ N → F'.get 24599 = some (wbox w') → F'.get 253977 = some (.arr 9 (l'.map RAct.row) v' false) → MkSt acts kk n N N F' l' due' →
      Q (.exit 2) ⟨[(3, .bptr (1, 24599) 0), (4, .bptr (1, 4) 0), (5, .pure (.int .i64 kk)), (6, .pure (.int .i64 n)), (7, .bptr (1, 7) 0), (8, .pure (.int .i64 0)), (9, apS (1, 100) 9 (due'.map RAct.row))], [F', []], 165⟩) →
    WPL KC needT 7 (lp Try.f7 1) [3, 4, 5, 6, 7, 8, 9, 10, 12] [3, 4, 5, 6, 7, 8, 9] Q [(3, .bptr (1, 24599) 0), (4, .bptr (1, 4) 0), (5, .pure (.int .i64 kk)), (6, .pure (.int .i64 n)), (7, .bptr (1, 7) 0), (8, .pure (.int .i64 0)), (9, apS (1, 100) 9 (due.map RAct.row)), (10, .pure (.int .i64 bit)), (12, .pure (.int .i64 i))] [F, []] 165 := by
  intro k
  induction k with
  | zero =>
    intro i F l due w v hi hv hs hb h4 ha hM h1
    have hia : i = N := by omega
    subst hia
    apply WPL_step
    conv => arg 4; whnf
    simp [h4]
    exact h1 F l due v w (fun _ _ _ _ => rfl) hs hv hb ha hM
  | succ k ih =>
    intro i F l due w v hi hv hs hb h4 ha hM h1
    have hia : i < N := by omega
    have hil : i < l.length := by rw [hM.len]; exact hia
    have hw := w64 (x := (i : Int) + 1) (by omega) (by omega)
    have hnl : N ≤ l.length := by rw [hM.len]; exact Nat.le_refl _
    have hl := hM.len
    have p4a := fun b (f : Fr) => Fr.get_ins_other (p := 4) (q := 24599) b (by decide) f
    have p4b := fun b (f : Fr) => Fr.get_ins_other (p := 4) (q := 253977) b (by decide) f
    have pa := fun b (f : Fr) => Fr.get_ins_other (p := 253977) (q := 24599) b (by decide) f
    obtain ⟨sN, w1, e1, hs1⟩ := upR_get w 16 (by omega) (by omega)
    obtain ⟨uN, w2, e2, hu1⟩ := upR_get w1 10 (by omega) (by omega)
    obtain ⟨q, w3, e3⟩ : ∃ q w3, pickR w2 [0, (uN : Int)] = (q, w3) := ⟨_, _, rfl⟩
    have hq := pick_rng w2 uN (by omega) (by omega)
    rw [e3] at hq
    simp only at hq
    have U1 := fun (c : Nat) (f : Fr) => up_ok (c := c) (H := [f, F, []]) (nm := (1, 24599)) (n := 16) ⟨w, by simp [hb], by simp [Fr.ins_same hs hb]⟩ (by omega)
    have U2 := fun (c : Nat) (f : Fr) => up_ok (c := c) (H := [f, F.ins 24599 (wbox w1), []]) (nm := (1, 24599)) (n := 10) ⟨w1, by simp [Fr.get_ins], by simp [Fr.ins_ins]⟩ (by omega)
    have U3 := fun (c : Nat) (f : Fr) => pick_ok (c := c) (H := [f, F.ins 24599 (wbox w2), []]) (nm := (1, 24599)) (l := [0, (uN : Int)]) ⟨w2, by simp [Fr.get_ins], by simp [Fr.ins_ins]⟩ (by simp)
    have hw1 : ∀ f : Fr, wordAt [f, F, []] (1, 24599) = w := fun f => by simp [wordAt, hb, wbox]
    have hw2 : ∀ f : Fr, wordAt [f, F.ins 24599 (wbox w1), []] (1, 24599) = w1 := fun f => by simp [wordAt, Fr.get_ins, wbox]
    have hw3 : ∀ f : Fr, wordAt [f, F.ins 24599 (wbox w2), []] (1, 24599) = w2 := fun f => by simp [wordAt, Fr.get_ins, wbox]
    simp only [hw1, e1] at U1
    simp only [hw2, e2] at U2
    simp only [hw3, e3] at U3
    simp [Fr.ins_ins, irow] at U1 U2 U3
    have hs16 : sN < 16 := by omega
    have b1 := hbw sN hs16
    have b2 := hbs sN hs16
    have hun := hM.un i hil (Nat.le_refl _)
    obtain ⟨d, hd⟩ : ∃ d, (sN : Int).tdiv bit = d := ⟨_, rfl⟩
    rw [hd] at b1 b2
    have p100a := fun b (f : Fr) => Fr.get_ins_other (p := 100) (q := 24599) b (by decide) f
    have p100b := fun b (f : Fr) => Fr.get_ins_other (p := 100) (q := 253977) b (by decide) f
    have dl : due.length ≤ i := by
      rw [hM.du]; unfold chosenL; rw [List.length_map]
      have := List.length_filter_le (passV kk n) (l.take i)
      rw [List.length_take] at this
      omega
    have A := fun (f : Fr) (w : Int) (b : Blk) => apK_apS (l := 1) (key := 100) (es := 9) (bytes := 72) (rows := due.map RAct.row) (r := l[i].row) (H' := [f, (F.ins 24599 (wbox w)).ins 253977 b, []]) (fun h => by simp [p100a, p100b, hM.dn (by simpa using h)]) (fun h => by simp [p100a, p100b, hM.ds (by simpa using h)]) (by simp) (by simp; omega)
    simp [RAct.row] at A
    apply WPL_step
    conv => arg 4; whnf
    have hrow : ∀ x : RAct, [PV.int .i64 x.at', .int .i64 x.who, .int .i64 x.kind, .int .i64 x.hand, .int .i64 x.thing, .int .i64 x.cell, .int .i64 x.other, .int .i64 x.seasons, .int .i64 x.rank] = RAct.row x := fun _ => rfl
    have hrow2 : [PV.int .i64 l[i].at', .int .i64 l[i].who, .int .i64 l[i].kind, .int .i64 l[i].hand, .int .i64 l[i].thing, .int .i64 l[i].cell, .int .i64 l[i].other, .int .i64 (sN : Int), .int .i64 q] = RAct.row (mkd l[i] sN q) := rfl
    have hpv : passV kk n (mkd l[i] sN q) = ((decide ((sN : Int) = 0) || (d.tmod 2 == 1)) && decide (q ≤ n)) := by rw [passV_def, ← b2]; rfl
    have hdu := chosen_mark kk n hil (mkd l[i] sN q)
    rw [← hM.du, bare_mkd, hun, hpv] at hdu
    -- not chosen
    have NO : ((decide ((sN : Int) = 0) || (d.tmod 2 == 1)) && decide (q ≤ n)) = false → WPL KC needT 7 (lp Try.f7 1) [3, 4, 5, 6, 7, 8, 9, 10, 12] [3, 4, 5, 6, 7, 8, 9] Q [(3, .bptr (1, 24599) 0), (4, .bptr (1, 4) 0), (5, .pure (.int .i64 kk)), (6, .pure (.int .i64 n)), (7, .bptr (1, 7) 0), (8, .pure (.int .i64 0)), (9, apS (1, 100) 9 (due.map RAct.row)), (10, .pure (.int .i64 bit)), (12, .pure (.int .i64 ((i : Int) + 1)))] [Fr.ins 253977 (.arr 9 ((l.set i (mkd l[i] sN q)).map RAct.row) N false) (Fr.ins 24599 (wbox w3) F), []] 165 := fun hp => by
      rw [hp] at hdu
      simp only [Bool.false_eq_true, if_false] at hdu
      have ih' := ih (i + 1) (Fr.ins 253977 (.arr 9 ((l.set i (mkd l[i] sN q)).map RAct.row) N false) (Fr.ins 24599 (wbox w3) F)) _ due w3 N (by omega) (Nat.le_refl _) (Fr.ins_srt (Fr.ins_srt hs)) ((Fr.get_ins_other _ (by decide) _).trans (Fr.get_ins ..)) ((p4b _ _).trans ((p4a _ _).trans h4)) (Fr.get_ins ..)
        (hM.step hil (by omega) (by omega) hq.1 hq.2 hdu.symm (fun h => (p100b _ _).trans ((p100a _ _).trans (hM.dn h))) (fun h => (p100b _ _).trans ((p100a _ _).trans (hM.ds h))))
        (fun F' l' due' v' w' g1 => h1 F' l' due' v' w' fun k k1 k2 k3 => (g1 k k1 k2 k3).trans ((Fr.get_ins_other _ k2 _).trans (Fr.get_ins_other _ k1 F)))
      simpa using ih'
    have YES : ((decide ((sN : Int) = 0) || (d.tmod 2 == 1)) && decide (q ≤ n)) = true → WPL KC needT 7 (lp Try.f7 1) [3, 4, 5, 6, 7, 8, 9, 10, 12] [3, 4, 5, 6, 7, 8, 9] Q [(3, .bptr (1, 24599) 0), (4, .bptr (1, 4) 0), (5, .pure (.int .i64 kk)), (6, .pure (.int .i64 n)), (7, .bptr (1, 7) 0), (8, .pure (.int .i64 0)), (9, apS (1, 100) 9 ((due ++ [l[i]]).map RAct.row)), (10, .pure (.int .i64 bit)), (12, .pure (.int .i64 ((i : Int) + 1)))] [Fr.ins 100 (.arr 9 ((due ++ [l[i]]).map RAct.row) 0 false) (Fr.ins 253977 (.arr 9 ((l.set i (mkd l[i] sN q)).map RAct.row) N false) (Fr.ins 24599 (wbox w3) F)), []] 165 := fun hp => by
      rw [hp] at hdu
      simp only [if_true] at hdu
      have ih' := ih (i + 1) (Fr.ins 100 (.arr 9 ((due ++ [l[i]]).map RAct.row) 0 false) (Fr.ins 253977 (.arr 9 ((l.set i (mkd l[i] sN q)).map RAct.row) N false) (Fr.ins 24599 (wbox w3) F))) _ (due ++ [l[i]]) w3 N (by omega) (Nat.le_refl _) (Fr.ins_srt (Fr.ins_srt (Fr.ins_srt hs))) ((Fr.get_ins_other _ (by decide) _).trans ((Fr.get_ins_other _ (by decide) _).trans (Fr.get_ins ..))) ((Fr.get_ins_other _ (by decide) _).trans ((p4b _ _).trans ((p4a _ _).trans h4))) ((Fr.get_ins_other _ (by decide) _).trans (Fr.get_ins ..))
        (hM.step hil (by omega) (by omega) hq.1 hq.2 hdu.symm (fun h => by simp at h) (fun h => Fr.get_ins ..))
        (fun F' l' due' v' w' g1 => h1 F' l' due' v' w' fun k k1 k2 k3 => (g1 k k1 k2 k3).trans ((Fr.get_ins_other _ k3 _).trans ((Fr.get_ins_other _ k2 _).trans (Fr.get_ins_other _ k1 F))))
      simpa using ih'
    clear ih h1 hdu
    by_cases hz : sN = 0
    · have hz' : ((sN : Int) == 0) = true := by simpa using hz
      by_cases hr : q ≤ n
      · simp [hia, h4, ha, hil, hw, Fr.get_ins, Fr.ins_ins, hnl, hv, hl, p4a, p4b, pa, U1, U2, U3, RAct.row, hz, hr, A]
        have := YES (by simp [hz, hr])
        simpa [RAct.row, mkd, List.map_set, hz] using this
      · simp [hia, h4, ha, hil, hw, Fr.get_ins, Fr.ins_ins, hnl, hv, hl, p4a, p4b, pa, U1, U2, U3, RAct.row, hz, hr]
        have := NO (by simp [hr])
        simpa [RAct.row, mkd, List.map_set, hz] using this
    · have hz' : ((sN : Int) == 0) = false := by simpa using hz
      by_cases hb : (d.tmod 2 == 1) = true
      · by_cases hr : q ≤ n
        · simp [hia, h4, ha, hil, hw, Fr.get_ins, Fr.ins_ins, hnl, hv, hl, p4a, p4b, pa, U1, U2, U3, RAct.row, hz, hz', hb0, hd, b1, hb, hr, A]
          have := YES (by simp [hb, hr])
          simpa [RAct.row, mkd, List.map_set] using this
        · simp [hia, h4, ha, hil, hw, Fr.get_ins, Fr.ins_ins, hnl, hv, hl, p4a, p4b, pa, U1, U2, U3, RAct.row, hz, hz', hb0, hd, b1, hb, hr]
          have := NO (by simp [hr])
          simpa [RAct.row, mkd, List.map_set] using this
      · have hb' : (d.tmod 2 == 1) = false := by simpa using hb
        simp [hia, h4, ha, hil, hw, Fr.get_ins, Fr.ins_ins, hnl, hv, hl, p4a, p4b, pa, U1, U2, U3, RAct.row, hz, hz', hb0, hd, b1, hb']
        have := NO (by simp [hz, hb'])
        simpa [RAct.row, mkd, List.map_set] using this
end Go.Gh


/- RiteChosen: the last loop; lists in blocks held against one another. -/
namespace Go.Gh
open Go.Proofs
set_option linter.unusedSimpArgs false
set_option linter.unusedVariables false
set_option linter.unnecessarySimpa false
set_option maxRecDepth 100000
set_option maxHeartbeats 4000000
theorem unmark_loop {acts due : List RAct} {N : Nat} (hN : N ≤ 1000000) {c0 c1 c2 c3 c4 c5 : GV} (Q : GX → GSt → Prop) :
    ∀ (k i : Nat) (F : Fr) (l : List RAct) (v : Nat), i + k = N → v ≤ N → F.get 19 = some (.box [c0, c1, c2, c3, c4, c5, .hdr (1, 90231) 9 N 0 N]) → F.get 90231 = some (.arr 9 (l.map RAct.row) v false) → l.length = N → l.map bare = acts → (∀ j (h : j < l.length), j < i → bare l[j] = l[j]) →
    (∀ F' v', (∀ k, k ≠ 90231 → F'.get k = F.get k) → v' ≤ N → F'.get 90231 = some (.arr 9 (acts.map RAct.row) v' false) →
      Q (.exit 4) ⟨[(7, .bptr (1, 7) 0), (8, .pure (.int .i64 0)), (9, apS (1, 100) 9 (due.map RAct.row)), (15, .bptr (1, 15) 0), (16, .pure (.int .i64 0)), (17, .bptr (1, 17) 0), (18, .pure (.int .i64 0)), (19, .bptr (1, 19) 0)], [F', []], 165⟩) →
    WPL KC needT 7 (lp Try.f7 2) [7, 8, 9, 15, 16, 17, 18, 19, 20] [7, 8, 9, 15, 16, 17, 18, 19] Q [(7, .bptr (1, 7) 0), (8, .pure (.int .i64 0)), (9, apS (1, 100) 9 (due.map RAct.row)), (15, .bptr (1, 15) 0), (16, .pure (.int .i64 0)), (17, .bptr (1, 17) 0), (18, .pure (.int .i64 0)), (19, .bptr (1, 19) 0), (20, .pure (.int .i64 i))] [F, []] 165 := by
  intro k
  induction k with
  | zero =>
    intro i F l v hi hv h19 ha hl hb hd h1
    have hia : i = N := by omega
    subst hia
    have e : l = acts := by
      rw [← hb]
      refine (List.ext_getElem (by simp) fun j h1 h2 => ?_)
      rw [List.getElem_map, hd j h1 (by omega)]
    apply WPL_step
    conv => arg 4; whnf
    simp [h19]
    exact h1 F v (fun _ _ => rfl) hv (by rw [ha, e])
  | succ k ih =>
    intro i F l v hi hv h19 ha hl hb hd h1
    have hia : i < N := by omega
    have hil : i < l.length := by omega
    have hw := w64 (x := (i : Int) + 1) (by omega) (by omega)
    have p19 := fun b (f : Fr) => Fr.get_ins_other (p := 19) (q := 90231) b (by decide) f
    have ih' := ih (i + 1) (Fr.ins 90231 (.arr 9 ((l.set i (bare l[i])).map RAct.row) N false) F) (l.set i (bare l[i])) N (by omega) (Nat.le_refl _) ((p19 _ _).trans h19) (Fr.get_ins ..) (by simp [hl]) (by
      rw [List.map_set, ← hb]
      have : (l.map bare)[i]'(by simpa using hil) = bare (bare l[i]) := by rw [List.getElem_map]; rfl
      rw [← this, List.set_getElem_self]) (fun j hj hji => by
        have hj' : j < l.length := by simpa using hj
        by_cases e : i = j
        · subst e; simp; rfl
        · rw [List.getElem_set_ne (by omega)]
          exact hd j hj' (by omega))
      (fun F' v' g1 => h1 F' v' fun k k1 => (g1 k k1).trans (Fr.get_ins_other _ k1 F))
    apply WPL_step
    conv => arg 4; whnf
    simp [hia, h19, ha, hil, hl, hw, hv, Fr.get_ins, Fr.ins_ins, p19, RAct.row]
    simpa [RAct.row, bare, List.map_set] using ih'
/-- A rite made in a law's frame, of a box in it. -/
theorem made_atA {H : Heap} {F : Fr} {kb c N : Nat} (hs : F.srt) (hN : N ≤ 15) (hN1 : 1 ≤ N) {w : Int} (hkb : F.get kb = some (wbox w)) (f1 : F.get (kp c) = none) (f2 : F.get (kt c) = none) (f3 : F.get (kl c) = none) (f4 : F.get (ka c) = none) (hne : ∀ k, kb ≠ newKey c k) :
    ∃ r0 acts s wd F', RiteB r0 acts s (2 * N + 6) ∧ gcall KC (geval KC) 12 [.bptr (H.length, kb) 0, .pure (.int .i64 3), .pure (.int .i64 N)] c (F :: H) =
      some (riteV (H.length, kp c) (H.length, kt c) (H.length, kl c) (H.length, ka c) (finR r0 acts s), F' :: H) ∧ RV F' (kp c) (kt c) (kl c) (ka c) (finR r0 acts s) ∧ F'.get kb = some (wbox wd) ∧ F'.srt ∧
      (∀ k, k ≠ kb → k ≠ kp c → k ≠ kt c → k ≠ kl c → k ≠ ka c → F'.get k = F.get k) ∧ (acts ≠ [] → F'.get (ka c) = some (.arr 9 (acts.map RAct.row) 0 false)) := by
  have hB : isBox (F :: H) (H.length, kb) := ⟨w, by simp [hkb], by simp [Fr.ins_same hs hkb]⟩
  obtain ⟨r0, acts, s, v, wd, hRB, hv, eR⟩ := RiteOf_ok (c := c) (H := F :: H) hB (N := N) hN hN1 (by simp [f1]) (by simp [f2]) (by simp [f3]) (by simp [f4]) (fun k e => by
    have := (Prod.mk.inj e).2
    exact hne k this)
  have q12 : kp c ≠ kt c := by unfold kp kt newKey; omega
  have q13 : kp c ≠ kl c := by unfold kp kl newKey; omega
  have q14 : kp c ≠ ka c := by unfold kp ka newKey; omega
  have q23 : kt c ≠ kl c := by unfold kt kl newKey; omega
  have q24 : kt c ≠ ka c := by unfold kt ka newKey; omega
  have q34 : kl c ≠ ka c := by unfold kl ka newKey; omega
  have b1 : kb ≠ kp c := hne _
  have b2 : kb ≠ kt c := hne _
  have b3 : kb ≠ kl c := hne _
  have b4 : kb ≠ ka c := hne _
  obtain ⟨m, hm⟩ : ∃ m, finR r0 acts s = m := ⟨_, rfl⟩
  have hv' : v ≤ m.things.length := by rw [← hm]; show v ≤ (finL _ _ _).length; rw [finL_len]; exact hv
  have hsn : m.seen = [] := by rw [← hm]; exact hRB.room.seen
  rw [hm] at eR
  have eH : riteH (Heap.set (F :: H) (H.length, kb) (wbox wd)) (H.length, kp c) (H.length, kt c) (H.length, kl c) (H.length, ka c) v m =
      apF (ka c) 9 (m.acts.map RAct.row) (apF (kl c) 1 (m.lapses.map irow) (((F.ins kb (wbox wd)).ins (kp c) (.arr 2 (m.people.map Person.row) 0 false)).ins (kt c) (.arr 5 (m.things.map Thing.row) v false))) :: H := by
    unfold riteH
    rw [show Heap.set (Heap.set (Heap.set (F :: H) (H.length, kb) (wbox wd)) (H.length, kp c) (.arr 2 (m.people.map Person.row) 0 false)) (H.length, kt c) (.arr 5 (m.things.map Thing.row) v false) = ((F.ins kb (wbox wd)).ins (kp c) (.arr 2 (m.people.map Person.row) 0 false)).ins (kt c) (.arr 5 (m.things.map Thing.row) v false) :: H by simp, apSet_1 rfl, apSet_1 rfl]
  simp only [List.length_cons, Nat.add_sub_cancel] at eR
  rw [eH] at eR
  refine ⟨r0, acts, s, wd, _, hRB, by rw [hm]; exact eR, ?_, ?_, ?_, fun k k1 k2 k3 k4 k5 => ?_, fun hne => ?_⟩
  · rw [hm]
    refine ⟨⟨0, false, Nat.zero_le _, ?_⟩, ⟨v, false, hv', ?_⟩, fun hr => ⟨0, false, Nat.zero_le _, ?_⟩, fun hr => ⟨0, false, Nat.zero_le _, ?_⟩, hsn⟩
    · rw [apF_get q14, apF_get q13, Fr.get_ins_other _ q12, Fr.get_ins]
    · rw [apF_get q24, apF_get q23, Fr.get_ins]
    · rw [apF_get q34, apF_self (by simpa using hr)]
    · rw [apF_self (by simpa using hr)]
  · rw [apF_get b4, apF_get b3, Fr.get_ins_other _ b2, Fr.get_ins_other _ b1, Fr.get_ins]
  · exact apF_srt (apF_srt (Fr.ins_srt (Fr.ins_srt (Fr.ins_srt hs))))
  · rw [apF_get k5, apF_get k4, Fr.get_ins_other _ k3, Fr.get_ins_other _ k2, Fr.get_ins_other _ k1]
  · have em : m.acts = acts := by rw [← hm]; rfl
    rw [← em, apF_self (by rw [em]; simpa using hne)]
theorem canon_frzC {H : Heap} {g : GV} {q : PV} (h : rdC H g q) : canon (frzVal H g).1 = .pure q ∧ RoSim H (frzVal H g).2 := by
  cases g with
  | hdr nm es top lo len =>
    obtain ⟨a, b⟩ := frzCell_rd h
    refine ⟨?_, b⟩
    show canon (frzCell H (.hdr nm es top lo len)).1 = _
    have e : ∀ x : GV, canon1 x = .pure q → x = .pure q ∨ (x = .nils ∧ q = .slice []) := fun x hx => by
      cases x <;> simp [canon1] at hx <;> simp_all
    rcases e _ a with e | ⟨e, e2⟩
    · rw [e]; rfl
    · rw [e, e2]; rfl
  | pure p => cases h; exact ⟨rfl, RoSim.refl _⟩
  | nils => cases h; exact ⟨rfl, RoSim.refl _⟩
  | _ => exact h.elim
theorem frz2C {H : Heap} {a b : GV} {p q : PV} (h1 : rdC H a p) (h2 : rdC H b q) : (frzVals H [a, b]).1.map canon = [.pure p, .pure q] := by
  obtain ⟨x1, y1⟩ := canon_frzC h1
  obtain ⟨x2, y2⟩ := canon_frzC (rdC_sim y1 h2)
  rw [frzVals_cons, x1, frzVals_cons, x2]
  rfl
theorem eqActs_rd {c : Nat} {H : Heap} {a b : GV} (l : List RAct) (hn : l.length ≤ 1000000) (h1 : rdC H a (.slice (l.map RAct.row))) (h2 : rdC H b (.slice (l.map RAct.row))) (hH : 0 < H.length) :
    gcall KC (geval KC) 27 [a, b] c H = some (.pure (.bool true), H) := by
  refine bor_flat KC rfl rfl (frz2C h1 h2) rfl hH (fun H hH => ?_) rfl
  refine WPv_eq (call_enter0 KC needT Try.func27 rfl rfl good27 (by simp) hH ?_)
  simp
  refine eqActs_loop (H := [] :: H) l hn _ (by simp) l.length 0 (by omega) ?_
  simp [gleave_free]
end Go.Gh


/- RiteChosen. -/
namespace Go.Gh
open Go.Proofs
set_option linter.unusedSimpArgs false
set_option linter.unusedVariables false
set_option linter.unnecessarySimpa false
set_option maxRecDepth 100000
set_option maxHeartbeats 4000000
theorem RV.mono {F F' : Fr} {a b d e : Nat} {r : Rite} (h : RV F a b d e r) (ha : F'.get a = F.get a) (hb : F'.get b = F.get b) (hd : F'.get d = F.get d) (he : F'.get e = F.get e) : RV F' a b d e r :=
  ⟨by rw [ha]; exact h.g2, by rw [hb]; exact h.g3, fun x => by rw [hd]; exact h.g5 x, fun x => by rw [he]; exact h.g7 x, h.sn⟩
theorem riteX_len {a b d e : Nat} {r r' : Rite} (h : r' = { r with acts := r'.acts }) (hl : r'.acts.length = r.acts.length) : riteX a b d e r = riteX a b d e r' := by
  have e : apS (1, e) 9 (r.acts.map RAct.row) = apS (1, e) 9 (r'.acts.map RAct.row) := by
    by_cases h : r.acts = []
    · have h' : r'.acts = [] := List.length_eq_zero_iff.1 (by rw [hl, h]; rfl)
      rw [h, h']
    · have h' : r'.acts ≠ [] := fun e => h (List.length_eq_zero_iff.1 (by rw [← hl, e]; rfl))
      rw [apS_ne (by simpa using h), apS_ne (by simpa using h')]
      simp [hl]
  unfold riteX
  rw [e, h]
theorem wtd0 : ∀ s < 16, ∀ k < 4, IntKind.i64.wrap (Int.tdiv (s : Nat) (2 ^ k)) = Int.tdiv (s : Nat) (2 ^ k) := by decide
theorem law7 (nums : List Int) (hnums : nums.length ≤ 9223372036854775807) :
    ∃ H', gcall KC (geval KC) 7 [.pure (.slice (nums.map irow))] 0 [[]] = some (.pure (.bool true), H') := by
  suffices hs : WPv (gcall KC (geval KC) 7 [.pure (.slice (nums.map irow))] 0 [[]]) (fun x => x.1 = .pure (.bool true)) by
    obtain ⟨⟨v, H'⟩, h1, rfl⟩ := hs
    exact ⟨H', h1⟩
  refine call_enter KC needT Try.func7 rfl rfl good7 rfl rfl rfl (by simp) (by simp) ?_
  obtain ⟨w, eB⟩ := BoxOf_ok (c := 22) (H := [[], []]) nums hnums (by simp) (by simp [newKey])
  have k8 : newKey 22 6 = 24599 := by decide
  simp [k8] at eB
  obtain ⟨r0, acts, s, wd, F1, hR, eR, hV, hk, hsr, ho, hka⟩ := made_atA (F := [(24599, wbox w)]) (H := [[]]) (kb := 24599) (c := 24) (N := 10) (by simp [Fr.srt]) (by omega) (by omega) (w := w) (by simp) (by simp [kp, newKey]) (by simp [kt, newKey]) (by simp [kl, newKey]) (by simp [ka, newKey]) (fun k => by unfold newKey; omega)
  have pz := hR.z
  have pb := hR.bare
  have CM := fun l hb hk => check_marked hR (by omega) l hb hk
  have CC := fun l hb kk n => check_chosen hR (by omega) l hb kk n
  have CS := fun l kk n hb => chosen_sub (acts := acts) l kk n hb
  obtain ⟨r, hrr⟩ : ∃ r, finR r0 acts s = r := ⟨_, rfl⟩
  have hr : Runs r := hrr ▸ made_runs hR (by omega)
  have hacts : r.acts = acts := by rw [← hrr]; rfl
  rw [hrr] at eR hV CM CC
  have sn : r.seen = [] := hV.sn
  have r_eta : { r with acts := acts } = r := by rw [← hacts]
  have pn : ∀ k, k ≠ 24599 → k ≠ kp 24 → k ≠ kt 24 → k ≠ kl 24 → k ≠ ka 24 → F1.get k = none := fun k h1 h2 h3 h4 h5 => (ho k h1 h2 h3 h4 h5).trans (by simp [Fr.get, h1])
  have al : acts.length ≤ 1000000 := by have := hr.al; rw [hacts] at this; exact this
  -- the rite in its box; season and rank
  obtain ⟨F2, hF2⟩ : ∃ F2, F1.ins 4 (riteX (kp 24) (kt 24) (kl 24) (ka 24) r) = F2 := ⟨_, rfl⟩
  have o2 : ∀ k, k ≠ 4 → F2.get k = F1.get k := fun k h => by rw [← hF2, Fr.get_ins_other _ h]
  have s2 : F2.srt := by rw [← hF2]; exact Fr.ins_srt hsr
  have k2 : F2.get 24599 = some (wbox wd) := (o2 _ (by decide)).trans hk
  obtain ⟨kk, w1, u1, hkk⟩ := upR_get wd 4 (by omega) (by omega)
  obtain ⟨nn, w2, u2, hnn⟩ := upR_get w1 10 (by omega) (by omega)
  have U1 := up_ok (c := 26) (H := [F2, []]) (nm := (1, 24599)) (n := 4) ⟨wd, by simp [k2], by simp [Fr.ins_same s2 k2]⟩ (by omega)
  have U2 := up_ok (c := 28) (H := [F2.ins 24599 (wbox w1), []]) (nm := (1, 24599)) (n := 10) ⟨w1, by simp [Fr.get_ins], by simp [Fr.ins_ins]⟩ (by omega)
  have hw1 : wordAt [F2, []] (1, 24599) = wd := by simp [wordAt, k2, wbox]
  have hw2 : wordAt [F2.ins 24599 (wbox w1), []] (1, 24599) = w1 := by simp [wordAt, Fr.get_ins, wbox]
  simp only [hw1, u1] at U1
  simp only [hw2, u2] at U2
  simp [Fr.ins_ins] at U1 U2
  obtain ⟨F3, hF3⟩ : ∃ F3, F2.ins 24599 (wbox w2) = F3 := ⟨_, rfl⟩
  rw [hF3] at U2
  have o3 : ∀ k, k ≠ 24599 → F3.get k = F2.get k := fun k h => by rw [← hF3, Fr.get_ins_other _ h]
  have k3 : F3.get 24599 = some (wbox w2) := by rw [← hF3, Fr.get_ins]
  have s3 : F3.srt := by rw [← hF3]; exact Fr.ins_srt s2
  have V3 : RV F3 (kp 24) (kt 24) (kl 24) (ka 24) r := hV.mono ((o3 _ (by decide)).trans (o2 _ (by decide))) ((o3 _ (by decide)).trans (o2 _ (by decide))) ((o3 _ (by decide)).trans (o2 _ (by decide))) ((o3 _ (by decide)).trans (o2 _ (by decide)))
  have g34 : F3.get 4 = some (riteX (kp 24) (kt 24) (kl 24) (ka 24) r) := by rw [o3 _ (by decide), ← hF2, Fr.get_ins]
  have f3 : ∀ k, k ≠ 24599 → k ≠ 4 → k ≠ kp 24 → k ≠ kt 24 → k ≠ kl 24 → k ≠ ka 24 → F3.get k = none := fun k h1 h2 h3 h4 h5 h6 => (o3 k h1).trans ((o2 k h2).trans (pn k h1 h3 h4 h5 h6))
  -- chosen whole
  have eC := Choose_at (c := 33) (H := [[]]) V3.rd hr.sh hr.p0 hr.t0 sn hr.ck kk (by omega) nn (by omega) (by omega) (f3 _ (by decide) (by decide) (by decide) (by decide) (by decide) (by decide)) (f3 _ (by decide) (by decide) (by decide) (by decide) (by decide) (by decide)) (f3 _ (by decide) (by decide) (by decide) (by decide) (by decide) (by decide)) (f3 _ (by decide) (by decide) (by decide) (by decide) (by decide) (by decide))
  rw [hacts, chosen_bare kk nn (by omega) acts (fun x hx => ⟨(pz x hx).2.2.1, (pz x hx).2.2.2⟩), r_eta] at eC
  obtain ⟨F4, hF4⟩ : ∃ F4, riteF F3 (newKey 33 ck1) (newKey 33 ck2) (newKey 33 ck3) (newKey 33 ck4) r = F4 := ⟨_, rfl⟩
  rw [hF4] at eC
  obtain ⟨F5, hF5⟩ : ∃ F5, F4.ins 7 (riteX (newKey 33 ck1) (newKey 33 ck2) (newKey 33 ck3) (newKey 33 ck4) r) = F5 := ⟨_, rfl⟩
  simp only [riteX] at hF2 hF5
  simp only [riteV] at eR eC
  simp at eR eC
  have p24 : F1.get 4 = none := pn _ (by decide) (by decide) (by decide) (by decide) (by decide)
  have g24 : F2.get 4 = some (riteX (kp 24) (kt 24) (kl 24) (ka 24) r) := by rw [← hF2, Fr.get_ins]; rfl
  have p47 : F4.get 7 = none := by rw [← hF4, riteF_get (by decide) (by decide) (by decide) (by decide)]; exact f3 _ (by decide) (by decide) (by decide) (by decide) (by decide) (by decide)
  simp only [riteX] at g34
  simp [eB, eR, p24, Fr.get_ins, Fr.ins_ins, hF2, U1, U2, g34, eC, p47, hF5]
  have LB := fun Q h1 => bit_loop (F := F5) kk (by omega) nn Q h1 kk 0 (by omega)
  simp at LB
  refine LB _ ?_
  clear LB
  simp
  -- the marks
  have o5 : ∀ k, k ≠ 7 → k ≠ newKey 33 ck1 → k ≠ newKey 33 ck2 → k ≠ newKey 33 ck3 → k ≠ newKey 33 ck4 → F5.get k = F3.get k := fun k h0 h1 h2 h3 h4 => by
    rw [← hF5, Fr.get_ins_other _ h0, ← hF4, riteF_get h1 h2 h3 h4]
  have s5 : F5.srt := by rw [← hF5, ← hF4]; exact Fr.ins_srt (riteF_srt s3)
  have k5 : F5.get 24599 = some (wbox w2) := (o5 _ (by decide) (by decide) (by decide) (by decide) (by decide)).trans k3
  have f5 : ∀ k, k ≠ 24599 → k ≠ 4 → k ≠ kp 24 → k ≠ kt 24 → k ≠ kl 24 → k ≠ ka 24 → k ≠ 7 → k ≠ newKey 33 ck1 → k ≠ newKey 33 ck2 → k ≠ newKey 33 ck3 → k ≠ newKey 33 ck4 → F5.get k = none := fun k h1 h2 h3 h4 h5 h6 h7 h8 h9 h10 h11 => (o5 k h7 h8 h9 h10 h11).trans (f3 k h1 h2 h3 h4 h5 h6)
  have V5 : RV F5 (kp 24) (kt 24) (kl 24) (ka 24) r := V3.mono (o5 _ (by decide) (by decide) (by decide) (by decide) (by decide)) (o5 _ (by decide) (by decide) (by decide) (by decide) (by decide)) (o5 _ (by decide) (by decide) (by decide) (by decide) (by decide)) (o5 _ (by decide) (by decide) (by decide) (by decide) (by decide))
  have W5 : RV F5 (newKey 33 ck1) (newKey 33 ck2) (newKey 33 ck3) (newKey 33 ck4) r := by
    have := riteF_RV (F := F3) (a := newKey 33 ck1) (b := newKey 33 ck2) (d := newKey 33 ck3) (e := newKey 33 ck4) (r := r) (by decide) (by decide) (by decide) (by decide) (by decide) (by decide) sn
    rw [hF4] at this
    exact this.mono (by rw [← hF5, Fr.get_ins_other _ (by decide)]) (by rw [← hF5, Fr.get_ins_other _ (by decide)]) (by rw [← hF5, Fr.get_ins_other _ (by decide)]) (by rw [← hF5, Fr.get_ins_other _ (by decide)])
  have g54 : F5.get 4 = some (.box [.pure (.int .i64 r.wide), .pure (.int .i64 r.deep), .hdr (1, kp 24) 2 r.people.length 0 r.people.length, .hdr (1, kt 24) 5 r.things.length 0 r.things.length, .nils, apS (1, kl 24) 1 (r.lapses.map irow), apS (1, ka 24) 9 (r.acts.map RAct.row)]) := (o5 _ (by decide) (by decide) (by decide) (by decide) (by decide)).trans g34
  have g57 : F5.get 7 = some (riteX (newKey 33 ck1) (newKey 33 ck2) (newKey 33 ck3) (newKey 33 ck4) r) := by rw [← hF5, Fr.get_ins]; rfl
  have hkk3 : kk ≤ 3 := by omega
  have T2 : ∀ Q : GX → GSt → Prop, (∀ F' l' due' w', (∀ k, k ≠ 24599 → k ≠ 253977 → k ≠ 100 → F'.get k = F5.get k) → F'.srt → F'.get 24599 = some (wbox w') → (l' ≠ [] → ∃ v', v' ≤ l'.length ∧ F'.get 253977 = some (.arr 9 (l'.map RAct.row) v' false)) → MkSt acts kk nn acts.length acts.length F' l' due' →
      Q (.exit 2) ⟨[(3, .bptr (1, 24599) 0), (4, .bptr (1, 4) 0), (5, .pure (.int .i64 kk)), (6, .pure (.int .i64 nn)), (7, .bptr (1, 7) 0), (8, .pure (.int .i64 0)), (9, apS (1, 100) 9 (due'.map RAct.row))], [F', []], 165⟩) →
    WPL KC needT 7 (lp Try.f7 1) [3, 4, 5, 6, 7, 8, 9, 10, 12] [3, 4, 5, 6, 7, 8, 9] Q [(3, .bptr (1, 24599) 0), (4, .bptr (1, 4) 0), (5, .pure (.int .i64 kk)), (6, .pure (.int .i64 nn)), (7, .bptr (1, 7) 0), (8, .pure (.int .i64 0)), (9, .nils), (10, .pure (.int .i64 (2 ^ kk))), (12, .pure (.int .i64 0))] [F5, []] 165 := by
    intro Q hQ
    have p100 : F5.get 100 = none := f5 _ (by decide) (by decide) (by decide) (by decide) (by decide) (by decide) (by decide) (by decide) (by decide) (by decide) (by decide)
    by_cases ha : acts = []
    · have := hQ F5 [] [] w2 (fun _ _ _ _ => rfl) s5 k5 (fun h => absurd rfl h) ⟨by rw [ha], by rw [ha]; rfl, fun x hx => absurd hx List.not_mem_nil, fun j h => absurd h (Nat.not_lt_zero _), by rw [ha]; rfl, fun _ => p100, fun h => absurd rfl h⟩
      apply WPL_step
      conv => arg 4; whnf
      rw [hacts, ha] at g54
      simp [apS] at g54
      simp [g54]
      simpa [apS] using this
    · have hM : MkSt acts kk nn acts.length 0 F5 acts [] := ⟨rfl, by
        refine List.ext_getElem (by simp) fun j h1 h2 => ?_
        rw [List.getElem_map, pb _ (List.getElem_mem h2)], fun x hx => by obtain ⟨_, _, z1, z2⟩ := pz x hx; exact ⟨by omega, by omega, by omega, by omega⟩, fun j h _ => pb _ (List.getElem_mem h), rfl, fun _ => p100, fun h => absurd rfl h⟩
      have ga5 : F5.get 253977 = some (.arr 9 (acts.map RAct.row) 0 false) := by
        have e : (253977 : Nat) = ka 24 := by decide
        rw [e, o5 _ (by decide) (by decide) (by decide) (by decide) (by decide), o3 _ (by decide), o2 _ (by decide)]
        exact hka ha
      have g := mark_loop (acts := acts) kk nn (2 ^ kk) (by
          have : kk = 0 ∨ kk = 1 ∨ kk = 2 ∨ kk = 3 := by omega
          rcases this with rfl | rfl | rfl | rfl <;> decide) (fun x hx => wtd0 x hx kk (by omega)) (fun x hx => seas0 x hx kk (by omega)) (N := acts.length) al (c0 := .pure (.int .i64 r.wide)) (c1 := .pure (.int .i64 r.deep)) (c2 := .hdr (1, kp 24) 2 r.people.length 0 r.people.length) (c3 := .hdr (1, kt 24) 5 r.things.length 0 r.things.length) (c4 := .nils) (c5 := apS (1, kl 24) 1 (r.lapses.map irow)) Q acts.length 0 F5 acts [] w2 0 (by omega) (Nat.zero_le _) s5 k5 (by
          rw [g54, hacts]
          have e : ka 24 = 253977 := by decide
          have e2 : apS (1, 253977) 9 (acts.map RAct.row) = .hdr (1, 253977) 9 acts.length 0 acts.length := by rw [apS_ne (by simpa using ha)]; simp
          rw [e, e2]) ga5 hM (fun F' l' due' v' w' h1 h2 h3 h4 h5 h6 => hQ F' l' due' w' h1 h2 h4 (fun _ => ⟨v', by rw [h6.len]; exact h3, h5⟩) h6)
      simpa [apS] using g
  refine T2 _ fun F6 l due w6 x6 s6 k6 ga6 hM => ?_
  clear T2
  simp
  have ll : l.length = acts.length := hM.len
  have lb : l.map bare = acts := hM.bare
  have ldu : due = chosenL kk nn l := by rw [hM.du, ← ll, List.take_length]
  have y6 : ∀ k, k ≠ 24599 → k ≠ 253977 → k ≠ 100 → F6.get k = F5.get k := x6
  have hka' : ka 24 = 253977 := by decide
  obtain ⟨r', hr'⟩ : ∃ r' : Rite, { r with acts := l } = r' := ⟨_, rfl⟩
  have ra' : r'.acts = l := by rw [← hr']
  have V6 : RV F6 (kp 24) (kt 24) (kl 24) (ka 24) r' := by
    have a := y6 (kp 24) (by decide) (by decide) (by decide)
    have b := y6 (kt 24) (by decide) (by decide) (by decide)
    have d := y6 (kl 24) (by decide) (by decide) (by decide)
    rw [← hr']
    exact ⟨by rw [a]; exact V5.g2, by rw [b]; exact V5.g3, fun x => by rw [d]; exact V5.g5 x, fun x => by obtain ⟨v', h1, h2⟩ := ga6 x; exact ⟨v', false, h1, by rw [hka']; exact h2⟩, sn⟩
  have g64 : F6.get 4 = some (riteX (kp 24) (kt 24) (kl 24) (ka 24) r') := by
    rw [y6 _ (by decide) (by decide) (by decide), g54, ← riteX_len (r := r) (r' := r') (by rw [← hr']) (by rw [ra', hacts]; exact ll)]
    rfl
  have f6 : ∀ k, k ≠ 24599 → k ≠ 4 → k ≠ kp 24 → k ≠ kt 24 → k ≠ kl 24 → k ≠ ka 24 → k ≠ 7 → k ≠ newKey 33 ck1 → k ≠ newKey 33 ck2 → k ≠ newKey 33 ck3 → k ≠ newKey 33 ck4 → k ≠ 100 → F6.get k = none := fun k h1 h2 h3 h4 h5 h6 h7 h8 h9 h10 h11 h12 => (y6 k h1 (by rw [← hka']; exact h6) h12).trans (f5 k h1 h2 h3 h4 h5 h6 h7 h8 h9 h10 h11)
  have sh' : Short r' := by
    have h := hr.sh
    rw [← hr']
    exact ⟨h.p, h.t, h.s, h.l, by show l.length ≤ _; rw [ll]; exact al⟩
  have p0' : r'.people ≠ [] := by rw [← hr']; exact hr.p0
  have t0' : r'.things ≠ [] := by rw [← hr']; exact hr.t0
  have sn' : r'.seen = [] := by rw [← hr']; exact sn
  have ck' : checkF r' = 0 := by rw [← hr']; exact CM l lb hM.ok
  -- chosen of the marked ones
  have eC2 := Choose_at (c := 105) (H := [[]]) V6.rd sh' p0' t0' sn' ck' kk hkk3 nn (by omega) (by omega) (f6 _ (by decide) (by decide) (by decide) (by decide) (by decide) (by decide) (by decide) (by decide) (by decide) (by decide) (by decide) (by decide)) (f6 _ (by decide) (by decide) (by decide) (by decide) (by decide) (by decide) (by decide) (by decide) (by decide) (by decide) (by decide) (by decide)) (f6 _ (by decide) (by decide) (by decide) (by decide) (by decide) (by decide) (by decide) (by decide) (by decide) (by decide) (by decide) (by decide)) (f6 _ (by decide) (by decide) (by decide) (by decide) (by decide) (by decide) (by decide) (by decide) (by decide) (by decide) (by decide) (by decide))
  rw [ra', ← ldu] at eC2
  obtain ⟨x, hx⟩ : ∃ x : Rite, { r' with acts := due } = x := ⟨_, rfl⟩
  have xa : x.acts = due := by rw [← hx]
  rw [hx] at eC2
  have dsub : ∀ a ∈ due, a ∈ acts := by rw [ldu]; exact CS l kk nn lb
  have dlen : due.length ≤ acts.length := by
    rw [ldu, ← ll]
    unfold chosenL
    rw [List.length_map]
    exact List.length_filter_le _ _
  have shx : Short x := by rw [← hx]; exact ⟨sh'.p, sh'.t, sh'.s, sh'.l, by show due.length ≤ _; omega⟩
  have p0x : x.people ≠ [] := by rw [← hx]; exact p0'
  have t0x : x.things ≠ [] := by rw [← hx]; exact t0'
  have snx : x.seen = [] := by rw [← hx]; exact sn'
  have ckx : checkF x = 0 := by
    rw [← hx, ← hr', ldu]
    exact CC l lb kk nn
  obtain ⟨F7, hF7⟩ : ∃ F7, riteF F6 (newKey 105 ck1) (newKey 105 ck2) (newKey 105 ck3) (newKey 105 ck4) x = F7 := ⟨_, rfl⟩
  rw [hF7] at eC2
  obtain ⟨F8, hF8⟩ : ∃ F8, F7.ins 15 (riteX (newKey 105 ck1) (newKey 105 ck2) (newKey 105 ck3) (newKey 105 ck4) x) = F8 := ⟨_, rfl⟩
  have y8 : ∀ k, k ≠ 15 → k ≠ newKey 105 ck1 → k ≠ newKey 105 ck2 → k ≠ newKey 105 ck3 → k ≠ newKey 105 ck4 → F8.get k = F6.get k := fun k h0 h1 h2 h3 h4 => by
    rw [← hF8, Fr.get_ins_other _ h0, ← hF7, riteF_get h1 h2 h3 h4]
  have s8 : F8.srt := by rw [← hF8, ← hF7]; exact Fr.ins_srt (riteF_srt s6)
  have k8 : F8.get 24599 = some (wbox w6) := (y8 _ (by decide) (by decide) (by decide) (by decide) (by decide)).trans k6
  have X8 : RV F8 (newKey 105 ck1) (newKey 105 ck2) (newKey 105 ck3) (newKey 105 ck4) x := by
    have := riteF_RV (F := F6) (a := newKey 105 ck1) (b := newKey 105 ck2) (d := newKey 105 ck3) (e := newKey 105 ck4) (r := x) (by decide) (by decide) (by decide) (by decide) (by decide) (by decide) snx
    rw [hF7] at this
    exact this.mono (by rw [← hF8, Fr.get_ins_other _ (by decide)]) (by rw [← hF8, Fr.get_ins_other _ (by decide)]) (by rw [← hF8, Fr.get_ins_other _ (by decide)]) (by rw [← hF8, Fr.get_ins_other _ (by decide)])
  have g8 : F8.get 15 = some (riteX (newKey 105 ck1) (newKey 105 ck2) (newKey 105 ck3) (newKey 105 ck4) x) := by rw [← hF8, Fr.get_ins]
  have p715 : F7.get 15 = none := by rw [← hF7, riteF_get (by decide) (by decide) (by decide) (by decide)]; exact f6 _ (by decide) (by decide) (by decide) (by decide) (by decide) (by decide) (by decide) (by decide) (by decide) (by decide) (by decide) (by decide)
  -- another season, another rank
  obtain ⟨kk2, w7, u3, hkk2⟩ := upR_get w6 4 (by omega) (by omega)
  obtain ⟨nn2, w8, u4, hnn2⟩ := upR_get w7 10 (by omega) (by omega)
  have U3 := up_ok (c := 111) (H := [F8, []]) (nm := (1, 24599)) (n := 4) ⟨w6, by simp [k8], by simp [Fr.ins_same s8 k8]⟩ (by omega)
  have U4 := up_ok (c := 113) (H := [F8.ins 24599 (wbox w7), []]) (nm := (1, 24599)) (n := 10) ⟨w7, by simp [Fr.get_ins], by simp [Fr.ins_ins]⟩ (by omega)
  have hw3 : wordAt [F8, []] (1, 24599) = w6 := by simp [wordAt, k8, wbox]
  have hw4 : wordAt [F8.ins 24599 (wbox w7), []] (1, 24599) = w7 := by simp [wordAt, Fr.get_ins, wbox]
  simp only [hw3, u3] at U3
  simp only [hw4, u4] at U4
  simp [Fr.ins_ins] at U3 U4
  have q15 := fun b (f : Fr) => Fr.get_ins_other (p := 15) (q := 24599) b (by decide) f
  obtain ⟨F9, hF9⟩ : ∃ F9, F8.ins 24599 (wbox w8) = F9 := ⟨_, rfl⟩
  rw [hF9] at U4
  have y9 : ∀ k, k ≠ 24599 → F9.get k = F8.get k := fun k h => by rw [← hF9, Fr.get_ins_other _ h]
  have X9 : RV F9 (newKey 105 ck1) (newKey 105 ck2) (newKey 105 ck3) (newKey 105 ck4) x := X8.mono (y9 _ (by decide)) (y9 _ (by decide)) (y9 _ (by decide)) (y9 _ (by decide))
  have f9 : ∀ k, k ≠ 24599 → k ≠ 4 → k ≠ kp 24 → k ≠ kt 24 → k ≠ kl 24 → k ≠ ka 24 → k ≠ 7 → k ≠ newKey 33 ck1 → k ≠ newKey 33 ck2 → k ≠ newKey 33 ck3 → k ≠ newKey 33 ck4 → k ≠ 100 → k ≠ 15 → k ≠ newKey 105 ck1 → k ≠ newKey 105 ck2 → k ≠ newKey 105 ck3 → k ≠ newKey 105 ck4 → F9.get k = none := fun k h1 h2 h3 h4 h5 h6 h7 h8 h9 h10 h11 h12 h13 h14 h15 h16 h17 => (y9 k h1).trans ((y8 k h13 h14 h15 h16 h17).trans (f6 k h1 h2 h3 h4 h5 h6 h7 h8 h9 h10 h11 h12))
  have eC3 := Choose_at (c := 114) (H := [[]]) X9.rd shx p0x t0x snx ckx kk2 (by omega) nn2 (by omega) (by omega) (f9 _ (by decide) (by decide) (by decide) (by decide) (by decide) (by decide) (by decide) (by decide) (by decide) (by decide) (by decide) (by decide) (by decide) (by decide) (by decide) (by decide) (by decide)) (f9 _ (by decide) (by decide) (by decide) (by decide) (by decide) (by decide) (by decide) (by decide) (by decide) (by decide) (by decide) (by decide) (by decide) (by decide) (by decide) (by decide) (by decide)) (f9 _ (by decide) (by decide) (by decide) (by decide) (by decide) (by decide) (by decide) (by decide) (by decide) (by decide) (by decide) (by decide) (by decide) (by decide) (by decide) (by decide) (by decide)) (f9 _ (by decide) (by decide) (by decide) (by decide) (by decide) (by decide) (by decide) (by decide) (by decide) (by decide) (by decide) (by decide) (by decide) (by decide) (by decide) (by decide) (by decide))
  have x_eta : { x with acts := chosenL kk2 nn2 x.acts } = x := by
    rw [xa, chosen_bare kk2 nn2 (by omega) due (fun a ha => ⟨(pz a (dsub a ha)).2.2.1, (pz a (dsub a ha)).2.2.2⟩), ← xa]
  rw [x_eta] at eC3
  obtain ⟨F10, hF10⟩ : ∃ F10, riteF F9 (newKey 114 ck1) (newKey 114 ck2) (newKey 114 ck3) (newKey 114 ck4) x = F10 := ⟨_, rfl⟩
  rw [hF10] at eC3
  obtain ⟨F11, hF11⟩ : ∃ F11, F10.ins 17 (riteX (newKey 114 ck1) (newKey 114 ck2) (newKey 114 ck3) (newKey 114 ck4) x) = F11 := ⟨_, rfl⟩
  have y11 : ∀ k, k ≠ 17 → k ≠ newKey 114 ck1 → k ≠ newKey 114 ck2 → k ≠ newKey 114 ck3 → k ≠ newKey 114 ck4 → F11.get k = F9.get k := fun k h0 h1 h2 h3 h4 => by
    rw [← hF11, Fr.get_ins_other _ h0, ← hF10, riteF_get h1 h2 h3 h4]
  have p1017 : F10.get 17 = none := by rw [← hF10, riteF_get (by decide) (by decide) (by decide) (by decide)]; exact f9 _ (by decide) (by decide) (by decide) (by decide) (by decide) (by decide) (by decide) (by decide) (by decide) (by decide) (by decide) (by decide) (by decide) (by decide) (by decide) (by decide) (by decide)
  -- the copy, its marks taken away
  have g114 : F11.get 4 = some (riteX (kp 24) (kt 24) (kl 24) (ka 24) r') := by
    rw [y11 _ (by decide) (by decide) (by decide) (by decide) (by decide), y9 _ (by decide), y8 _ (by decide) (by decide) (by decide) (by decide) (by decide), g64]
  have z11 : ∀ k, k ≠ 17 → k ≠ newKey 114 ck1 → k ≠ newKey 114 ck2 → k ≠ newKey 114 ck3 → k ≠ newKey 114 ck4 → k ≠ 24599 → k ≠ 15 → k ≠ newKey 105 ck1 → k ≠ newKey 105 ck2 → k ≠ newKey 105 ck3 → k ≠ newKey 105 ck4 → F11.get k = F6.get k := fun k h0 h1 h2 h3 h4 h5 h6 h7 h8 h9 h10 => (y11 k h0 h1 h2 h3 h4).trans ((y9 k h5).trans (y8 k h6 h7 h8 h9 h10))
  have V11 : RV F11 (kp 24) (kt 24) (kl 24) (ka 24) r' := V6.mono (z11 _ (by decide) (by decide) (by decide) (by decide) (by decide) (by decide) (by decide) (by decide) (by decide) (by decide) (by decide)) (z11 _ (by decide) (by decide) (by decide) (by decide) (by decide) (by decide) (by decide) (by decide) (by decide) (by decide) (by decide)) (z11 _ (by decide) (by decide) (by decide) (by decide) (by decide) (by decide) (by decide) (by decide) (by decide) (by decide) (by decide)) (z11 _ (by decide) (by decide) (by decide) (by decide) (by decide) (by decide) (by decide) (by decide) (by decide) (by decide) (by decide))
  have m1 : newKey 118 6 = 24695 := by decide
  have m2 : newKey 118 10 = 41079 := by decide
  have m3 : newKey 118 22 = 90231 := by decide
  have f11 : ∀ k, k = 24695 ∨ k = 41079 ∨ k = 90231 ∨ k = 19 → F11.get k = none := fun k hk => by
    rcases hk with rfl | rfl | rfl | rfl
    all_goals
      rw [z11 _ (by decide) (by decide) (by decide) (by decide) (by decide) (by decide) (by decide) (by decide) (by decide) (by decide) (by decide)]
      exact f6 _ (by decide) (by decide) (by decide) (by decide) (by decide) (by decide) (by decide) (by decide) (by decide) (by decide) (by decide) (by decide)
  have eO := ownR_at (c := 118) (H := [[]]) sh' V11 (by rw [m1]; exact f11 _ (by decide)) (by rw [m2]; exact f11 _ (by decide)) (by rw [m3]; exact f11 _ (by decide))
  rw [m1, m2, m3, ra'] at eO
  obtain ⟨F12, hF12⟩ : ∃ F12, apF 90231 9 (l.map RAct.row) (apF 41079 5 (r'.things.map Thing.row) (apF 24695 2 (r'.people.map Person.row) F11)) = F12 := ⟨_, rfl⟩
  rw [hF12] at eO
  have y12 : ∀ k, k ≠ 90231 → k ≠ 41079 → k ≠ 24695 → F12.get k = F11.get k := fun k h1 h2 h3 => by rw [← hF12, apF_get h1, apF_get h2, apF_get h3]
  have g1219 : F12.get 19 = none := (y12 _ (by decide) (by decide) (by decide)).trans (f11 _ (by decide))
  obtain ⟨F13, hF13⟩ : ∃ F13, F12.ins 19 (.box [.pure (.int .i64 r'.wide), .pure (.int .i64 r'.deep), apS (1, 24695) 2 (r'.people.map Person.row), apS (1, 41079) 5 (r'.things.map Thing.row), .pure (.slice (r'.seen.map irow)), .pure (.slice (r'.lapses.map irow)), apS (1, 90231) 9 (l.map RAct.row)]) = F13 := ⟨_, rfl⟩
  have y13 : ∀ k, k ≠ 19 → F13.get k = F12.get k := fun k h => by rw [← hF13, Fr.get_ins_other _ h]
  have g1319 : F13.get 19 = some (.box [.pure (.int .i64 r'.wide), .pure (.int .i64 r'.deep), apS (1, 24695) 2 (r'.people.map Person.row), apS (1, 41079) 5 (r'.things.map Thing.row), .pure (.slice (r'.seen.map irow)), .pure (.slice (r'.lapses.map irow)), apS (1, 90231) 9 (l.map RAct.row)]) := by rw [← hF13, Fr.get_ins]
  simp only [riteX] at hF8 hF11 g8 g64 g114
  simp only [riteV] at eC2 eC3 eO
  simp only [ownG, ra'] at eO
  simp at eC2 eC3 eO
  rw [ra'] at g64 g114
  rw [ra'] at eC2
  simp [g64, eC2, p715, Fr.get_ins, Fr.ins_ins, hF8, g8, U3, q15, U4, eC3, p1017, hF11, y9, g114, eO, g1219, hF13]
  have T3 : ∀ Q : GX → GSt → Prop, (∀ F', (∀ k, k ≠ 90231 → F'.get k = F13.get k) → (acts ≠ [] → ∃ v', v' ≤ acts.length ∧ F'.get 90231 = some (.arr 9 (acts.map RAct.row) v' false)) →
      Q (.exit 4) ⟨[(7, .bptr (1, 7) 0), (8, .pure (.int .i64 0)), (9, apS (1, 100) 9 (due.map RAct.row)), (15, .bptr (1, 15) 0), (16, .pure (.int .i64 0)), (17, .bptr (1, 17) 0), (18, .pure (.int .i64 0)), (19, .bptr (1, 19) 0)], [F', []], 165⟩) →
    WPL KC needT 7 (lp Try.f7 2) [7, 8, 9, 15, 16, 17, 18, 19, 20] [7, 8, 9, 15, 16, 17, 18, 19] Q [(7, .bptr (1, 7) 0), (8, .pure (.int .i64 0)), (9, apS (1, 100) 9 (due.map RAct.row)), (15, .bptr (1, 15) 0), (16, .pure (.int .i64 0)), (17, .bptr (1, 17) 0), (18, .pure (.int .i64 0)), (19, .bptr (1, 19) 0), (20, .pure (.int .i64 0))] [F13, []] 165 := by
    intro Q hQ
    by_cases ha : acts = []
    · have hl0 : l = [] := List.length_eq_zero_iff.1 (by rw [ll, ha]; rfl)
      have := hQ F13 (fun _ _ => rfl) (fun h => absurd ha h)
      apply WPL_step
      conv => arg 4; whnf
      rw [hl0] at g1319
      simp [apS] at g1319
      simp [g1319]
      exact this
    · have hl0 : l ≠ [] := fun e => ha (List.length_eq_zero_iff.1 (by rw [← ll, e]; rfl))
      have g := unmark_loop (acts := acts) (due := due) (N := acts.length) al (c0 := .pure (.int .i64 r'.wide)) (c1 := .pure (.int .i64 r'.deep)) (c2 := apS (1, 24695) 2 (r'.people.map Person.row)) (c3 := apS (1, 41079) 5 (r'.things.map Thing.row)) (c4 := .pure (.slice (r'.seen.map irow))) (c5 := .pure (.slice (r'.lapses.map irow))) Q acts.length 0 F13 l 0 (by omega) (Nat.zero_le _) (by
        rw [g1319]
        have e2 : apS (1, 90231) 9 (l.map RAct.row) = .hdr (1, 90231) 9 acts.length 0 acts.length := by rw [apS_ne (by simpa using hl0)]; simp [ll]
        rw [e2]) (by rw [y13 _ (by decide), ← hF12, apF_self (by simpa using hl0)]) ll lb (fun j _ h => absurd h (Nat.not_lt_zero _)) (fun F' v' h1 h2 h3 => hQ F' h1 (fun _ => ⟨v', h2, h3⟩))
      simpa using g
  refine T3 _ fun F14 x14 ga14 => ?_
  clear T3
  -- what lies in the frame at last
  have z14 : ∀ k, k ≠ 90231 → k ≠ 19 → k ≠ 41079 → k ≠ 24695 → F14.get k = F11.get k := fun k h1 h2 h3 h4 => (x14 k h1).trans ((y13 k h2).trans (y12 k h1 h3 h4))
  have w14 : ∀ k, k ≠ 90231 → k ≠ 19 → k ≠ 41079 → k ≠ 24695 → k ≠ 17 → k ≠ newKey 114 ck1 → k ≠ newKey 114 ck2 → k ≠ newKey 114 ck3 → k ≠ newKey 114 ck4 → k ≠ 24599 → F14.get k = F8.get k := fun k h1 h2 h3 h4 h5 h6 h7 h8 h9 h10 => (z14 k h1 h2 h3 h4).trans ((y11 k h5 h6 h7 h8 h9).trans (y9 k h10))
  have v14 : ∀ k, k ≠ 90231 → k ≠ 19 → k ≠ 41079 → k ≠ 24695 → k ≠ 17 → k ≠ newKey 114 ck1 → k ≠ newKey 114 ck2 → k ≠ newKey 114 ck3 → k ≠ newKey 114 ck4 → k ≠ 24599 → k ≠ 15 → k ≠ newKey 105 ck1 → k ≠ newKey 105 ck2 → k ≠ newKey 105 ck3 → k ≠ newKey 105 ck4 → F14.get k = F6.get k := fun k h1 h2 h3 h4 h5 h6 h7 h8 h9 h10 h11 h12 h13 h14 h15 => (w14 k h1 h2 h3 h4 h5 h6 h7 h8 h9 h10).trans (y8 k h11 h12 h13 h14 h15)
  have u14 : ∀ k, k ≠ 90231 → k ≠ 19 → k ≠ 41079 → k ≠ 24695 → k ≠ 17 → k ≠ newKey 114 ck1 → k ≠ newKey 114 ck2 → k ≠ newKey 114 ck3 → k ≠ newKey 114 ck4 → k ≠ 24599 → k ≠ 15 → k ≠ newKey 105 ck1 → k ≠ newKey 105 ck2 → k ≠ newKey 105 ck3 → k ≠ newKey 105 ck4 → k ≠ 253977 → k ≠ 100 → F14.get k = F5.get k := fun k h1 h2 h3 h4 h5 h6 h7 h8 h9 h10 h11 h12 h13 h14 h15 h16 h17 => (v14 k h1 h2 h3 h4 h5 h6 h7 h8 h9 h10 h11 h12 h13 h14 h15).trans (y6 k h10 h16 h17)
  have b7 : F14.get 7 = some (riteX (newKey 33 ck1) (newKey 33 ck2) (newKey 33 ck3) (newKey 33 ck4) r) := (u14 _ (by decide) (by decide) (by decide) (by decide) (by decide) (by decide) (by decide) (by decide) (by decide) (by decide) (by decide) (by decide) (by decide) (by decide) (by decide) (by decide) (by decide)).trans g57
  have W14 : RV F14 (newKey 33 ck1) (newKey 33 ck2) (newKey 33 ck3) (newKey 33 ck4) r := W5.mono (u14 _ (by decide) (by decide) (by decide) (by decide) (by decide) (by decide) (by decide) (by decide) (by decide) (by decide) (by decide) (by decide) (by decide) (by decide) (by decide) (by decide) (by decide)) (u14 _ (by decide) (by decide) (by decide) (by decide) (by decide) (by decide) (by decide) (by decide) (by decide) (by decide) (by decide) (by decide) (by decide) (by decide) (by decide) (by decide) (by decide)) (u14 _ (by decide) (by decide) (by decide) (by decide) (by decide) (by decide) (by decide) (by decide) (by decide) (by decide) (by decide) (by decide) (by decide) (by decide) (by decide) (by decide) (by decide)) (u14 _ (by decide) (by decide) (by decide) (by decide) (by decide) (by decide) (by decide) (by decide) (by decide) (by decide) (by decide) (by decide) (by decide) (by decide) (by decide) (by decide) (by decide))
  have X14 : RV F14 (newKey 105 ck1) (newKey 105 ck2) (newKey 105 ck3) (newKey 105 ck4) x := X8.mono (w14 _ (by decide) (by decide) (by decide) (by decide) (by decide) (by decide) (by decide) (by decide) (by decide) (by decide)) (w14 _ (by decide) (by decide) (by decide) (by decide) (by decide) (by decide) (by decide) (by decide) (by decide) (by decide)) (w14 _ (by decide) (by decide) (by decide) (by decide) (by decide) (by decide) (by decide) (by decide) (by decide) (by decide)) (w14 _ (by decide) (by decide) (by decide) (by decide) (by decide) (by decide) (by decide) (by decide) (by decide) (by decide))
  have Y11 : RV F11 (newKey 114 ck1) (newKey 114 ck2) (newKey 114 ck3) (newKey 114 ck4) x := by
    have := riteF_RV (F := F9) (a := newKey 114 ck1) (b := newKey 114 ck2) (d := newKey 114 ck3) (e := newKey 114 ck4) (r := x) (by decide) (by decide) (by decide) (by decide) (by decide) (by decide) snx
    rw [hF10] at this
    exact this.mono (by rw [← hF11, Fr.get_ins_other _ (by decide)]) (by rw [← hF11, Fr.get_ins_other _ (by decide)]) (by rw [← hF11, Fr.get_ins_other _ (by decide)]) (by rw [← hF11, Fr.get_ins_other _ (by decide)])
  have Y14 : RV F14 (newKey 114 ck1) (newKey 114 ck2) (newKey 114 ck3) (newKey 114 ck4) x := Y11.mono (z14 _ (by decide) (by decide) (by decide) (by decide)) (z14 _ (by decide) (by decide) (by decide) (by decide)) (z14 _ (by decide) (by decide) (by decide) (by decide)) (z14 _ (by decide) (by decide) (by decide) (by decide))
  have b15 : F14.get 15 = some (riteX (newKey 105 ck1) (newKey 105 ck2) (newKey 105 ck3) (newKey 105 ck4) x) := (w14 _ (by decide) (by decide) (by decide) (by decide) (by decide) (by decide) (by decide) (by decide) (by decide) (by decide)).trans g8
  have b17 : F14.get 17 = some (riteX (newKey 114 ck1) (newKey 114 ck2) (newKey 114 ck3) (newKey 114 ck4) x) := by rw [z14 _ (by decide) (by decide) (by decide) (by decide), ← hF11, Fr.get_ins]; rfl
  have b19 : F14.get 19 = some (.box [.pure (.int .i64 r'.wide), .pure (.int .i64 r'.deep), apS (1, 24695) 2 (r'.people.map Person.row), apS (1, 41079) 5 (r'.things.map Thing.row), .pure (.slice (r'.seen.map irow)), .pure (.slice (r'.lapses.map irow)), apS (1, 90231) 9 (l.map RAct.row)]) := (x14 _ (by decide)).trans g1319
  -- held against one another
  have rdX := X14.rd (H := [[]])
  have rdY := Y14.rd (H := [[]])
  have rdW := W14.rd (H := [[]])
  have e7 : F14.get 100 = F6.get 100 := v14 _ (by decide) (by decide) (by decide) (by decide) (by decide) (by decide) (by decide) (by decide) (by decide) (by decide) (by decide) (by decide) (by decide) (by decide) (by decide)
  have rdD : rdC [F14, []] (apS (1, 100) 9 (due.map RAct.row)) (.slice (due.map RAct.row)) := rdC_apS' fun h => ⟨0, false, Nat.zero_le _, by
    show Heap.get [F14, []] (1, 100) = _
    simp [e7, hM.ds (by simpa using h)]⟩
  have rdXa : rdC [F14, []] (apS (1, newKey 105 ck4) 9 (x.acts.map RAct.row)) (.slice (due.map RAct.row)) := by
    rw [← xa]
    exact rdC_apS' fun h => by
      obtain ⟨v', ro', h1, h2⟩ := X14.g7 (by simpa using h)
      exact ⟨v', ro', by simpa using h1, by simpa using h2⟩
  have EA := fun c => eqActs_rd (c := c) due (by omega) rdXa rdD (by simp)
  have E1 := fun c => eqRites_ok (c := c) x shx rdX rdY (by simp)
  have rw' : r'.wide = r.wide := by rw [← hr']
  have rd' : r'.deep = r.deep := by rw [← hr']
  have rp' : r'.people = r.people := by rw [← hr']
  have rt' : r'.things = r.things := by rw [← hr']
  have rs' : r'.seen = r.seen := by rw [← hr']
  have rl' : r'.lapses = r.lapses := by rw [← hr']
  have ein : ∀ k, Heap.get [F14, []] (1, k) = F14.get k := fun k => by simp
  have eap : apS (1, 90231) 9 (l.map RAct.row) = apS (1, 90231) 9 (acts.map RAct.row) := by
    by_cases h : acts = []
    · have h' : l = [] := List.length_eq_zero_iff.1 (by rw [ll, h]; rfl)
      rw [h, h']
    · have h' : l ≠ [] := fun e => h (List.length_eq_zero_iff.1 (by rw [← ll, e]; rfl))
      rw [apS_ne (by simpa using h'), apS_ne (by simpa using h)]
      simp [ll]
  have rdO : rdG [F14, []] (.agg [.pure (.int .i64 r'.wide), .pure (.int .i64 r'.deep), apS (1, 24695) 2 (r'.people.map Person.row), apS (1, 41079) 5 (r'.things.map Thing.row), .pure (.slice (r'.seen.map irow)), .pure (.slice (r'.lapses.map irow)), apS (1, 90231) 9 (l.map RAct.row)]) (.agg r.row) := by
    rw [rowR, rdG_agg, eap, hacts]
    simp only [rdL_cons, rdL_nil, rdC_pure, and_true, rw', rd', rp', rt', rs', rl', true_and]
    refine ⟨rdC_apS' fun h => ⟨0, false, Nat.zero_le _, ?_⟩, rdC_apS' fun h => ⟨0, false, Nat.zero_le _, ?_⟩, rdC_apS' fun h => ?_⟩
    · rw [ein, x14 _ (by decide), y13 _ (by decide), ← hF12, apF_get (by decide), apF_get (by decide), rp', apF_self h]
    · rw [ein, x14 _ (by decide), y13 _ (by decide), ← hF12, apF_get (by decide), rt', apF_self h]
    · obtain ⟨v', h1, h2⟩ := ga14 (by simpa using h)
      exact ⟨v', false, by simpa using h1, by rw [ein]; exact h2⟩
  have E2 := fun c => eqRites_ok (c := c) r hr.sh rdW rdO (by simp)
  simp only [riteX] at b7 b15 b17
  unfold riteV at E1 E2
  simp at E1 E2
  simp [b7, b15, b17, b19, EA, E1, E2, awake_ok, gleave_free]
end Go.Gh


/-
  Proved here: for every list of numbers RiteChosen returns true and leaves its argument as it was. No condition.
-/
namespace Go.Proofs.Ytkcmcjohoockcaa
open Go.Gh Go.RowKit
set_option maxRecDepth 100000
theorem riteChosen_lifted (os : Os) (started : os.Started) (H : Type) (enc : TypeId × Value → H) :
    ReturnsInHanded {} Try.checked os 7 .any (Rows.riteChosenSpec.pre6 enc Try.prog Try.f7 Rows.riteChosenRow.domain false) (Rows.riteChosenSpec.post enc Try.prog Try.f7 false true false false) := by
  refine law_lifted (C := Try.checked) ctxOk rfl 6 own started (by kernel_rfl) laidOut Try.func7 rfl (fun ds hds => ?_) (tb := 4) rfl Try.underlying4 (by kernel_rfl)
    (ChangeSpec.witness6 (enc := enc) (C := Try.checked) false ⟨#[], #[.slice none 0 0], []⟩ 8 (by kernel_rfl) (by kernel_rfl) (by kernel_rfl) (by kernel_rfl)) ?_
  · match ds, hds with
    | [d], _ => rfl
  · intro pvs h
    have e : Try.f7.params.toList = [24] := by kernel_rfl
    rw [e] at h
    obtain ⟨p1, pvs, rfl, h1, h⟩ := argsP_cons h
    obtain rfl := argsP_nil h
    obtain ⟨nums, hl, rfl⟩ := arg_ints h1
    exact law7 nums hl
theorem riteChosen_holds : Rows.RiteChosenSaid :=
  OpenClaim.holds_of_wide 7 Try.f7 rfl rfl rfl rfl rfl rfl rfl ⟨rfl, rfl, rfl, rfl, rfl⟩ rfl rfl rfl rfl rfl (by kernel_rfl) Try.func7 (by kernel_rfl)
    (of_decide_eq_true (by kernel_rfl)) (by unfold Func.isWrapper; first | (rw [if_pos (by decide +kernel)]; kernel_rfl) | (rw [if_neg (by decide +kernel)]; exact ⟨rfl, rfl⟩))
    (fun os started H enc _ => riteChosen_lifted os started H enc)
#print axioms riteChosen_holds
end Go.Proofs.Ytkcmcjohoockcaa
