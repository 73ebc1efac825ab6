/- RiteTogether. -/
import Derived.Test.YtkcmcjohoockcaaRj
import Derived.Test.YtkcmcjohoockcaaPc
import Derived.Test.YtkcmcjohoockcaaGm
namespace Go.Gh
open Go.Proofs
set_option linter.unusedSimpArgs false
set_option linter.unusedVariables false
set_option linter.unnecessarySimpa false
set_option maxRecDepth 100000
set_option maxHeartbeats 4000000

theorem swapA {l : List RAct} {i : Nat} (h : i + 1 < l.length) : ∃ A C, l = A ++ l[i]'(by omega) :: l[i+1]'h :: C ∧ (l.set (i+1) (l[i]'(by omega))).set i (l[i+1]'h) = A ++ l[i+1]'h :: l[i]'(by omega) :: C := by
  have e1 := List.drop_eq_getElem_cons (l := l) (i := i) (by omega)
  have e2 := List.drop_eq_getElem_cons (l := l) (i := i + 1) h
  refine ⟨l.take i, l.drop (i + 1 + 1), ?_, ?_⟩
  · rw [← e2, ← e1, List.take_append_drop]
  · apply List.ext_getElem
    · simp; omega
    · intro j h1 h2
      simp only [List.getElem_set, List.getElem_append, List.length_take]
      have hm : min i l.length = i := by omega
      simp only [hm]
      by_cases h3 : i = j
      · subst h3; simp
      · by_cases h4 : i + 1 = j
        · subst h4; simp [show ¬ i + 1 < i by omega]
        · by_cases h5 : j < i
          · simp [h3, h4, h5]
          · have : j = i + 2 + (j - i - 2) := by omega
            obtain ⟨d, hd⟩ : ∃ d, j = i + 2 + d := ⟨_, this⟩
            subst hd
            have : i + 2 + d - i = d + 2 := by omega
            simp [h3, h4, h5, this]

theorem tog_loop {r0 : Rite} {s : Scene} {kb n : Nat} {acc : List Scene × Scene × Int × Int} {c0 c1 c2 c3 c4 c5 : GV} (hn : n ≤ 1000000) (Q : GX → GSt → Prop) (hkb : kb ≠ 90129) (hkb5 : kb ≠ 5) :
    ∀ (k i : Nat) (F : Fr) (l : List RAct) (w : Int) (v : Nat), v ≤ n → n ≤ i + 1 + k → l.length = n → F.srt → F.get kb = some (wbox w) → F.get 5 = some (.box [c0, c1, c2, c3, c4, c5, .hdr (1, 90129) 9 n 0 n]) → F.get 90129 = some (.arr 9 (l.map RAct.row) v false) → RiteB r0 l s 36 → accR (finR r0 l s) = acc →
    (∀ F' l' v', (∀ k, k ≠ kb → k ≠ 90129 → F'.get k = F.get k) → v' ≤ n → l'.length = n → F'.get 90129 = some (.arr 9 (l'.map RAct.row) v' false) → RiteB r0 l' s 36 → accR (finR r0 l' s) = acc → Q (.exit 0) ⟨[(4, .bptr (1, 4) 0), (5, .bptr (1, 5) 0)], [F', []], 86⟩) →
    WPL KC needT 6 (lp Try.f6 0) [3, 4, 5, 6] [4, 5] Q [(3, .bptr (1, kb) 0), (4, .bptr (1, 4) 0), (5, .bptr (1, 5) 0), (6, .pure (.int .i64 (i + 1)))] [F, []] 86 := by
  intro k
  induction k with
  | zero =>
    intro i F l w v hv hi hl hs hb h5 ha hR hA h1
    have hn' : ¬ i + 1 < n := by omega
    have hn2 : ¬ (i : Int) + 1 < n := by omega
    apply WPL_step
    conv => arg 4; whnf
    simp [hn', hn2, h5]
    exact h1 F l v (fun _ _ _ => rfl) hv hl ha hR hA
  | succ k ih =>
    intro i F l w v hv hi hl hs hb h5 ha hR hA h1
    by_cases hia : i + 1 < n
    · have hn2 : (i : Int) + 1 < n := by omega
      have hw := w64 (x := (i : Int) + 1 + 1) (by omega) (by omega)
      have hw2 := w64 (x := (i : Int) + 1 - 1) (by omega) (by omega)
      have e0 : (i : Int) + 1 - 1 = i := by omega
      have t1 : ((i : Int) + 1).toNat = i + 1 := by omega
      rw [e0] at hw2
      have hi1 : i + 1 < l.length := by omega
      have hi0 : i < l.length := by omega
      have hneg : ¬ (i : Int) + 1 < 0 := by omega
      have hin : i < n := by omega
      have hnl : n ≤ l.length := by omega
      have o5 := fun b => Fr.get_ins_other b (Ne.symm hkb5) F
      have p5 := fun b (f : Fr) => Fr.get_ins_other (p := 5) (q := 90129) b (by decide) f
      have oa := fun b => Fr.get_ins_other b (Ne.symm hkb) F
      have O := fun c => one_ok (c := c) (H := [[], F, []]) (nm := (1, kb)) (n := 2) ⟨w, by simp [hb], by simp [Fr.ins_same hs hb]⟩ (by omega)
      have hw0 : wordAt [[], F, []] (1, kb) = w := by simp [wordAt, hb, wbox]
      rw [hw0] at O
      simp at O
      apply WPL_step
      conv => arg 4; whnf
      by_cases hat : l[i+1].at' = l[i].at'
      · have hat' : (l[i+1].at' == l[i].at') = true := by simpa using hat
        obtain ⟨w1, hw1⟩ : ∃ w1, (oneR w 2).2 = w1 := ⟨_, rfl⟩
        rw [hw1] at O
        by_cases ho : (oneR w 2).1 = true
        · rw [ho] at O
          simp [hia, hn2, h5, ha, hi1, hi0, hw, hw2, e0, t1, hat, hat', Fr.get_ins, Fr.ins_ins, hneg, hin, hnl, hv, hl, o5, oa, p5, O, RAct.row]
          have e1 : [PV.int .i64 l[i].at', .int .i64 l[i].who, .int .i64 l[i].kind, .int .i64 l[i].hand, .int .i64 l[i].thing, .int .i64 l[i].cell, .int .i64 l[i].other, .int .i64 l[i].seasons, .int .i64 l[i].rank] = RAct.row l[i] := rfl
          have e2 : [PV.int .i64 l[i].at', .int .i64 l[i+1].who, .int .i64 l[i+1].kind, .int .i64 l[i+1].hand, .int .i64 l[i+1].thing, .int .i64 l[i+1].cell, .int .i64 l[i+1].other, .int .i64 l[i+1].seasons, .int .i64 l[i+1].rank] = RAct.row l[i+1] := by rw [← hat]; rfl
          rw [e1, e2, ← List.map_set, ← List.map_set]
          obtain ⟨A, C, eA, eB⟩ := swapA hi1
          have hR2 := hR
          rw [eA] at hR2
          obtain ⟨s1, s2⟩ := hR2.swap hat.symm
          rw [← eA, hA] at s2
          rw [← eB] at s1 s2
          have ih' := ih (i + 1) ((F.ins kb (wbox w1)).ins 90129 (.arr 9 (((l.set (i+1) l[i]).set i l[i+1]).map RAct.row) n false)) _ w1 n (Nat.le_refl _) (by omega) (by simp [hl]) (Fr.ins_srt (Fr.ins_srt hs)) ((Fr.get_ins_other _ hkb _).trans (Fr.get_ins ..)) ((p5 _ _).trans ((o5 _).trans h5)) (Fr.get_ins ..) s1 s2 (fun F' l' v' h2 => h1 F' l' v' fun k k1 k2 => (h2 k k1 k2).trans ((Fr.get_ins_other _ k2 _).trans (Fr.get_ins_other _ k1 F)))
          simpa using ih'
        · have ho' : (oneR w 2).1 = false := by simpa using ho
          rw [ho'] at O
          simp [hia, hn2, h5, ha, hi1, hi0, hw, hw2, e0, t1, hat, hat', Fr.get_ins, Fr.ins_ins, hneg, hin, hnl, hv, hl, o5, oa, p5, O, RAct.row]
          have ih' := ih (i + 1) (F.ins kb (wbox w1)) l w1 v hv (by omega) hl (Fr.ins_srt hs) (Fr.get_ins ..) ((o5 _).trans h5) ((oa _).trans ha) hR hA (fun F' l' v' h2 => h1 F' l' v' fun k k1 k2 => (h2 k k1 k2).trans (Fr.get_ins_other _ k1 F))
          simpa using ih'
      · have hat' : (l[i+1].at' == l[i].at') = false := by simpa using hat
        simp [hia, hn2, h5, ha, hi1, hi0, hw, hw2, e0, t1, hat, hat', Fr.get_ins, Fr.ins_ins, hneg, hin, hnl, hv, hl, o5, oa, p5, RAct.row]
        have ih' := ih (i + 1) F l w v hv (by omega) hl hs hb h5 ha hR hA h1
        simpa using ih'
    · have hn2 : ¬ (i : Int) + 1 < n := by omega
      apply WPL_step
      conv => arg 4; whnf
      simp [hia, hn2, h5]
      exact h1 F l v (fun _ _ _ => rfl) hv hl ha hR hA

def topG (l : Nat) (g : GV) : Prop := ∀ nm es top lo len, g = .hdr nm es top lo len → nm.1 = l
theorem topG_pure {l : Nat} {p : PV} : topG l (.pure p) := fun _ _ _ _ _ h => by cases h
theorem topG_apS {l k es : Nat} {rows : List (List PV)} : topG l (apS (l, k) es rows) := fun nm es top lo len h => by
  unfold apS at h
  split at h
  · cases h
  · cases h; rfl
theorem frzCell_top {H : Heap} {F : Fr} {g : GV} (h : topG H.length g) : ∃ F', (frzCell (F :: H) g).2 = F' :: H := by
  cases g with
  | hdr nm es top lo len =>
    have hn := h _ _ _ _ _ rfl
    simp only [frzCell, pureCell]
    split
    · split
      · exact ⟨_, by rw [Heap.set_cons', if_pos hn]⟩
      · exact ⟨F, rfl⟩
    · exact ⟨F, rfl⟩
  | _ => exact ⟨F, rfl⟩
theorem frzCells_top {H : Heap} : ∀ {l : List GV} {F : Fr}, (∀ g ∈ l, topG H.length g) → ∃ F', (frzCells (F :: H) l).2 = F' :: H
  | [], F, _ => ⟨F, rfl⟩
  | g :: l, F, h => by
    obtain ⟨F1, e1⟩ := frzCell_top (F := F) (h g (List.mem_cons_self ..))
    obtain ⟨F2, e2⟩ := frzCells_top (l := l) (F := F1) fun x hx => h x (List.mem_cons_of_mem _ hx)
    exact ⟨F2, by simp only [frzCells, e1, e2]⟩
theorem Scenes_rd {H : Heap} {F : Fr} {l : List GV} {r : Rite} (h : rdG (F :: H) (.agg l) (.agg r.row)) (ht : ∀ g ∈ l, topG H.length g) (hr : Runs r) (hH : 0 < H.length) : ∃ F', ∀ c, gcall KC (geval KC) 18 [.agg l] c (F :: H) =
      some (.pure (.tuple (if (accR r).2.2.2 = 0 then [.slice ((accR r).1.map Scene.row), .int .i64 0] else [.slice [], .int .i64 (accR r).2.2.2])), F' :: H) := by
  obtain ⟨F', e⟩ := frzCells_top (F := F) ht
  refine ⟨F', fun c => ?_⟩
  have R := frz1 h
  have e2 : (frzVals (F :: H) [.agg l]).2 = F' :: H := by simp only [frzVals, frzVal, e]
  rw [gcall_frz rfl rfl rfl, e2]
  rw [gcall0_canon (b := [.pure (.agg r.row)]) (by rw [R]; simp)]
  exact Scenes_ok0 hr (by simp)

theorem law6 (nums : List Int) (hnums : nums.length ≤ 9223372036854775807) :
    ∃ H', gcall KC (geval KC) 6 [.pure (.slice (nums.map irow))] 0 [[]] = some (.pure (.bool true), H') := by
  suffices hs : WPv (gcall KC (geval KC) 6 [.pure (.slice (nums.map irow))] 0 [[]]) (fun x => x.1 = .pure (.bool true)) by
    obtain ⟨⟨v, H'⟩, h1, rfl⟩ := hs
    exact ⟨H', h1⟩
  refine call_enter KC needT Try.func6 rfl rfl good6 rfl rfl rfl (by simp) (by simp) ?_
  obtain ⟨w, eB⟩ := BoxOf_ok (c := 12) (H := [[], []]) nums hnums (by simp) (by simp [newKey])
  have k8 : newKey 12 6 = 24589 := by decide
  simp [k8] at eB
  obtain ⟨r0, acts, s, wd, F1, hR, eR, hV, hk, hsr, ho⟩ := made_at (F := [(24589, wbox w)]) (H := [[]]) (kb := 24589) (c := 14) (N := 15) (by simp [Fr.srt]) (by omega) (by omega) (w := w) (by simp) (by simp [kp, newKey]) (by simp [kt, newKey]) (by simp [kl, newKey]) (by simp [ka, newKey]) (fun k => by unfold newKey; omega)
  obtain ⟨r, hrr⟩ : ∃ r, finR r0 acts s = r := ⟨_, rfl⟩
  have hr : Runs r := hrr ▸ made_runs hR (by omega)
  have hacts : r.acts = acts := by rw [← hrr]; rfl
  obtain ⟨gs, e1, hT, hP, hsd, hacc⟩ := made_acc hR
  have hSn := scenes_snd (firstV_snd hR.room) hT
  rw [hrr] at eR hV
  have pn : ∀ k, k ≠ 24589 → k ≠ kp 14 → k ≠ kt 14 → k ≠ kl 14 → k ≠ ka 14 → F1.get k = none := fun k h1 h2 h3 h4 h5 => (ho k h1 h2 h3 h4 h5).trans (by simp [Fr.get, h1])
  obtain ⟨F2, hF2⟩ : ∃ F2, F1.ins 4 (riteX (kp 14) (kt 14) (kl 14) (ka 14) r) = F2 := ⟨_, rfl⟩
  have o2 : ∀ k, k ≠ 4 → F2.get k = F1.get k := fun k h => by rw [← hF2, Fr.get_ins_other _ h]
  have V2 : RV F2 (kp 14) (kt 14) (kl 14) (ka 14) r := ⟨by rw [o2 _ (by decide)]; exact hV.g2, by rw [o2 _ (by decide)]; exact hV.g3, fun h => by rw [o2 _ (by decide)]; exact hV.g5 h, fun h => by rw [o2 _ (by decide)]; exact hV.g7 h, hV.sn⟩
  have q2 : ∀ k, k ≠ 4 → k ≠ 24589 → k ≠ kp 14 → k ≠ kt 14 → k ≠ kl 14 → k ≠ ka 14 → F2.get k = none := fun k h0 h1 h2 h3 h4 h5 => (o2 k h0).trans (pn k h1 h2 h3 h4 h5)
  have m6 : newKey 16 6 = 24593 := by decide
  have m10 : newKey 16 10 = 40977 := by decide
  have m22 : newKey 16 22 = 90129 := by decide
  have eO := ownR_at (c := 16) (H := [[]]) hr.sh V2 (q2 _ (by decide) (by decide) (by decide) (by decide) (by decide) (by decide)) (q2 _ (by decide) (by decide) (by decide) (by decide) (by decide) (by decide)) (q2 _ (by decide) (by decide) (by decide) (by decide) (by decide) (by decide))
  rw [m6, m10, m22, hacts] at eO
  obtain ⟨F3, hF3⟩ : ∃ F3, apF 90129 9 (acts.map RAct.row) (apF 40977 5 (r.things.map Thing.row) (apF 24593 2 (r.people.map Person.row) F2)) = F3 := ⟨_, rfl⟩
  rw [hF3] at eO
  have p34 : F1.get 4 = none := pn _ (by decide) (by decide) (by decide) (by decide) (by decide)
  simp only [riteX] at hF2
  simp only [riteV] at eR eO
  simp only [ownG] at eO
  simp at eR eO
  have g24 : F2.get 4 = some (riteX (kp 14) (kt 14) (kl 14) (ka 14) r) := by rw [← hF2, Fr.get_ins]; rfl
  simp only [riteX] at g24
  have r3 : ∀ k, k ≠ 90129 → k ≠ 40977 → k ≠ 24593 → F3.get k = F2.get k := fun k h1 h2 h3 => by rw [← hF3, apF_get h1, apF_get h2, apF_get h3]
  have g35 : F3.get 5 = none := (r3 5 (by decide) (by decide) (by decide)).trans (q2 5 (by decide) (by decide) (by decide) (by decide) (by decide) (by decide))
  obtain ⟨F4, hF4⟩ : ∃ F4, F3.ins 5 (.box [.pure (.int .i64 r.wide), .pure (.int .i64 r.deep), apS (1, 24593) 2 (r.people.map Person.row), apS (1, 40977) 5 (r.things.map Thing.row), .pure (.slice (r.seen.map irow)), .pure (.slice (r.lapses.map irow)), apS (1, 90129) 9 (acts.map RAct.row)]) = F4 := ⟨_, rfl⟩
  have g45 : F4.get 5 = some (.box [.pure (.int .i64 r.wide), .pure (.int .i64 r.deep), apS (1, 24593) 2 (r.people.map Person.row), apS (1, 40977) 5 (r.things.map Thing.row), .pure (.slice (r.seen.map irow)), .pure (.slice (r.lapses.map irow)), apS (1, 90129) 9 (acts.map RAct.row)]) := by rw [← hF4, Fr.get_ins]
  have o4 : ∀ k, k ≠ 5 → F4.get k = F3.get k := fun k h => by rw [← hF4, Fr.get_ins_other _ h]
  have s4 : F4.srt := by
    rw [← hF4, ← hF3, ← hF2]
    exact Fr.ins_srt (apF_srt (apF_srt (apF_srt (Fr.ins_srt hsr))))
  have k4 : F4.get 24589 = some (wbox wd) := by rw [o4 _ (by decide), r3 _ (by decide) (by decide) (by decide), o2 _ (by decide)]; exact hk
  have al : acts.length ≤ 1000000 := by have := hr.al; rw [hacts] at this; exact this
  have T : ∀ Q : GX → GSt → Prop, (∀ F' l', (∀ k, k ≠ 24589 → k ≠ 90129 → F'.get k = F4.get k) → l'.length = acts.length → (l' ≠ [] → ∃ v ro, v ≤ l'.length ∧ F'.get 90129 = some (.arr 9 (l'.map RAct.row) v ro)) → RiteB r0 l' s 36 → accR (finR r0 l' s) = accR (finR r0 acts s) → Q (.exit 0) ⟨[(4, .bptr (1, 4) 0), (5, .bptr (1, 5) 0)], [F', []], 86⟩) →
      WPL KC needT 6 (lp Try.f6 0) [3, 4, 5, 6] [4, 5] Q [(3, .bptr (1, 24589) 0), (4, .bptr (1, 4) 0), (5, .bptr (1, 5) 0), (6, .pure (.int .i64 1))] [F4, []] 86 := by
    intro Q hQ
    by_cases ha : acts = []
    · have := hQ F4 [] (fun _ _ _ => rfl) (by rw [ha]) (fun h => absurd rfl h) (by rw [← ha]; exact hR) (by rw [ha])
      apply WPL_step
      conv => arg 4; whnf
      rw [ha] at g45
      simp [apS] at g45
      simp [g45]
      exact this
    · have g := tog_loop (r0 := r0) (s := s) (kb := 24589) (n := acts.length) (acc := accR (finR r0 acts s)) (c0 := .pure (.int .i64 r.wide)) (c1 := .pure (.int .i64 r.deep)) (c2 := apS (1, 24593) 2 (r.people.map Person.row)) (c3 := apS (1, 40977) 5 (r.things.map Thing.row)) (c4 := .pure (.slice (r.seen.map irow))) (c5 := .pure (.slice (r.lapses.map irow))) al Q (by decide) (by decide) acts.length 0 F4 acts wd 0 (Nat.zero_le _) (by omega) rfl s4 k4 (by rw [g45]; simp [apS_ne, ha]) (by rw [o4 _ (by decide), ← hF3, apF_self (by simpa using ha)]) hR rfl (fun F' l' v' h1 h2 h3 h4 h5 h6 => hQ F' l' h1 h3 (fun _ => ⟨v', false, by omega, h4⟩) h5 h6)
      simpa using g
  simp only [hacts] at eR hF2 g24 eO
  simp [eB, eR, p34, Fr.get_ins, Fr.ins_ins, hF2, g24, eO, g35, hacts, hF4]
  refine T _ fun F5 l' x5 hl5 ha5 hR5 hA5 => ?_
  obtain ⟨r', hr'⟩ : ∃ r', finR r0 l' s = r' := ⟨_, rfl⟩
  have hrun' : Runs r' := hr' ▸ made_runs hR5 (by omega)
  have y5 : ∀ k, k ≠ 24589 → k ≠ 90129 → k ≠ 5 → k ≠ 40977 → k ≠ 24593 → F5.get k = F2.get k := fun k h1 h2 h3 h4 h5 => (x5 k h1 h2).trans ((o4 k h3).trans (r3 k h2 h4 h5))
  have V5 : RV F5 (kp 14) (kt 14) (kl 14) (ka 14) r := ⟨by rw [y5 _ (by decide) (by decide) (by decide) (by decide) (by decide)]; exact V2.g2, by rw [y5 _ (by decide) (by decide) (by decide) (by decide) (by decide)]; exact V2.g3, fun h => by rw [y5 _ (by decide) (by decide) (by decide) (by decide) (by decide)]; exact V2.g5 h, fun h => by rw [y5 _ (by decide) (by decide) (by decide) (by decide) (by decide)]; exact V2.g7 h, V2.sn⟩
  have g54 : F5.get 4 = some (riteX (kp 14) (kt 14) (kl 14) (ka 14) r) := by rw [y5 _ (by decide) (by decide) (by decide) (by decide) (by decide), g24, ← hacts]; rfl
  obtain ⟨F6, V6, o6, eS⟩ := Scenes_at (H := [[]]) V5 hr
  have eap : apS (1, 90129) 9 (acts.map RAct.row) = apS (1, 90129) 9 (l'.map RAct.row) := by
    by_cases h : acts = []
    · have h' : l' = [] := List.length_eq_zero_iff.1 (by rw [hl5, h]; rfl)
      rw [h, h']
    · have h' : l' ≠ [] := fun e => h (List.length_eq_zero_iff.1 (by rw [← hl5, e]; rfl))
      rw [apS_ne (by simpa using h), apS_ne (by simpa using h')]
      simp [hl5]
  have g65 : F6.get 5 = some (.box [.pure (.int .i64 r.wide), .pure (.int .i64 r.deep), apS (1, 24593) 2 (r.people.map Person.row), apS (1, 40977) 5 (r.things.map Thing.row), .pure (.slice (r.seen.map irow)), .pure (.slice (r.lapses.map irow)), apS (1, 90129) 9 (l'.map RAct.row)]) := by
    rw [o6 _ (by decide) (by decide) (by decide) (by decide), x5 _ (by decide) (by decide), g45, eap]
  have er' : r'.row = [.int .i64 r.wide, .int .i64 r.deep, .slice (r.people.map Person.row), .slice (r.things.map Thing.row), .slice (r.seen.map irow), .slice (r.lapses.map irow), .slice (l'.map RAct.row)] := by rw [← hr', ← hrr]; rfl
  have w1 : r.people.map Person.row ≠ [] → ∃ v ro, v ≤ (r.people.map Person.row).length ∧ F6.get 24593 = some (.arr 2 (r.people.map Person.row) v ro) := fun h => ⟨0, false, Nat.zero_le _, by
    rw [o6 _ (by decide) (by decide) (by decide) (by decide), x5 _ (by decide) (by decide), o4 _ (by decide), ← hF3, apF_get (by decide), apF_get (by decide), apF_self h]⟩
  have w2 : r.things.map Thing.row ≠ [] → ∃ v ro, v ≤ (r.things.map Thing.row).length ∧ F6.get 40977 = some (.arr 5 (r.things.map Thing.row) v ro) := fun h => ⟨0, false, Nat.zero_le _, by
    rw [o6 _ (by decide) (by decide) (by decide) (by decide), x5 _ (by decide) (by decide), o4 _ (by decide), ← hF3, apF_get (by decide), apF_self h]⟩
  have w3 : l'.map RAct.row ≠ [] → ∃ v ro, v ≤ (l'.map RAct.row).length ∧ F6.get 90129 = some (.arr 9 (l'.map RAct.row) v ro) := fun h => by
    obtain ⟨v, ro, a, b⟩ := ha5 (by simpa using h)
    exact ⟨v, ro, by simpa using a, by rw [o6 _ (by decide) (by decide) (by decide) (by decide)]; exact b⟩
  have RD : rdG [F6, []] (.agg [.pure (.int .i64 r.wide), .pure (.int .i64 r.deep), apS (1, 24593) 2 (r.people.map Person.row), apS (1, 40977) 5 (r.things.map Thing.row), .pure (.slice (r.seen.map irow)), .pure (.slice (r.lapses.map irow)), apS (1, 90129) 9 (l'.map RAct.row)]) (.agg r'.row) := by
    rw [er', rdG_agg]
    simp only [rdL_cons, rdL_nil, rdC_pure, and_true, true_and]
    exact ⟨rdC_apS' (by simpa using w1), rdC_apS' (by simpa using w2), rdC_apS' (by simpa using w3)⟩
  obtain ⟨F7, eS2⟩ := Scenes_rd RD (fun g hg => by
    simp only [List.mem_cons, List.not_mem_nil, or_false] at hg
    rcases hg with rfl | rfl | rfl | rfl | rfl | rfl | rfl
    · exact topG_pure
    · exact topG_pure
    · exact topG_apS
    · exact topG_apS
    · exact topG_pure
    · exact topG_pure
    · exact topG_apS) hrun' (by simp)
  rw [← hr', hA5, hacc] at eS2
  rw [hrr] at hacc
  rw [hacc] at eS
  have hsnd : ∀ x ∈ firstV r0 :: scenesG (firstV r0) gs, Snd r x := fun x hx => by
    rw [← hrr]
    rcases List.mem_cons.1 hx with rfl | hx
    · exact finR_Snd (firstV_snd hR.room)
    · exact finR_Snd (hSn.1 x hx)
  have hss : ∀ x ∈ firstV r0 :: scenesG (firstV r0) gs, ShortS x := fun x hx => by
    have := hsnd x hx
    exact ⟨by rw [this.pl]; exact hr.w.pl, by rw [this.hl]; exact hr.w.pl, by rw [this.tl]; exact hr.w.tl⟩
  have hsl := gs_len hR (by omega) e1 hT
  have EP := fun c => eqPlays_ok (c := c) (H := [F7, []]) (firstV r0 :: scenesG (firstV r0) gs) hss (by simp; omega) (by simp)
  simp only [riteX] at g54
  simp only [riteV] at eS
  generalize firstV r0 :: scenesG (firstV r0) gs = pl at eS eS2 EP
  simp at eS eS2
  simp [g54, eS, g65, eS2, EP, awake_ok, gleave_free]
end Go.Gh


/-
  Proved here: for every list of numbers RiteTogether returns true and leaves its argument as it was. No condition.
-/
namespace Go.Proofs.Ytkcmcjohoockcaa
open Go.Gh Go.RowKit
set_option maxRecDepth 100000

theorem riteTogether_lifted (os : Os) (started : os.Started) (H : Type) (enc : TypeId × Value → H) :
    ReturnsInHanded {} Try.checked os 6 .any (Rows.riteTogetherSpec.pre6 enc Try.prog Try.f6 Rows.riteTogetherRow.domain false) (Rows.riteTogetherSpec.post enc Try.prog Try.f6 false true false false) := by
  refine law_lifted (C := Try.checked) ctxOk rfl 6 own started (by kernel_rfl) laidOut Try.func6 rfl (fun ds hds => ?_) (tb := 4) rfl Try.underlying4 (by kernel_rfl)
    (ChangeSpec.witness6 (enc := enc) (C := Try.checked) false ⟨#[], #[.slice none 0 0], []⟩ 8 (by kernel_rfl) (by kernel_rfl) (by kernel_rfl) (by kernel_rfl)) ?_
  · match ds, hds with
    | [d], _ => rfl
  · intro pvs h
    have e : Try.f6.params.toList = [24] := by kernel_rfl
    rw [e] at h
    obtain ⟨p1, pvs, rfl, h1, h⟩ := argsP_cons h
    obtain rfl := argsP_nil h
    obtain ⟨nums, hl, rfl⟩ := arg_ints h1
    exact law6 nums hl

theorem riteTogether_holds : Rows.RiteTogetherSaid :=
  OpenClaim.holds_of_wide 6 Try.f6 rfl rfl rfl rfl rfl rfl rfl ⟨rfl, rfl, rfl, rfl, rfl⟩ rfl rfl rfl rfl rfl (by kernel_rfl) Try.func6 (by kernel_rfl)
    (of_decide_eq_true (by kernel_rfl)) (by unfold Func.isWrapper; first | (rw [if_pos (by decide +kernel)]; kernel_rfl) | (rw [if_neg (by decide +kernel)]; exact ⟨rfl, rfl⟩))
    (fun os started H enc _ => riteTogether_lifted os started H enc)
#print axioms riteTogether_holds
end Go.Proofs.Ytkcmcjohoockcaa
