/- A rite that was made is accepted. -/
import Derived.Test.YtkcmcjohoockcaaRi
import Derived.Test.YtkcmcjohoockcaaRe
namespace Go.Gh
open Go.Proofs
set_option linter.unusedSimpArgs false
set_option linter.unusedVariables false
set_option linter.unnecessarySimpa false
set_option maxRecDepth 100000
theorem TrG_all {r : Rite} : ∀ {gs : List (List RAct)} {s : Scene}, TrG r s gs → ∀ g ∈ gs, ∃ s', GOk r s' g ∧ ∀ a ∈ g, ∀ b ∈ g, a.at' = b.at'
  | [], _, _, _, h => by simp at h
  | g0 :: gs, s, h, g, hg => by
    rcases List.mem_cons.1 hg with rfl | hg
    · exact ⟨s, h.1.1, h.1.2.2⟩
    · exact TrG_all h.2 g hg
theorem who_touch {s : Scene} {w : Nat} {a : RAct} : a.who ∈ (touchV s w a).people := by
  rw [touchV_def]
  repeat' split
  all_goals simp
theorem acts_pw {r : Rite} {gs : List (List RAct)} {s : Scene} (h : TrG r s gs) (hP : gs.Pairwise fun g h => ∀ a ∈ g, ∀ b ∈ h, a.at' < b.at') : gs.flatten.Pairwise fun a b => a.at' ≤ b.at' ∧ (a.at' = b.at' → a.who ≠ b.who) := by
  rw [List.pairwise_flatten]
  refine ⟨fun g hg => ?_, hP.imp fun {g h} q x hx y hy => ⟨by have := q x hx y hy; omega, fun e => by have := q x hx y hy; omega⟩⟩
  obtain ⟨s', hG, hat⟩ := TrG_all h g hg
  refine hG.ap.imp_of_mem fun {a b} ha hb q => ⟨by have := hat a ha b hb; omega, fun _ e => ?_⟩
  exact q.ap a.who who_touch (by rw [e]; exact who_touch)
section
variable {r0 : Rite} {acts : List RAct} {s : Scene}
theorem finR_tl : (finR r0 acts s).things.length = r0.things.length := finL_len _ _ _
theorem finR_AB {w : Nat} {a : RAct} (h : AB r0 w a) : AB (finR r0 acts s) w a :=
  ⟨h.who, h.wl, h.hand, h.kind, fun k => by rw [finR_tl]; exact h.take k, h.give, h.step, h.form⟩
theorem finR_Snd {x : Scene} (h : Snd r0 x) : Snd (finR r0 acts s) x where
  pl := h.pl
  hl := h.hl
  tl := by rw [finR_tl]; exact h.tl
  hr := h.hr
  pr := h.pr
  pn := h.pn
  th := h.th
  st := h.st
theorem finR_first : firstV (finR r0 acts s) = firstV r0 := by
  unfold firstV
  have : (finR r0 acts s).things.map spotOf = r0.things.map spotOf := by
    show (finL r0.things s.things r0.things.length).map spotOf = _
    refine List.ext_getElem (by simp [finL]) fun j h1 h2 => ?_
    have hj : j < r0.things.length := by simpa using h2
    rw [List.getElem_map, List.getElem_map, finL_get _ _ _ _ hj, if_pos hj]; rfl
  rw [this]; rfl
end
end Go.Gh


/- A rite that was made is valid. -/
namespace Go.Gh
open Go.Proofs
set_option linter.unusedSimpArgs false
set_option linter.unusedVariables false
set_option linter.unnecessarySimpa false
set_option maxRecDepth 100000
theorem firstI_all {g : Nat → Int} : ∀ {k i : Nat}, (∀ j, i ≤ j → j < i + k → g j = 0) → firstI g k i = 0
  | 0, _, _ => rfl
  | k + 1, i, h => by
    unfold firstI
    rw [h i (Nat.le_refl _) (by omega)]
    simp
    exact firstI_all fun j a b => h j (by omega) (by omega)
theorem inB_true {x lo hi : Int} (h1 : lo ≤ x) (h2 : x ≤ hi) : inB x lo hi = true := by simp [inB, h1, h2]
theorem topC_eq {w d : Int} (h1 : 1 ≤ w * d) (h2 : w * d ≤ 1000000) : topC w d = w * d - 1 := by
  rw [topC_def, w64 (x := w * d) (by omega) (by omega), w64 (x := w * d - 1) (by omega) (by omega)]
theorem fields_ok {r : Rite} {w : Nat} {a : RAct} (h : AB r w a) (h1 : 1 ≤ r.wide * r.deep) (h2 : r.wide * r.deep ≤ 1000000) : fieldsF (topC r.wide r.deep) r.things.length r.people.length a = 0 := by
  have hk := h.kind
  have hh := h.hand
  rw [fieldsF_def, if_neg (by rw [inB_true hk.1 hk.2]; simp), if_neg (by rw [h.form]; simp), if_neg, if_neg (by rw [inB_true (by omega) (by omega)]; simp), if_neg, if_neg, if_neg]
  · rintro ⟨k, e⟩
    obtain ⟨o, ho, _, hne⟩ := h.give k
    rw [ho, h.who] at e
    exact hne (by omega)
  · rintro ⟨k, e⟩
    obtain ⟨o, ho, hl, _⟩ := h.give k
    rw [ho, inB_true (by omega) (by omega)] at e
    cases e
  · rintro ⟨k, e⟩
    obtain ⟨t, ht, hl⟩ := h.take k
    rw [ht, inB_true (by omega) (by omega)] at e
    cases e
  · rintro ⟨k, e⟩
    obtain ⟨c1, c2⟩ := h.step k
    rw [topC_eq h1 h2, inB_true c1 (by omega)] at e
    cases e
section
variable {r0 : Rite} {acts : List RAct} {s : Scene} {m : Nat}
theorem RiteB.AB (h : RiteB r0 acts s m) : ∀ a ∈ acts, AB r0 a.who.toNat a := fun a ha => by
  obtain ⟨t, hM, _⟩ := h.made
  obtain ⟨gs, e, hT, _⟩ := hM.gs
  rw [e] at ha
  obtain ⟨g, hg, ha⟩ := List.mem_flatten.1 ha
  obtain ⟨s', hG, _⟩ := TrG_all hT g hg
  exact (hG.ab a ha).1
theorem RiteB.area (h : RiteB r0 acts s m) : 1 ≤ r0.wide * r0.deep ∧ r0.wide * r0.deep ≤ 9 := by
  obtain ⟨n, hb, hn⟩ := RB_of h.room
  have := hb.n0
  have := hb.n9
  omega
/-- Nothing is held at the end. -/
theorem RiteB.empty (h : RiteB r0 acts s m) : s.hands = s.hands.map fun _ => empty := by
  obtain ⟨t, hM, _⟩ := h.made
  refine List.ext_getElem (by simp) fun j h1 h2 => ?_
  have hj : j < r0.people.length := by rw [← hM.snd.hl]; exact h1
  have a := h.hands j 0 hj (.inl rfl)
  have b := h.hands j 1 hj (.inr rfl)
  unfold handAt at a b
  rw [getD_lt h1] at a b
  simp at a b
  rw [List.getElem_map]
  cases hh : s.hands[j]
  rw [hh] at a b
  simp only at a b
  rw [a, b]; rfl
theorem cnt_empty : ∀ {l : List Hands} {t : Nat}, l = l.map (fun _ => empty) → cntH l t = 0
  | [], _, _ => rfl
  | x :: l, t, h => by
    rw [List.map_cons] at h
    obtain ⟨h1, h2⟩ := List.cons.inj h
    have hn : ¬ (-1 : Int) = t := by omega
    simp only [cntH]
    rw [cnt_empty h2, h1]
    simp [oneH, Go.Gh.empty, hn]
theorem RiteB.ends (h : RiteB r0 acts s m) (t : Nat) (ht : t < r0.things.length) : (0 ≤ (s.things.getD t spot0).cell ∧ (s.things.getD t spot0).cell < r0.wide * r0.deep) ∧ 0 ≤ (s.things.getD t spot0).state ∧ (s.things.getD t spot0).state < 16 := by
  obtain ⟨_, hM, _⟩ := h.made
  have ht' : t < s.things.length := by rw [hM.snd.tl]; exact ht
  rcases hM.snd.th t ht' with ⟨a, _⟩ | ⟨_, a⟩
  · rw [cnt_empty h.empty] at a; cases a
  · exact ⟨a, hM.snd.st t ht'⟩
theorem made_check (h : RiteB r0 acts s m) (hm : m ≤ 40) : checkF (finR r0 acts s) = 0 := by
  have A := h.area
  have R := h.room
  have ar1 : 1 ≤ (finR r0 acts s).wide * (finR r0 acts s).deep := A.1
  obtain ⟨t, hM, htm⟩ := h.made
  obtain ⟨gs, e, hT, hP⟩ := hM.gs
  have hpw := acts_pw hT hP
  rw [← e] at hpw
  have top : topC r0.wide r0.deep = r0.wide * r0.deep - 1 := topC_eq A.1 (by omega)
  have tl : (finR r0 acts s).things.length = r0.things.length := finR_tl
  have hp0 : 0 < r0.people.length := List.length_pos_iff.2 R.p0
  have room : roomF (finR r0 acts s) = 0 := by
    rw [roomF_def, tl]
    show (if inB r0.wide 1 6 = false ∨ inB r0.deep 1 6 = false then (2 : Int) else if r0.people.length = 0 then 6 else if 4 < r0.people.length then 8 else if firstI (personF (topC r0.wide r0.deep) r0.people) r0.people.length 0 ≠ 0 then firstI (personF (topC r0.wide r0.deep) r0.people) r0.people.length 0 else if 8 < r0.things.length then 8 else if firstI (thingF (topC r0.wide r0.deep) (finR r0 acts s).things) r0.things.length 0 ≠ 0 then firstI (thingF (topC r0.wide r0.deep) (finR r0 acts s).things) r0.things.length 0 else if firstI (ascF (fun x => inB x 0 (topC r0.wide r0.deep)) 7 r0.seen) r0.seen.length 0 ≠ 0 then firstI (ascF (fun x => inB x 0 (topC r0.wide r0.deep)) 7 r0.seen) r0.seen.length 0 else firstI (ascF (fun x => inB x 1 3) 4 r0.lapses) r0.lapses.length 0) = 0
    have e1 := R.w1
    have e2 := R.w3
    have e3 := R.d1
    have e4 := R.d3
    have e5 := R.p3
    have e6 := R.t4
    have f1 : firstI (personF (topC r0.wide r0.deep) r0.people) r0.people.length 0 = 0 := firstI_all fun j _ hj => by
      have hj' : j < r0.people.length := by omega
      have pc := R.pc _ (List.getElem_mem hj')
      rw [personF_def, getD_lt hj', inB_true pc.1.1 pc.1.2, top, inB_true pc.2.1 (by omega)]
      simp only [Bool.true_eq_false, if_false]
      rw [if_neg]
      intro hs
      unfold sameCell at hs
      rw [List.any_eq_true] at hs
      obtain ⟨q, hq, he⟩ := hs
      obtain ⟨i, hi, rfl⟩ := List.mem_take_iff_getElem.1 hq
      have hij : i < j := by omega
      have hil : i < r0.people.length := by omega
      have := List.pairwise_iff_getElem.1 R.pn i j (by simpa using hil) (by simpa using hj') hij
      simp at this he
      exact this he
    have f2 : firstI (thingF (topC r0.wide r0.deep) (finR r0 acts s).things) r0.things.length 0 = 0 := firstI_all fun j _ hj => by
      have hj' : j < r0.things.length := by omega
      have tc := R.tc _ (List.getElem_mem hj')
      obtain ⟨t1, t2, t3, t4, t5, t6⟩ := tc
      have E := h.ends j hj'
      have g : (finR r0 acts s).things.getD j ⟨0, 0, 0, 0, false⟩ = finT r0.things[j] (s.things.getD j spot0) := by
        show (finL r0.things s.things r0.things.length).getD j _ = _
        rw [getD_lt (by rw [finL_len]; exact hj'), finL_get _ _ _ _ hj', if_pos hj']
      have x1 : inB r0.things[j].cell 0 (r0.wide * r0.deep - 1) = true := inB_true t1 (by omega)
      have x2 : inB (s.things.getD j spot0).cell 0 (r0.wide * r0.deep - 1) = true := inB_true E.1.1 (by omega)
      have x3 : inB r0.things[j].state 0 15 = true := inB_true t3 (by omega)
      have x4 : inB (s.things.getD j spot0).state 0 15 = true := inB_true E.2.1 (by omega)
      generalize s.things.getD j spot0 = sp at g x2 x4
      rw [thingF_def, g, top]
      simp [finT, x1, x2, x3, x4]
    have f3 : firstI (ascF (fun x => inB x 1 3) 4 r0.lapses) r0.lapses.length 0 = 0 := firstI_all fun j _ hj => by
      have hj' : j < r0.lapses.length := by omega
      have lr := R.lr _ (List.getElem_mem hj')
      rw [ascF_def, getD_lt hj', inB_true lr.1 (by omega)]
      simp only [Bool.true_eq_false, if_false]
      rw [if_neg]
      rintro ⟨h0, hle⟩
      rw [getD_lt (by omega)] at hle
      have := List.pairwise_iff_getElem.1 R.lp (j - 1) j (by omega) hj' (by omega)
      omega
    rw [inB_true e1 (by omega), inB_true e3 (by omega), f1, f2, f3, R.seen]
    rw [if_neg (by simp), if_neg (by omega), if_neg (by omega), if_neg (by simp), if_neg (by omega), if_neg (by simp)]
    simp [firstI]
  rw [checkF_def, room]
  have hl : ¬ 40 < (finR r0 acts s).acts.length := by show ¬ 40 < acts.length; have := h.len; omega
  rw [if_neg (by simp), if_neg hl]
  refine firstI_all fun j _ hj => ?_
  have hj' : j < acts.length := by have : (finR r0 acts s).acts.length = acts.length := rfl; omega
  have hA := h.AB _ (List.getElem_mem hj')
  have hz := hM.z _ (List.getElem_mem hj')
  have hlt := hM.lt _ (List.getElem_mem hj')
  have hF := fields_ok (finR_AB (acts := acts) (s := s) hA) ar1 (by show r0.wide * r0.deep ≤ _; omega)
  have hwl := hA.wl
  have hwho := hA.who
  rw [actF_def]
  show (if inB (acts.getD j act0).at' 0 1000 = false then (2 : Int) else if 0 < j ∧ (acts.getD j act0).at' < (acts.getD (j - 1) act0).at' then 11 else if inB (acts.getD j act0).who 0 ((r0.people.length : Int) - 1) = false then 7 else if (acts.take j).any (samePM (acts.getD j act0)) = true then 12 else if fieldsF (topC (finR r0 acts s).wide (finR r0 acts s).deep) (finR r0 acts s).things.length (finR r0 acts s).people.length (acts.getD j act0) ≠ 0 then fieldsF (topC (finR r0 acts s).wide (finR r0 acts s).deep) (finR r0 acts s).things.length (finR r0 acts s).people.length (acts.getD j act0) else if inB (acts.getD j act0).seasons 0 15 = false ∨ inB (acts.getD j act0).rank 0 9 = false then 2 else 0) = 0
  rw [getD_lt hj', inB_true hz.1 (by omega), inB_true (x := acts[j].who) (by omega) (by omega), hF, hz.2.1, hz.2.2]
  simp only [Bool.true_eq_false, if_false]
  rw [if_neg, if_neg]
  · simp [inB]
  · intro hs
    rw [List.any_eq_true] at hs
    obtain ⟨q, hq, he⟩ := hs
    obtain ⟨i, hi, rfl⟩ := List.mem_take_iff_getElem.1 hq
    have hil : i < acts.length := by omega
    have := List.pairwise_iff_getElem.1 hpw i j hil hj' (by omega)
    unfold samePM at he
    simp at he
    exact this.2 he.1 he.2
  · rintro ⟨h0, hle⟩
    rw [getD_lt (by omega)] at hle
    have := (List.pairwise_iff_getElem.1 hpw (j - 1) j (by omega) hj' (by omega)).1
    omega
theorem made_runs (h : RiteB r0 acts s m) (hm : m ≤ 40) : Runs (finR r0 acts s) where
  w := { w1 := h.room.w1, w6 := by show r0.wide ≤ _; have := h.room.w3; omega, n6 := by show r0.wide * r0.deep < _; have := h.area; omega, pl := by show r0.people.length ≤ _; have := h.room.p3; omega, tl := by rw [finR_tl]; have := h.room.t4; omega }
  snd := by rw [finR_first]; exact finR_Snd (firstV_snd h.room)
  p0 := h.room.p0
  t0 := by
    intro e
    have := congrArg List.length e
    rw [finR_tl] at this
    exact h.room.t0 (List.length_eq_zero_iff.1 this)
  al := by show acts.length ≤ _; have := h.len; omega
  ab := fun a ha => finR_AB (h.AB a ha)
  sh := ⟨by show r0.people.length ≤ _; have := h.room.p3; omega, by rw [finR_tl]; have := h.room.t4; omega, by show r0.seen.length ≤ _; rw [h.room.seen]; simp, by show r0.lapses.length ≤ _; have := h.room.ll; omega, by show acts.length ≤ _; have := h.len; omega⟩
  ck := made_check h hm
end
end Go.Gh
