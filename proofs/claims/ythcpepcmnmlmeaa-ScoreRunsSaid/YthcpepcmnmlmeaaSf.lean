/- A shuffled row of numbers. -/
import Derived.Test.YthcpepcmnmlmeaaSe
namespace Go.Gh
open Go.Proofs
set_option linter.unusedSimpArgs false
set_option linter.unusedVariables false
set_option maxRecDepth 100000
set_option maxHeartbeats 4000000
variable {c : Nat} {H : Heap}
@[simp] theorem wrap_1 : IntKind.i64.wrap 1 = 1 := by decide
@[simp] theorem wrap_2 : IntKind.i64.wrap 2 = 2 := by decide
def swapL (l : List Int) (i j : Nat) : List Int := ((l ++ [(i : Int)]).set i ((l ++ [(i : Int)]).getD j 0)).set j i
theorem swapL_len (l : List Int) (i j : Nat) : (swapL l i j).length = l.length + 1 := by simp [swapL]
noncomputable def orderR : Nat → Nat → List Int → Int → List Int × Int
  | 0, _, l, wd => (l, wd)
  | k + 1, i, l, wd => orderR k (i + 1) (swapL l i (upR wd (i + 1 : Nat)).1.toNat) (upR wd (i + 1 : Nat)).2
theorem set_perm (l : List Int) (j : Nat) (hj : j < l.length) (x : Int) : (l.set j x ++ [l[j]]).Perm (l ++ [x]) := by
  have e : l = l.take j ++ l[j] :: l.drop (j + 1) := by rw [← List.drop_eq_getElem_cons hj, List.take_append_drop]
  have e2 : l.set j x = l.take j ++ x :: l.drop (j + 1) := List.set_eq_take_append_cons_drop .. |>.trans (by simp [hj])
  rw [e2]
  conv => rhs; rw [e]
  simp only [List.append_assoc]
  refine List.Perm.append_left _ ?_
  simp only [List.cons_append]
  refine (List.Perm.cons x List.perm_append_comm).trans ?_
  simp only [List.singleton_append]
  refine (List.Perm.swap ..).trans ?_
  refine List.Perm.cons _ ?_
  exact (List.perm_append_comm (l₁ := [x]) (l₂ := l.drop (j + 1)))
theorem swapL_perm (l : List Int) (i j : Nat) (hl : l.length = i) (hj : j ≤ i) : (swapL l i j).Perm (l ++ [(i : Int)]) := by
  subst hl
  unfold swapL
  by_cases e : j = l.length
  · subst e; simp
  · have hj' : j < l.length := by omega
    have h1 : (l ++ [(l.length : Int)]).getD j 0 = l[j] := by simp [List.getD_eq_getElem?_getD, List.getElem?_append_left hj', hj']
    rw [h1]
    have h2 : (l ++ [(l.length : Int)]).set l.length l[j] = l ++ [l[j]] := by simp
    rw [h2]
    have h3 : (l ++ [l[j]]).set j (l.length : Int) = l.set j l.length ++ [l[j]] := by rw [List.set_append_left _ _ hj']
    rw [h3]
    exact set_perm l j hj' _
theorem orderR_perm : ∀ (k i : Nat) (l : List Int) (wd : Int), l.Perm ((List.range i).map Int.ofNat) → i + k ≤ 1000000 → (orderR k i l wd).1.Perm ((List.range (i + k)).map Int.ofNat)
  | 0, i, l, wd, h, _ => by simpa [orderR] using h
  | k + 1, i, l, wd, h, hk => by
    have hr := upR_rng wd ((i + 1 : Nat) : Int) (by omega)
    have hl : l.length = i := by simpa using h.length_eq
    have e : i + (k + 1) = i + 1 + k := by omega
    rw [orderR, e]
    refine orderR_perm k (i + 1) _ _ ((swapL_perm l i _ hl (by omega)).trans ?_) (by omega)
    rw [List.range_succ, List.map_append]
    exact h.append_right _
def ordF (l : List Int) : Fr := [(20, .arr 1 (l.map irow) l.length false)]
theorem order_loop {nm : Nm} (hlt : nm.1 < H.length) (n : Nat) (hn : n ≤ 1000000) (Q : GX → GSt → Prop) : ∀ (k i : Nat) (l : List Int) (wd : Int), i + k = n → l.length = i → 0 < i →
    Q (.exit 0) ⟨[(5, .hdr (H.length, 20) 1 (orderR k i l wd).1.length 0 (orderR k i l wd).1.length)], ordF (orderR k i l wd).1 :: H.set nm (wbox (orderR k i l wd).2), 36⟩ →
    WPL KC needT 44 (lp Try.f44 0) [0, 1, 5, 6] [5] Q
      [(0, .bptr nm 0), (1, .pure (.int .i64 n)), (5, .hdr (H.length, 20) 1 l.length 0 l.length), (6, .pure (.int .i64 i))] (ordF l :: H.set nm (wbox wd)) 36 := by
  have hB : ∀ w f0 f1, isBox (f0 :: f1 :: H.set nm (wbox w)) nm := fun w f0 f1 => isBox_up (isBox_up (isBox_set' hlt))
  have hne : ¬ nm.1 = H.length := by omega
  have hne2 : ¬ nm.1 = H.length + 1 := by omega
  have hle : nm.1 ≤ H.length := by omega
  intro k
  induction k with
  | zero =>
    intro i l wd hi hl h0 hq
    have : ¬ i < n := by omega
    apply WPL_step
    conv => arg 4; whnf
    simp [ordF, this, Heap.length_set]
    simpa [ordF, orderR] using hq
  | succ k ih =>
    intro i l wd hi hl h0 hq
    have hia : i < n := by omega
    have hw := w64 (x := (i : Int) + 1) (by omega) (by omega)
    have hr := upR_rng wd ((i + 1 : Nat) : Int) (by omega)
    obtain ⟨j, ej⟩ : ∃ j : Nat, (upR wd ((i + 1 : Nat) : Int)).1 = j := ⟨(upR wd ((i + 1 : Nat) : Int)).1.toNat, by omega⟩
    have ih' := ih (i + 1) (swapL l i j) (upR wd ((i + 1 : Nat) : Int)).2 (by omega) (by rw [swapL_len, hl]) (by omega)
    rw [orderR, ej, Int.toNat_natCast] at hq
    have ih'' := ih' hq
    have hji : j < l.length + 1 := by omega
    have ec : ((i + 1 : Nat) : Int) = (i : Int) + 1 := by omega
    rw [ec] at ej ih''
    have hb : (l.length + 1) * 8 ≤ 1099511627776 := by omega
    have hnb : (i : Int) + 1 ≤ 9223372036854775807 := by omega
    have hW : ∀ w f0 f1, wordAt (f0 :: f1 :: H.set nm (wbox w)) nm = w := fun w f0 f1 => by rw [wordAt_up (by simp [Heap.length_set]; omega), wordAt_up (by simpa [Heap.length_set] using hlt), wordAt_set hlt]
    subst hl
    obtain ⟨m, em⟩ : ∃ m, m = l ++ [(l.length : Int)] := ⟨_, rfl⟩
    have hm : m.length = l.length + 1 := by simp [em]
    have ra : List.map irow l ++ [[PV.int .i64 l.length]] = List.map irow m := by simp [em, irow]
    have hjm : j < m.length := by omega
    have him : l.length < m.length := by omega
    have hjI : (j : Int) < (l.length : Int) + 1 := by omega
    have hiI : (l.length : Int) < (l.length : Int) + 1 := by omega
    have gi : m[l.length] = (l.length : Int) := by simp [em]
    have sw : swapL l l.length j = (m.set l.length m[j]).set j l.length := by
      unfold swapL; rw [← em]; simp [List.getD_eq_getElem?_getD, hjm]
    rw [sw] at ih''
    have hgj : ((List.map irow m).set l.length [PV.int .i64 m[j]])[j]'(by simpa using hjm) = [PV.int .i64 m[j]] := by rw [List.getElem_set]; split <;> simp [irow]
    apply WPL_step
    conv => arg 4; whnf
    simp [ordF, hia, hw, Heap.length_set, up_ok, hB, hW, hnb, hlt, hne, hne2, Heap.set_up, ej, hb, hji, hjI, hiI, hle, ra, hm, irow, splice, gi, hgj]
    simpa [ordF, irow, hm] using ih''
noncomputable def orderV : Nat → Int → List Int × Int := hid fun n wd => orderR n 0 [] wd
theorem orderV_def (n : Nat) (wd : Int) : orderV n wd = orderR n 0 [] wd := by rw [orderV, hid_eq]
theorem orderV_perm {n : Nat} (wd : Int) (hn : n ≤ 1000000) : (orderV n wd).1.Perm ((List.range n).map Int.ofNat) := by
  rw [orderV_def]
  simpa using orderR_perm n 0 [] wd (by simp) (by omega)
theorem order_ok {nm : Nm} (hB : isBox H nm) {n : Nat} (h0 : 0 < n) (hn : n ≤ 1000000) :
    gcall KC (geval KC) 44 [.bptr nm 0, .pure (.int .i64 n)] c H = some (.pure (.slice ((orderV n (wordAt H nm)).1.map irow)), H.set nm (wbox (orderV n (wordAt H nm)).2)) := by
  have hlt := isBox_lt hB
  have hset := isBox_set hB
  have hne : ¬ nm.1 = H.length := by omega
  have hne2 : ¬ nm.1 = H.length + 1 := by omega
  have hle : nm.1 ≤ H.length := by omega
  have hB2 : ∀ f0 f1, isBox (f0 :: f1 :: H) nm := fun f0 f1 => isBox_up (isBox_up hB)
  have hW : ∀ f0 f1, wordAt (f0 :: f1 :: H) nm = wordAt H nm := fun f0 f1 => by rw [wordAt_up (by simp; omega), wordAt_up hlt]
  have hnl : ¬ H.length ≤ H.length - 1 := by omega
  refine WPv_eq (call_enter KC needT Try.func44 rfl rfl good44 rfl rfl rfl (by simp) (by omega) ?_)
  obtain ⟨k, rfl⟩ : ∃ k, n = k + 1 := ⟨n - 1, by omega⟩
  have hr := upR_rng (wordAt H nm) 1 (by omega)
  have ej : (upR (wordAt H nm) 1).1 = 0 := by omega
  have L := fun Q => order_loop (H := H) hlt (k + 1) hn Q k 1 [0] (upR (wordAt H nm) 1).2 (by omega) rfl (by omega)
  have hd := orderV_def (k + 1) (wordAt H nm)
  have e1 : orderR (k + 1) 0 [] (wordAt H nm) = orderR k 1 [0] (upR (wordAt H nm) 1).2 := by
    rw [orderR]; simp [ej, swapL]
  rw [e1] at hd
  have hk : (0 : Int) < (k : Int) + 1 := by omega
  simp [ordF] at L
  simp
  apply WPL_step
  conv => arg 4; whnf
  simp [hk, Heap.length_set, up_ok, hB2, hW, hlt, hne, hne2, Heap.set_up, ej, hle, irow, splice]
  simp [irow] at L
  refine L _ ?_
  have tk : ∀ l : List Int, List.take l.length (List.map irow l) = List.map irow l := fun l => List.take_of_length_le (by simp)
  simp [gleave_free, hd, Heap.length_set, hnl, tk]
end Go.Gh


/- Scorings, partitions, answers made of numbers. -/
namespace Go.Gh
open Go.Proofs
set_option linter.unusedSimpArgs false
set_option linter.unusedVariables false
set_option linter.unnecessarySimpa false
set_option maxRecDepth 100000
set_option maxHeartbeats 4000000
variable {c : Nat} {H : Heap}
theorem upR_get (w n : Int) (h : n ≤ 9223372036854775807) (h1 : 1 ≤ n) : ∃ (i : Nat) (w' : Int), upR w n = ((i : Int), w') ∧ (i : Int) < n := by
  have := upR_rng w n h
  refine ⟨(upR w n).1.toNat, (upR w n).2, ?_, ?_⟩
  · rw [Int.toNat_of_nonneg this.1]
  · omega
theorem box2 {nm : Nm} (hlt : nm.1 < H.length) (w : Int) (f0 f1 : Fr) : isBox (f0 :: f1 :: H.set nm (wbox w)) nm := isBox_up (isBox_up (isBox_set' hlt))
theorem box1 {nm : Nm} (hlt : nm.1 < H.length) (w : Int) (f1 : Fr) : isBox (f1 :: H.set nm (wbox w)) nm := isBox_up (isBox_set' hlt)
theorem word2 {nm : Nm} (hlt : nm.1 < H.length) (w : Int) (f0 f1 : Fr) : wordAt (f0 :: f1 :: H.set nm (wbox w)) nm = w := by
  rw [wordAt_up (by simp [Heap.length_set]; omega), wordAt_up (by simpa [Heap.length_set] using hlt), wordAt_set hlt]
theorem word1 {nm : Nm} (hlt : nm.1 < H.length) (w : Int) (f1 : Fr) : wordAt (f1 :: H.set nm (wbox w)) nm = w := by
  rw [wordAt_up (by simpa [Heap.length_set] using hlt), wordAt_set hlt]
theorem numL_chk : ∀ (l seen : List Int), seen.length + l.length ≤ 9 → chkL (numL l seen) seen.length = 0
  | [], _, _ => rfl
  | x :: r, seen, h => by
    have hp := posL_le x seen
    have hl := posL_lt x seen
    simp only [List.length_cons] at h
    simp only [numL, chkL]
    rw [if_neg (by omega), if_neg (by omega)]
    by_cases hm : x ∈ seen
    · rw [if_pos hm, if_neg (by have := hl.2 hm; omega)]
      exact numL_chk r seen (by omega)
    · have e := posL_no x seen hm
      rw [if_neg hm, if_pos (by rw [e])]
      have := numL_chk r (seen ++ [x]) (by simp; omega)
      simpa using this
theorem numL_part {l : List Int} (h1 : l ≠ []) (h2 : l.length ≤ 9) : PartOk (numL l []) := by
  have hc := numL_chk l [] (by simpa using h2)
  have hl := numL_len l []
  exact ⟨fun e => h1 (List.length_eq_zero_iff.1 (by rw [← hl, e]; rfl)), by rw [hl]; exact h2, chkL_rng _ _ hc, hc⟩
theorem OfR_at {F : Fr} {k : Nat} (l : List Int) (hn : l.length ≤ 1000000) (hk : l ≠ [] → ∃ v ro, v ≤ l.length ∧ F.get k = some (.arr 1 (l.map irow) v ro)) : ∃ F', gcall KC (geval KC) 73 [apS (H.length, k) 1 (l.map irow)] c (F :: H) = some (.pure (.tuple (ofT l)), F' :: H) := by
  have hp : ∀ F' : Fr, gcall0 KC (geval KC) 73 [.pure (.slice (l.map irow))] c (F' :: H) = some (.pure (.tuple (ofT l)), F' :: H) := fun F' => by
    have := OfR_ok (c := c) (H := F' :: H) l hn (by simp)
    rwa [gcall_frz' rfl rfl rfl] at this
  rw [gcall_frz' rfl rfl rfl]
  by_cases h : l = []
  · subst h
    refine ⟨F, ?_⟩
    have := hp F
    simp only [List.map_nil] at this
    rw [← this]
    exact gcall0_canon rfl
  · obtain ⟨v, ro, hv, hF⟩ := hk h
    refine ⟨F.ins k (.arr 1 (l.map irow) v true), ?_⟩
    have hr : List.take l.length (l.map irow) = l.map irow := List.take_of_length_le (by simp)
    have e : frzVals (F :: H) [apS (H.length, k) 1 (l.map irow)] = ([.pure (.slice (l.map irow))], F.ins k (.arr 1 (l.map irow) v true) :: H) := by
      have h' : l.map irow ≠ [] := by simpa using h
      unfold apS
      rw [if_neg h']
      simp [frzVals, frzVal, frzCell, hF, hv, hr]
    rw [e]
    exact hp _
theorem part_loop {nm : Nm} (hlt : nm.1 < H.length) (n k : Nat) (hn : n ≤ 9) (hk : k ≤ 9) (Q : GX → GSt → Prop) : ∀ (j i : Nat) (l : List Int) (wd : Int), i + j = n → l.length = i →
    (∀ (l' : List Int) (wd' : Int), l'.length = n → Q (.exit 0) ⟨[(5, apS (H.length, 23) 1 (l'.map irow))], apF 23 1 (l'.map irow) [] :: H.set nm (wbox wd'), 30⟩) →
    WPL KC needT 24 (lp Try.f24 0) [0, 1, 5, 6, 7] [5] Q [(0, .bptr nm 0), (1, .pure (.int .i64 (n : Nat))), (5, apS (H.length, 23) 1 (l.map irow)), (6, .pure (.int .i64 (k : Nat))), (7, .pure (.int .i64 (i : Nat)))] (apF 23 1 (l.map irow) [] :: H.set nm (wbox wd)) 30 := by
  have hne : ¬ nm.1 = H.length := by omega
  have hne2 : ¬ nm.1 = H.length + 1 := by omega
  have hle : nm.1 ≤ H.length := by omega
  have hB := fun w f0 f1 => box2 (H := H) hlt w f0 f1
  have hW := fun w f0 f1 => word2 (H := H) hlt w f0 f1
  have hl2 : ∀ w, (H.set nm (wbox w)).length = H.length := fun w => Heap.length_set _ _ _
  intro j
  induction j with
  | zero =>
    intro i l wd hi hl h1
    apply WPL_step
    conv => arg 4; whnf
    have : ¬ i < n := by omega
    simp [this, hl2]
    exact h1 l wd (by omega)
  | succ j ih =>
    intro i l wd hi hl h1
    have hin : i < n := by omega
    have hw := w64 (x := (i : Int) + 1) (by omega) (by omega)
    obtain ⟨u, w', eu⟩ : ∃ (u w' : Int), upR wd k = (u, w') := ⟨_, _, rfl⟩
    have ih' := ih (i + 1) (l ++ [u]) w' (by omega) (by simp [hl]) h1
    have hb : (l.length + 1) * 8 ≤ 1099511627776 := by omega
    have hk2 : (k : Int) ≤ 9223372036854775807 := by omega
    have A := fun f0 => apK_1 (H := H.set nm (wbox w')) (l := H.length) (key := 23) (es := 1) (bytes := 8) (rows := l.map irow) (r := irow u) (fr := []) (f0 := f0) (hl2 _) rfl (by simpa using hb)
    simp only [irow] at A
    apply WPL_step
    conv => arg 4; whnf
    simp [hin, hl2, up_ok, hB, hW, hk2, eu, hlt, hne, hne2, Heap.set_up, hle, A, hw, irow]
    simpa [irow] using ih'
theorem anyR_get (w : Int) (hi : Nat) (h : hi ≤ 1000000) (h1 : 1 ≤ hi) : ∃ (i : Nat) (w' : Int), anyR w 1 hi = ((i : Int), w') ∧ 1 ≤ i ∧ i ≤ hi := by
  have := anyR_rng w 1 hi (by omega) (by omega) (by omega)
  refine ⟨(anyR w 1 hi).1.toNat, (anyR w 1 hi).2, ?_, ?_, ?_⟩
  · rw [Int.toNat_of_nonneg (by omega)]
  · omega
  · omega
theorem part_ok {nm : Nm} (hB0 : isBox H nm) (n : Nat) (h1 : 1 ≤ n) (h9 : n ≤ 9) : ∃ p wd, PartOk p ∧ p.length = n ∧ gcall KC (geval KC) 24 [.bptr nm 0, .pure (.int .i64 (n : Nat))] c H = some (.pure (.slice (p.map irow)), H.set nm (wbox wd)) := by
  have hlt := isBox_lt hB0
  have hset := isBox_set hB0
  have hle : nm.1 ≤ H.length := by omega
  have hl2 : ∀ w, (H.set nm (wbox w)).length = H.length := fun w => Heap.length_set _ _ _
  suffices hs : WPv (gcall KC (geval KC) 24 [.bptr nm 0, .pure (.int .i64 (n : Nat))] c H) (fun x => ∃ p wd, PartOk p ∧ p.length = n ∧ x = (.pure (.slice (p.map irow)), H.set nm (wbox wd))) by
    obtain ⟨x, hx, p, wd, a, b, e⟩ := hs
    exact ⟨p, wd, a, b, by rw [hx, e]⟩
  refine call_enter KC needT Try.func24 rfl rfl good24 rfl rfl rfl (by simp) (by omega) ?_
  obtain ⟨k, w1, e1, k1, k9⟩ := anyR_get (wordAt H nm) n (by omega) h1
  have L := fun Q => part_loop (H := H) hlt n k h9 (by omega) Q n 0 [] w1 (by omega) rfl
  simp [apS_nil, apF_nil] at L
  simp [any_ok (isBox_up hB0), wordAt_up hlt, e1, Heap.set_up hlt, hle]
  refine L _ (fun l wd hl => ?_)
  have hl0 : l ≠ [] := fun e => by rw [e] at hl; simp at hl; omega
  obtain ⟨F', eO⟩ := OfR_at (c := 26) (F := apF 23 1 (l.map irow) []) (H := H.set nm (wbox wd)) (k := 23) l (by omega) (fun h => ⟨0, false, Nat.zero_le _, apF_self (by simpa using h)⟩)
  have eo : ofT l = [.slice ((numL l []).map irow), .int .i64 0] := by
    unfold ofT
    rw [if_neg (by omega), if_neg (by omega)]
  rw [hl2, eo] at eO
  simp [eO, gleave_free]
  exact ⟨numL l [], numL_part hl0 (by omega), by rw [numL_len]; exact hl, rfl, wd, rfl⟩
end Go.Gh


/- Answers and scorings made of numbers. -/
namespace Go.Gh
open Go.Proofs
set_option linter.unusedSimpArgs false
set_option linter.unusedVariables false
set_option linter.unnecessarySimpa false
set_option maxRecDepth 100000
set_option maxHeartbeats 4000000
variable {c : Nat} {H : Heap}
def AnsOk (a : List Int) : Prop := ∀ x ∈ a, -1 ≤ x ∧ x ≤ 8
theorem AnsOk.wr {a : List Int} (h : AnsOk a) {n : Nat} (hl : a.length = n) : wrF a n = 0 := by
  unfold wrF
  rw [if_neg (by omega)]
  clear hl
  induction a with
  | nil => rfl
  | cons x r ih =>
    have hx := h x (List.mem_cons_self ..)
    have e : ansE x = 0 := by unfold ansE; rw [if_pos (inB_iff.2 hx)]
    simp only [firstE, e]
    rw [if_neg (by simp)]
    exact ih fun y hy => h y (List.mem_cons_of_mem _ hy)
structure SOk (s : Scoring) : Prop where
  five : ∀ x ∈ s.five, 0 ≤ x ∧ x ≤ 20
  rng : ∀ x ∈ s.keys, 1 ≤ x ∧ x ≤ 6
  nd : s.keys.Nodup
  len : s.keys.length ≤ 4
def zsb : Blk := .box [.pure (.int .i64 0), .pure (.int .i64 0), .pure (.int .i64 0), .pure (.int .i64 0), .pure (.int .i64 0), .nils]
def sFr (L : Nat) (p q w n l : Int) (keys : List Int) : Fr := apF 42 1 (keys.map irow) [(2, zsb), (3, .box [.pure (.int .i64 p), .pure (.int .i64 q), .pure (.int .i64 w), .pure (.int .i64 n), .pure (.int .i64 l), apS (L, 42) 1 (keys.map irow)])]
theorem keyOf_loop (p q w n o : Int) (l : List Int) (hl : l.length = 6) (hr : ∀ x ∈ l, 0 ≤ x ∧ x ≤ 5) (hd : l.Nodup) (Q : GX → GSt → Prop) : ∀ (i : Nat) (keys : List Int), i ≤ 4 → keys.length + i ≤ 4 → keys.Nodup → (∀ x ∈ keys, ∃ j, ∃ h : j < l.length, i < j ∧ x = 1 + l[j]) →
    (∀ keys' : List Int, keys'.length ≤ 4 → keys'.Nodup → (∀ x ∈ keys', 1 ≤ x ∧ x ≤ 6) → Q (.exit 0) ⟨[(2, .bptr (H.length, 2) 0), (3, .bptr (H.length, 3) 0)], sFr H.length p q w n o keys' :: H, 45⟩) →
    WPL KC needT 16 (lp Try.f16 0) [2, 3, 4, 5] [2, 3] Q [(2, .bptr (H.length, 2) 0), (3, .bptr (H.length, 3) 0), (4, .pure (.slice (l.map irow))), (5, .pure (.int .i64 (i : Nat)))] (sFr H.length p q w n o keys :: H) 45 := by
  intro i
  induction i with
  | zero =>
    intro keys hi hkl hkd hk h1
    have h1' := h1 keys (by omega) hkd (fun x hx => by
      obtain ⟨j, hj, _, e⟩ := hk x hx
      have := hr _ (List.getElem_mem hj)
      omega)
    apply WPL_step
    conv => arg 4; whnf
    simp
    exact h1'
  | succ i ih =>
    intro keys hi hkl hkd hk h1
    have hil : i + 1 < l.length := by omega
    have ri := hr _ (List.getElem_mem hil)
    have hw := w64 (x := 1 + l[i + 1]) (by omega) (by omega)
    have e0 : ((i : Int) + 1) - 1 = i := by omega
    have hw2 := w64 (x := (i : Int) + 1 - 1) (by omega) (by omega)
    rw [e0] at hw2
    have hb : (keys.length + 1) * 8 ≤ 1099511627776 := by omega
    have ih' := ih (keys ++ [1 + l[i + 1]]) (by omega) (by simp; omega) (by
      rw [List.nodup_append]
      refine ⟨hkd, by simp, fun x hx y hy => ?_⟩
      simp at hy
      subst hy
      obtain ⟨j, hj, hij, e⟩ := hk x hx
      intro e2
      have := List.pairwise_iff_getElem.1 hd (i + 1) j hil hj hij
      omega) (fun x hx => by
      rcases List.mem_append.1 hx with h | h
      · obtain ⟨j, hj, hij, e⟩ := hk x h
        exact ⟨j, hj, by omega, e⟩
      · simp at h; subst h; exact ⟨i + 1, hil, by omega, rfl⟩) h1
    have A := fun f0 fr (hf : Fr.get fr 42 = none) => apK_1 (H := H) (l := H.length) (key := 42) (es := 1) (bytes := 8) (rows := keys.map irow) (r := irow (1 + l[i + 1])) (fr := fr) (f0 := f0) rfl hf (by simpa using hb)
    simp only [irow] at A
    have t1 : ((i : Int) + 1).toNat = i + 1 := by omega
    have hp0 : (0 : Int) < (i : Int) + 1 := by omega
    have hn0 : ¬ (i : Int) + 1 < 0 := by omega
    apply WPL_step
    conv => arg 4; whnf
    simp [sFr, hil, hp0, hn0, t1, e0, hw, hw2, A, irow, zsb]
    simpa [sFr, irow, zsb] using ih'
end Go.Gh


/- A scoring made of numbers: the whole. -/
namespace Go.Gh
open Go.Proofs
set_option linter.unusedSimpArgs false
set_option linter.unusedVariables false
set_option linter.unnecessarySimpa false
set_option maxRecDepth 100000
set_option maxHeartbeats 4000000
variable {c : Nat} {H : Heap}
section
variable {nm : Nm}
theorem up1 (hlt : nm.1 < H.length) (f0 : Fr) (w : Int) {n : Int} (hn : n ≤ 9223372036854775807) : gcall KC (geval KC) 32 [.bptr nm 0, .pure (.int .i64 n)] c (f0 :: H.set nm (wbox w)) = some (.pure (.int .i64 (upR w n).1), f0 :: H.set nm (wbox (upR w n).2)) := by
  have := up_ok (c := c) (box1 hlt w f0) hn
  rwa [word1 hlt, Heap.set_up (by rw [Heap.length_set]; exact hlt), Heap.set_set] at this
theorem any1 (hlt : nm.1 < H.length) (f0 : Fr) (w : Int) {lo hi : Int} : gcall KC (geval KC) 25 [.bptr nm 0, .pure (.int .i64 lo), .pure (.int .i64 hi)] c (f0 :: H.set nm (wbox w)) = some (.pure (.int .i64 (anyR w lo hi).1), f0 :: H.set nm (wbox (anyR w lo hi).2)) := by
  have := any_ok (c := c) (lo := lo) (hi := hi) (box1 hlt w f0)
  rwa [word1 hlt, Heap.set_up (by rw [Heap.length_set]; exact hlt), Heap.set_set] at this
theorem pick1 (hlt : nm.1 < H.length) (f0 : Fr) (w : Int) {l : List Int} (hn : l.length < 4611686018427387904) : gcall KC (geval KC) 56 [.bptr nm 0, .pure (.slice (l.map irow))] c (f0 :: H.set nm (wbox w)) = some (.pure (.int .i64 (pickR w l).1), f0 :: H.set nm (wbox (pickR w l).2)) := by
  have := pick_ok (c := c) (box1 hlt w f0) hn
  rwa [word1 hlt, Heap.set_up (by rw [Heap.length_set]; exact hlt), Heap.set_set] at this
theorem order1 (hlt : nm.1 < H.length) (f0 : Fr) (w : Int) {n : Nat} (h0 : 0 < n) (hn : n ≤ 1000000) : gcall KC (geval KC) 44 [.bptr nm 0, .pure (.int .i64 n)] c (f0 :: H.set nm (wbox w)) = some (.pure (.slice ((orderV n w).1.map irow)), f0 :: H.set nm (wbox (orderV n w).2)) := by
  have := order_ok (c := c) (box1 hlt w f0) h0 hn
  rwa [word1 hlt, Heap.set_up (by rw [Heap.length_set]; exact hlt), Heap.set_set] at this
end
theorem pick_rng (w u m : Int) (h0 : 0 ≤ u) (h9 : u ≤ m) : ∃ v w', pickR w [0, u] = (v, w') ∧ 0 ≤ v ∧ v ≤ m := by
  refine ⟨(pickR w [0, u]).1, (pickR w [0, u]).2, rfl, ?_⟩
  rw [pickR_def]
  have hr := upR_rng w 2 (by omega)
  simp only [List.length_cons, List.length_nil]
  rw [if_neg (by omega)]
  have : (upR w 2).1 = 0 ∨ (upR w 2).1 = 1 := by omega
  show 0 ≤ [0, u].getD (upR w 2).1.toNat 0 ∧ [0, u].getD (upR w 2).1.toNat 0 ≤ m
  rcases this with e | e <;> rw [e] <;> simp <;> omega
theorem scoring_ok0 {nm : Nm} (hlt : nm.1 < H.length) (w0 : Int) : ∃ s wd, SOk s ∧ gcall KC (geval KC) 16 [.bptr nm 0] c (H.set nm (wbox w0)) = some (.pure (.agg s.row), H.set nm (wbox wd)) := by
  have hle : nm.1 ≤ H.length := by omega
  have hl2 : ∀ w, (H.set nm (wbox w)).length = H.length := fun w => Heap.length_set _ _ _
  suffices hs : WPv (gcall KC (geval KC) 16 [.bptr nm 0] c (H.set nm (wbox w0))) (fun x => ∃ s wd, SOk s ∧ x = (.pure (.agg s.row), H.set nm (wbox wd))) by
    obtain ⟨x, hx, s, wd, h1, e⟩ := hs
    exact ⟨s, wd, h1, by rw [hx, e]⟩
  refine call_enter KC needT Try.func16 rfl rfl good16 rfl rfl rfl (by simp) (by rw [hl2]; omega) ?_
  obtain ⟨p, w1, e1, p5⟩ := upR_get w0 5 (by omega) (by omega)
  obtain ⟨q, w2, e2, q4⟩ := upR_get w1 4 (by omega) (by omega)
  obtain ⟨a1, w3, e3, a20⟩ := upR_get w2 20 (by omega) (by omega)
  obtain ⟨wh, w4, e4, wh0, wh9⟩ := pick_rng w3 a1 20 (by omega) (by omega)
  obtain ⟨a2, w5, e5, a6⟩ := upR_get w4 6 (by omega) (by omega)
  obtain ⟨nw, w6, e6, nw0, nw9⟩ := pick_rng w5 a2 20 (by omega) (by omega)
  obtain ⟨a3, w7, e7, a4⟩ := upR_get w6 4 (by omega) (by omega)
  obtain ⟨ls, w8, e8, ls0, ls9⟩ := pick_rng w7 a3 20 (by omega) (by omega)
  obtain ⟨l, w9, e9⟩ : ∃ l w9, orderV 6 w8 = (l, w9) := ⟨_, _, rfl⟩
  obtain ⟨i, w10, e10, i5⟩ := upR_get w9 5 (by omega) (by omega)
  have pm := orderV_perm (n := 6) w8 (by omega)
  rw [e9] at pm
  have hl6 : l.length = 6 := by simpa using pm.length_eq
  have hr : ∀ x ∈ l, 0 ≤ x ∧ x ≤ 5 := fun x hx => by
    have := pm.mem_iff.1 hx
    simp at this
    obtain ⟨k, hk, e⟩ := this
    omega
  have hd : l.Nodup := by
    rw [pm.nodup_iff]
    decide
  have U := fun c f0 w n hn => up1 (c := c) (H := H) hlt f0 w (n := n) hn
  have Pk := fun c f0 w (u : Int) => pick1 (c := c) (H := H) hlt f0 w (l := [0, u]) (by simp)
  have O := fun c f0 w => order1 (c := c) (H := H) hlt f0 w (n := 6) (by omega) (by omega)
  simp only [List.map_cons, List.map_nil, irow] at Pk
  have O6 : ∀ c f0 w, gcall KC (geval KC) 44 [.bptr nm 0, .pure (.int .i64 6)] c (f0 :: H.set nm (wbox w)) = some (.pure (.slice ((orderV 6 w).1.map irow)), f0 :: H.set nm (wbox (orderV 6 w).2)) := O
  have L := fun Q => keyOf_loop (H := H.set nm (wbox w10)) p q wh nw ls l hl6 hr hd Q i [] (by omega) (by simp; omega) (by simp) (fun x hx => absurd hx List.not_mem_nil)
  simp only [hl2, sFr, zsb, List.map_nil, apS_nil, apF_nil] at L
  simp [hle, hl2, U, e1, e2, e3, Pk, e4, e5, e6, e7, e8, O6, e9, e10]
  refine L _ (fun keys h1 h2 h3 => ?_)
  simp
  rw [gleave_free (by simp)]
  rw [WPv_some, hl2]
  refine ⟨⟨p, q, wh, nw, ls, keys⟩, ⟨fun x hx => ?_, h3, h2, h1⟩, w10, ?_⟩
  · simp only [Scoring.five, List.mem_cons, List.not_mem_nil, or_false] at hx
    rcases hx with rfl | rfl | rfl | rfl | rfl <;> omega
  · rw [clean_agg]
    simp only [List.map_cons, List.map_nil, clean1_pure]
    rw [clean1_apS (hl2 _) (by omega) (fun hne => apF_self hne)]
    by_cases hk : keys = []
    · subst hk; simp [Scoring.row]
    · have : keys.map irow ≠ [] := by simpa using hk
      rw [if_neg this]
      simp [Scoring.row]
theorem scoring_ok {nm : Nm} (hB : isBox H nm) : ∃ s wd, SOk s ∧ gcall KC (geval KC) 16 [.bptr nm 0] c H = some (.pure (.agg s.row), H.set nm (wbox wd)) := by
  obtain ⟨s, wd, h1, h2⟩ := scoring_ok0 (c := c) (isBox_lt hB) (wordAt H nm)
  rw [isBox_set hB] at h2
  exact ⟨s, wd, h1, h2⟩
end Go.Gh


/- Plain: the parts of a score agree with what the answer says. -/
namespace Go.Gh
open Go.Proofs
set_option linter.unusedSimpArgs false
set_option linter.unusedVariables false
set_option linter.unnecessarySimpa false
set_option maxRecDepth 100000
set_option maxHeartbeats 4000000
end Go.Gh


/- Plain: a score does not hang on the names (numbers) of an answer. -/
namespace Go.Gh
open Go.Proofs
set_option linter.unusedSimpArgs false
set_option linter.unusedVariables false
set_option linter.unnecessarySimpa false
set_option maxRecDepth 100000
set_option maxHeartbeats 4000000
section
variable {f : Int → Int} {a t : List Int} {i k : Nat}
end
theorem posL_map {f : Int → Int} (x : Int) : ∀ (l : List Int), (∀ y ∈ l, f x = f y → x = y) → posL (f x) (l.map f) = posL x l
  | [], _ => rfl
  | y :: l, h => by
    simp only [List.map_cons, posL]
    rw [posL_map x l fun z hz => h z (List.mem_cons_of_mem _ hz)]
    by_cases e : x = y
    · simp [e]
    · rw [if_neg (fun e2 => e (h y (List.mem_cons_self ..) e2)), if_neg e]
theorem numL_map {f : Int → Int} : ∀ (l seen : List Int), (∀ x, x ∈ l ∨ x ∈ seen → ∀ y, y ∈ l ∨ y ∈ seen → f x = f y → x = y) → numL (l.map f) (seen.map f) = numL l seen
  | [], _, _ => rfl
  | x :: l, seen, h => by
    simp only [List.map_cons, numL]
    have hx : x ∈ x :: l ∨ x ∈ seen := Or.inl (List.mem_cons_self ..)
    rw [posL_map x seen fun y hy => h x hx y (Or.inr hy)]
    have em : (f x ∈ seen.map f) ↔ x ∈ seen := by
      rw [List.mem_map]
      constructor
      · rintro ⟨y, hy, e⟩
        rw [h x hx y (Or.inr hy) e.symm]; exact hy
      · intro hm; exact ⟨x, hm, rfl⟩
    by_cases hm : x ∈ seen
    · rw [if_pos hm, if_pos (em.2 hm)]
      rw [numL_map l seen fun a ha b hb => h a (ha.imp (List.mem_cons_of_mem _) id) b (hb.imp (List.mem_cons_of_mem _) id)]
    · rw [if_neg hm, if_neg (fun e => hm (em.1 e))]
      have : seen.map f ++ [f x] = (seen ++ [x]).map f := by simp
      rw [this]
      have hh : ∀ a, a ∈ l ∨ a ∈ seen ++ [x] → a ∈ x :: l ∨ a ∈ seen := by
        intro a ha
        rcases ha with ha | ha
        · exact Or.inl (List.mem_cons_of_mem _ ha)
        · rcases List.mem_append.1 ha with ha | ha
          · exact Or.inr ha
          · rw [List.mem_singleton.1 ha]; exact hx
      rw [numL_map l (seen ++ [x]) fun a ha b hb => h a (hh a ha) b (hh b hb)]
end Go.Gh


/- Plain: the truth scores most; whoever finds all has found it. -/
namespace Go.Gh
open Go.Proofs
set_option linter.unusedSimpArgs false
set_option linter.unusedVariables false
set_option linter.unnecessarySimpa false
set_option maxRecDepth 100000
set_option maxHeartbeats 4000000
def cntG (g : Int → Option Int) : List Int → List Int → Nat
  | p :: a, q :: b => (if g p = some q then 1 else 0) + cntG g a b
  | _, _ => 0
theorem cntG_none : ∀ a b, cntG (fun _ => none) a b = 0
  | [], _ => rfl
  | _ :: _, [] => rfl
  | p :: a, q :: b => by simp [cntG, cntG_none a b]
theorem cntG_upd {g : Int → Option Int} {x y : Int} (h : g x = none) : ∀ a b, cntG (fun u => if u = x then some y else g u) a b = comL x y a b + cntG g a b
  | [], _ => rfl
  | _ :: _, [] => rfl
  | p :: a, q :: b => by
    simp only [cntG, comL, cntG_upd h a b]
    by_cases e : p = x
    · subst e
      by_cases e2 : q = y
      · subst e2; simp [h]; omega
      · have : ¬ y = q := fun h => e2 h.symm
        simp [h, e2, this]
    · simp [e]; omega
theorem cntG_le (g : Int → Option Int) : ∀ a b : List Int, cntG g a b ≤ a.length
  | [], _ => Nat.le_refl _
  | _ :: _, [] => Nat.zero_le _
  | p :: a, q :: b => by
    have := cntG_le g a b
    simp only [cntG, List.length_cons]
    split <;> omega
theorem cntG_full {g : Int → Option Int} : ∀ {a b : List Int}, a.length = b.length → cntG g a b = a.length → ∀ i, i < a.length → g (a.getD i 0) = some (b.getD i 0)
  | [], _, _, _, i, h => by simp at h
  | p :: a, [], hl, _, i, h => by simp at hl
  | p :: a, q :: b, hl, hc, i, h => by
    have := cntG_le g a b
    simp only [cntG, List.length_cons] at hc
    by_cases e : g p = some q
    · rw [if_pos e] at hc
      cases i with
      | zero => simpa using e
      | succ i =>
        have := cntG_full (g := g) (a := a) (b := b) (by simpa using hl) (by omega) i (by simpa using h)
        simpa using this
    · rw [if_neg e] at hc; omega
theorem stG_src {a b : List Int} {com : Nat → Nat → Nat} (hc : ∀ x y : Nat, com x y = comL x y a b) {A : Nat} : ∀ (k : Nat) (T : List Bool), k ≤ A →
    ∃ g : Int → Option Int, (∀ x y, g x = some y → ∃ m j : Nat, x = m ∧ y = j ∧ A - k ≤ m ∧ T.getD j false = false) ∧ (∀ x x' y, g x = some y → g x' = some y → x = x') ∧ stG com A k T = cntG g a b
  | 0, T, _ => ⟨fun _ => none, fun _ _ h => by simp at h, fun _ _ _ h => by simp at h, by rw [cntG_none]; rfl⟩
  | k + 1, T, hk => by
    simp only [stG]
    rcases stepY_at (com := com (A - (k + 1))) (rec := stG com A k) (T := T) T.length 0 (stG com A k T) with e | ⟨y', _, hy, hf, e⟩
    · obtain ⟨g, g1, g2, g3⟩ := stG_src hc (A := A) k T (by omega)
      refine ⟨g, fun x y h => ?_, g2, by rw [e, g3]⟩
      obtain ⟨m, j, h1, h2, h3, h4⟩ := g1 x y h
      exact ⟨m, j, h1, h2, by omega, h4⟩
    · obtain ⟨g, g1, g2, g3⟩ := stG_src hc (A := A) k (T.set y' true) (by omega)
      have hn : g ((A - (k + 1) : Nat) : Int) = none := by
        cases hg : g ((A - (k + 1) : Nat) : Int) with
        | none => rfl
        | some y =>
          obtain ⟨m, j, h1, _, h3, _⟩ := g1 _ _ hg
          have : A - (k + 1) = m := by omega
          omega
      have hy' : y' < T.length := by omega
      have gone : ∀ x, g x = some (y' : Int) → False := fun x h => by
        obtain ⟨m, j, _, h2, _, h4⟩ := g1 _ _ h
        have : y' = j := by omega
        subst this
        rw [getD_setL _ _ _ _ _ hy', if_pos rfl] at h4
        cases h4
      refine ⟨fun u => if u = ((A - (k + 1) : Nat) : Int) then some (y' : Int) else g u, fun x y h => ?_, fun x x' y h h' => ?_, by rw [e, g3, cntG_upd hn, hc]⟩
      · by_cases hx : x = ((A - (k + 1) : Nat) : Int)
        · simp only [if_pos hx, Option.some.injEq] at h
          exact ⟨A - (k + 1), y', hx, h.symm, Nat.le_refl _, hf⟩
        · simp only [if_neg hx] at h
          obtain ⟨m, j, h1, h2, h3, h4⟩ := g1 x y h
          rw [getD_setL _ _ _ _ _ hy'] at h4
          split at h4
          · cases h4
          · exact ⟨m, j, h1, h2, by omega, h4⟩
      · by_cases hx : x = ((A - (k + 1) : Nat) : Int) <;> by_cases hx' : x' = ((A - (k + 1) : Nat) : Int)
        · rw [hx, hx']
        · simp only [if_pos hx, if_neg hx', Option.some.injEq] at h h'
          rw [← h] at h'; exact (gone _ h').elim
        · simp only [if_pos hx', if_neg hx, Option.some.injEq] at h h'
          rw [← h'] at h; exact (gone _ h).elim
        · simp only [if_neg hx, if_neg hx'] at h h'
          exact g2 x x' y h h'
/-- What is left when as much as can stay stays. -/
theorem movV_src {a b : List Int} (hl : a.length = b.length) : 0 ≤ movV a b ∧ movV a b ≤ a.length ∧ (movV a b = 0 → ∀ i j, i < a.length → j < a.length → eqB a i j = eqB b i j) := by
  obtain ⟨g, g1, g2, g3⟩ := stG_src (a := a) (b := b) (com := fun x y => comL x y a b) (fun _ _ => rfl) (A := (blkF a).toNat) (blkF a).toNat (List.replicate (blkF b).toNat false) (Nat.le_refl _)
  unfold movV
  rw [g3]
  have := cntG_le g a b
  refine ⟨by omega, by omega, fun h i j hi hj => ?_⟩
  have hf := cntG_full hl (g := g) (by omega)
  have e1 := hf i hi
  have e2 := hf j hj
  unfold eqB
  rw [Bool.eq_iff_iff, beq_iff_eq, beq_iff_eq]
  constructor
  · intro e
    rw [e, e2] at e1
    exact (Option.some.inj e1).symm
  · intro e
    rw [e] at e1
    exact g2 _ _ _ e1 e2
end Go.Gh


/- Copies of lists; lists that are equal. -/
namespace Go.Gh
open Go.Proofs
set_option linter.unusedSimpArgs false
set_option linter.unusedVariables false
set_option linter.unnecessarySimpa false
set_option maxRecDepth 100000
set_option maxHeartbeats 4000000
variable {c : Nat} {H : Heap}
theorem apK_from {l key es bytes : Nat} {rows : List (List PV)} {fr : Fr} (hl : H.length = l) (hf : fr.get key = none) (hb : rows.length * bytes ≤ 1099511627776) :
    apK l key .nils es bytes rows (fr :: H) = some (apS (l, key) es rows, apF key es rows fr :: H) := by
  subst hl
  unfold apS apF
  by_cases h : rows = []
  · subst h; simp
  · have : ¬ H.length + 1 ≤ H.length := by omega
    simp [h, hf, hb, this]
theorem ints_ok (l : List Int) (hn : l.length ≤ 1000000) (hH : 0 < H.length) : gcall KC (geval KC) 27 [.pure (.slice (l.map irow))] c H = some (.pure (.slice (l.map irow)), H) := by
  refine WPv_eq (call_enter KC needT Try.func27 rfl rfl good27 rfl rfl rfl (by simp) hH ?_)
  have hb : l.length * 8 ≤ 1099511627776 := by omega
  have A := apK_from (H := H) (l := H.length) (key := 5) (es := 1) (bytes := 8) (rows := l.map irow) (fr := []) rfl rfl (by simpa using hb)
  have hall : ∀ x : Int, (irow x).length = 1 := fun x => rfl
  simp [A, hall]
  rw [gleave_free]
  · rw [WPv_some, cc_apS rfl (by omega)]
  · simp
theorem eqI_loop (l : List Int) (hn : l.length ≤ 1000000) (Q : GX → GSt → Prop) (hH : 0 < H.length) : ∀ k i : Nat, i + k = l.length →
    Q (.exit 0) ⟨[(4, gdead)], H, 26⟩ →
    WPL KC needT 21 (lp Try.f21 0) [0, 1, 5] [4] Q [(0, .pure (.slice (l.map irow))), (1, .pure (.slice (l.map irow))), (5, .pure (.int .i64 i))] H 26 := by
  intro k
  induction k with
  | zero =>
    intro i hi h1
    apply WPL_step
    conv => arg 4; whnf
    have : ¬ i < l.length := by omega
    simp [this, hH]
    exact h1
  | succ k ih =>
    intro i hi h1
    have hia : i < l.length := by omega
    have hw := w64 (x := (i : Int) + 1) (by omega) (by omega)
    have ih' := ih (i + 1) (by omega) h1
    apply WPL_step
    conv => arg 4; whnf
    simp [hia, hH, irow, hw]
    simpa [irow] using ih'
theorem eqI_ok (l : List Int) (hn : l.length ≤ 1000000) (hH : 0 < H.length) :
    gcall KC (geval KC) 21 [.pure (.slice (l.map irow)), .pure (.slice (l.map irow))] c H = some (.pure (.bool true), H) := by
  refine WPv_eq (call_enter KC needT Try.func21 rfl rfl good21 rfl rfl rfl (by simp) hH ?_)
  simp
  refine eqI_loop (H := [] :: H) l hn _ (by simp) l.length 0 (by omega) ?_
  simp [gleave_free]
end Go.Gh


/- Plain: the truth's own score; no answer scores more. -/
namespace Go.Gh
open Go.Proofs
set_option linter.unusedSimpArgs false
set_option linter.unusedVariables false
set_option linter.unnecessarySimpa false
set_option maxRecDepth 100000
set_option maxHeartbeats 4000000
theorem posL_app {x : Int} (ys : List Int) : ∀ {l : List Int}, x ∈ l → posL x (l ++ ys) = posL x l
  | y :: l, h => by
    simp only [List.cons_append, posL]
    by_cases e : x = y
    · rw [if_pos e, if_pos e]
    · rw [if_neg e, if_neg e, posL_app ys ((List.mem_cons.1 h).resolve_left e)]
def rngL (m : Nat) : List Int := (List.range m).map Int.ofNat
theorem rngL_succ (m : Nat) : rngL (m + 1) = rngL m ++ [(m : Int)] := by simp [rngL, List.range_succ]
theorem rngL_mem {m : Nat} {x : Int} : x ∈ rngL m ↔ 0 ≤ x ∧ x < m := by
  unfold rngL
  rw [List.mem_map]
  constructor
  · rintro ⟨n, hn, rfl⟩
    rw [List.mem_range] at hn
    show (0 : Int) ≤ (n : Int) ∧ (n : Int) < m
    omega
  · intro h
    exact ⟨x.toNat, by rw [List.mem_range]; omega, by show ((x.toNat : Nat) : Int) = x; omega⟩
theorem rngL_len (m : Nat) : (rngL m).length = m := by simp [rngL]
theorem posL_rng : ∀ (m : Nat) {x : Int}, 0 ≤ x → x < m → (posL x (rngL m) : Int) = x
  | 0, x, h0, h => by omega
  | m + 1, x, h0, h => by
    rw [rngL_succ]
    by_cases e : x < m
    · rw [posL_app _ (rngL_mem.2 ⟨h0, e⟩)]
      exact posL_rng m h0 e
    · have hx : x = m := by omega
      have hn : x ∉ rngL m := fun h => e (rngL_mem.1 h).2
      obtain ⟨E, hE⟩ : ∃ E, rngL m = E := ⟨_, rfl⟩
      have hl := rngL_len m
      rw [hE] at hn hl ⊢
      have : posL x (E ++ [(m : Int)]) = E.length := by
        clear hE hl
        induction E with
        | nil => simp [posL, hx]
        | cons y r ih =>
          have h1 : x ≠ y := fun e => hn (by simp [e])
          have h2 : x ∉ r := fun e => hn (by simp [e])
          simp only [List.cons_append, posL, if_neg h1, ih h2, List.length_cons]
      rw [this]; omega
theorem numL_rng : ∀ (l : List Int) (m : Nat), chkL l m = 0 → numL l (rngL m) = l
  | [], _, _ => rfl
  | x :: l, m, h => by
    simp only [chkL] at h
    split at h
    · cases h
    · rename_i h1
      split at h
      · cases h
      · rename_i h2
        simp only [numL]
        by_cases e : x = m
        · have hn : x ∉ rngL m := fun h => by have := (rngL_mem.1 h).2; omega
          rw [if_pos e] at h
          have e1 : rngL m ++ [x] = rngL (m + 1) := by rw [rngL_succ, e]
          rw [if_neg hn, posL_no _ _ hn, rngL_len, e1, numL_rng l (m + 1) (by simpa using h), e]
        · have hm : x ∈ rngL m := rngL_mem.2 ⟨by omega, by omega⟩
          rw [if_neg e] at h
          rw [if_pos hm, posL_rng m (by omega) (by omega), numL_rng l m h]
theorem numL_self {p : List Int} (h : PartOk p) : numL p [] = p := numL_rng p 0 h.ck
/-- Lists that are equal in the same places. -/
theorem ren_of {a p : List Int} (hl : a.length = p.length) (hp : ∀ i j, i < a.length → j < a.length → eqB a i j = eqB p i j) : ∃ f : Int → Int, a.map f = p ∧ (∀ x ∈ a, ∀ y ∈ a, f x = f y → x = y) := by
  have hex : ∀ x ∈ a, ∃ i, i < a.length ∧ a.getD i 0 = x := fun x hx => by
    obtain ⟨i, hi, e⟩ := List.getElem_of_mem hx
    exact ⟨i, hi, by rw [getD_lt hi]; exact e⟩
  have hf : ∃ f : Int → Int, ∀ x ∈ a, ∃ i, i < a.length ∧ a.getD i 0 = x ∧ f x = p.getD i 0 := by
    classical
    refine ⟨fun x => if h : ∃ i, i < a.length ∧ a.getD i 0 = x then p.getD h.choose 0 else 0, fun x hx => ?_⟩
    have h := hex x hx
    exact ⟨h.choose, h.choose_spec.1, h.choose_spec.2, by simp only [dif_pos h]⟩
  obtain ⟨f, hf⟩ := hf
  refine ⟨f, List.ext_getElem (by simpa using hl) fun i h1 h2 => ?_, fun x hx y hy e => ?_⟩
  · have h1 : i < a.length := by simpa using h1
    obtain ⟨j, hj, e1, e2⟩ := hf a[i] (List.getElem_mem h1)
    have := hp i j h1 hj
    unfold eqB at this
    rw [Bool.eq_iff_iff, beq_iff_eq, beq_iff_eq] at this
    have := this.1 (by rw [e1, getD_lt h1])
    rw [List.getElem_map, e2, ← this, getD_lt h2]
  · obtain ⟨i, hi, e1, e2⟩ := hf x hx
    obtain ⟨j, hj, e3, e4⟩ := hf y hy
    have := hp i j hi hj
    unfold eqB at this
    rw [Bool.eq_iff_iff, beq_iff_eq, beq_iff_eq] at this
    rw [← e1, ← e3]
    exact this.2 (by rw [← e2, ← e4, e])
/-- Same pattern, same numbering. -/
theorem numL_eq {a p : List Int} (hl : a.length = p.length) (hp : ∀ i j, i < a.length → j < a.length → eqB a i j = eqB p i j) : numL a [] = numL p [] := by
  obtain ⟨f, e, hi⟩ := ren_of hl hp
  rw [← e]
  exact (numL_map a [] fun x hx y hy => hi x (by simpa using hx) y (by simpa using hy)).symm
theorem both_part {q p : List Int} (hq : PartOk q) (hp : PartOk p) (hl : q.length = p.length) : bothE q p = 0 := by
  unfold bothE
  rw [if_neg (by simp [hq.zero]), if_neg (by simp [hp.zero]), if_neg (by omega)]
theorem hon_rng {a p : List Int} (hp : PartOk p) (hl : a.length = p.length) : honF p a ≤ 3 ∧ (honF p a = 3 → a.contains (-1) = false ∧ numL a [] = p) := by
  have ha : a ≠ [] := fun e => hp.ne (List.length_eq_zero_iff.1 (by rw [← hl, e]; rfl))
  have h9 := hp.le
  have hq := numL_part ha (by omega)
  have hql : (numL a []).length = p.length := by rw [numL_len]; exact hl
  have hm : movN (numL a []) p = movV (numL a []) p := by unfold movN; rw [if_neg (by simp [both_part hq hp hql])]
  obtain ⟨m1, m2, m3⟩ := movV_src hql
  unfold honF
  rw [hm]
  by_cases hc : a.contains (-1) = true
  · rw [if_pos hc]; exact ⟨by omega, fun h => by omega⟩
  · rw [if_neg hc]
    have hw := w64 (x := 3 - movV (numL a []) p) (by omega) (by omega)
    have hW : W (3 - movV (numL a []) p) = 3 - movV (numL a []) p := hw
    rw [hW]
    by_cases g : 0 < 3 - movV (numL a []) p
    · rw [if_pos g]
      refine ⟨by omega, fun h => ⟨by simpa using hc, ?_⟩⟩
      have := numL_eq hql (m3 (by omega))
      rw [numL_self hq, numL_self hp] at this
      exact this
    · rw [if_neg g]; exact ⟨by omega, fun h => by omega⟩
end Go.Gh


/- The truth's score against another: fields; Has. -/
namespace Go.Gh
open Go.Proofs
set_option linter.unusedSimpArgs false
set_option linter.unusedVariables false
set_option linter.unnecessarySimpa false
set_option maxRecDepth 100000
set_option maxHeartbeats 4000000
variable {c : Nat} {H : Heap}
end Go.Gh
