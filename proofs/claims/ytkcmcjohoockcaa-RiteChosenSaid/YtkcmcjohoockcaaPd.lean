/- Rites with marked acts: valid; what is chosen of them. -/
import Derived.Test.YtkcmcjohoockcaaRk
import Derived.Test.YtkcmcjohoockcaaPc
namespace Go.Gh
open Go.Proofs
set_option linter.unusedSimpArgs false
set_option linter.unusedVariables false
set_option maxRecDepth 100000
def MarkOk (x : RAct) : Prop := 0 ≤ x.seasons ∧ x.seasons ≤ 15 ∧ 0 ≤ x.rank ∧ x.rank ≤ 9
theorem room_of_check {r : Rite} (h : checkF r = 0) : roomF r = 0 := by
  rw [checkF_def] at h
  by_cases e : roomF r = 0
  · exact e
  · rw [if_pos e] at h; exact h
theorem roomF_acts (r : Rite) (l : List RAct) : roomF { r with acts := l } = roomF r := by rw [roomF_def, roomF_def]
theorem fieldsF_bare (t nt np : Int) (x : RAct) : fieldsF t nt np (bare x) = fieldsF t nt np x := by rw [fieldsF_def, fieldsF_def]; rfl
section
variable {r0 : Rite} {acts : List RAct} {s : Scene} {m : Nat}
theorem RiteB.pw (h : RiteB r0 acts s m) : acts.Pairwise fun a b => a.at' ≤ b.at' ∧ (a.at' = b.at' → a.who ≠ b.who) := by
  obtain ⟨t, hM, _⟩ := h.made
  obtain ⟨gs, e, hT, hP⟩ := hM.gs
  have := acts_pw hT hP
  rwa [← e] at this
theorem RiteB.z (h : RiteB r0 acts s m) : ∀ a ∈ acts, 0 ≤ a.at' ∧ a.at' < 2 + m ∧ a.seasons = 0 ∧ a.rank = 0 := fun a ha => by
  obtain ⟨t, hM, ht⟩ := h.made
  have := hM.z a ha
  have := hM.lt a ha
  omega
theorem RiteB.bare (h : RiteB r0 acts s m) : ∀ a ∈ acts, Go.Gh.bare a = a := fun a ha => by
  obtain ⟨_, _, h1, h2⟩ := h.z a ha
  cases a
  simp only at h1 h2
  subst h1 h2
  rfl
theorem markCheck (h : RiteB r0 acts s m) (hm : m ≤ 40) (l : List RAct) (ln : l.length ≤ 40) (hpw : l.Pairwise fun a b => a.at' ≤ b.at' ∧ (a.at' = b.at' → a.who ≠ b.who)) (hl : ∀ x ∈ l, Go.Gh.bare x ∈ acts ∧ MarkOk x) : checkF { finR r0 acts s with acts := l } = 0 := by
  have R := room_of_check (made_check h hm)
  have A := h.area
  have ar1 : 1 ≤ (finR r0 acts s).wide * (finR r0 acts s).deep := A.1
  rw [checkF_def, roomF_acts, R, if_neg (by simp), if_neg (show ¬ 40 < l.length by omega)]
  refine firstI_all fun j _ hj => ?_
  have hj' : j < l.length := by have : ({ finR r0 acts s with acts := l } : Rite).acts.length = l.length := rfl; omega
  obtain ⟨hmem, k1, k2, k3, k4⟩ := hl _ (List.getElem_mem hj')
  have hA := h.AB _ hmem
  have hz := h.z _ hmem
  have hF := fields_ok (finR_AB (acts := acts) (s := s) hA) ar1 (by show r0.wide * r0.deep ≤ _; omega)
  rw [fieldsF_bare] at hF
  have hwl := hA.wl
  have hwho : l[j].who = (l[j].who.toNat : Int) := hA.who
  have hat1 : 0 ≤ l[j].at' := hz.1
  have hat2 : l[j].at' < 2 + m := hz.2.1
  have hwl' : l[j].who.toNat < r0.people.length := hwl
  rw [actF_def]
  show (if inB (l.getD j act0).at' 0 1000 = false then (2 : Int) else if 0 < j ∧ (l.getD j act0).at' < (l.getD (j - 1) act0).at' then 11 else if inB (l.getD j act0).who 0 ((r0.people.length : Int) - 1) = false then 7 else if (l.take j).any (samePM (l.getD j act0)) = true then 12 else if fieldsF (topC (finR r0 acts s).wide (finR r0 acts s).deep) (finR r0 acts s).things.length (finR r0 acts s).people.length (l.getD j act0) ≠ 0 then fieldsF (topC (finR r0 acts s).wide (finR r0 acts s).deep) (finR r0 acts s).things.length (finR r0 acts s).people.length (l.getD j act0) else if inB (l.getD j act0).seasons 0 15 = false ∨ inB (l.getD j act0).rank 0 9 = false then 2 else 0) = 0
  rw [getD_lt hj', inB_true hat1 (by omega), inB_true (x := l[j].who) (by omega) (by omega), hF, inB_true k1 k2, inB_true k3 k4]
  simp only [Bool.true_eq_false, if_false]
  rw [if_neg, if_neg]
  · simp
  · intro hs
    rw [List.any_eq_true] at hs
    obtain ⟨q, hq, he⟩ := hs
    obtain ⟨i, hi, rfl⟩ := List.mem_take_iff_getElem.1 hq
    have hil : i < l.length := by omega
    have := List.pairwise_iff_getElem.1 hpw i j hil hj' (by omega)
    unfold samePM at he
    simp at he
    exact this.2 he.1 he.2
  · rintro ⟨h0, hle⟩
    rw [getD_lt (by omega)] at hle
    have := (List.pairwise_iff_getElem.1 hpw (j - 1) j (by omega) hj' (by omega)).1
    omega
theorem pw_bare {l : List RAct} (h : (l.map Go.Gh.bare).Pairwise fun a b => a.at' ≤ b.at' ∧ (a.at' = b.at' → a.who ≠ b.who)) : l.Pairwise fun a b => a.at' ≤ b.at' ∧ (a.at' = b.at' → a.who ≠ b.who) := by
  rw [List.pairwise_map] at h
  exact h
/-- Marked acts. -/
theorem check_marked (h : RiteB r0 acts s m) (hm : m ≤ 40) (l : List RAct) (hb : l.map Go.Gh.bare = acts) (hk : ∀ x ∈ l, MarkOk x) : checkF { finR r0 acts s with acts := l } = 0 := by
  have hlen : l.length = acts.length := by rw [← hb, List.length_map]
  have := h.len
  refine markCheck h hm l (by omega) (pw_bare (by rw [hb]; exact h.pw)) fun x hx => ⟨?_, hk x hx⟩
  rw [← hb]
  exact List.mem_map_of_mem hx
/-- What is chosen of them. -/
theorem check_chosen (h : RiteB r0 acts s m) (hm : m ≤ 40) (l : List RAct) (hb : l.map Go.Gh.bare = acts) (kk : Nat) (n : Int) : checkF { finR r0 acts s with acts := chosenL kk n l } = 0 := by
  have hs : (chosenL kk n l).Sublist acts := by
    rw [← hb]
    unfold chosenL
    exact (List.filter_sublist (l := l)).map _
  have := h.len
  have := hs.length_le
  refine markCheck h hm _ (by omega) (h.pw.sublist hs) fun x hx => ?_
  have hx' := hs.subset hx
  rw [h.bare x hx']
  obtain ⟨_, _, z1, z2⟩ := h.z x hx'
  exact ⟨hx', by omega, by omega, by omega, by omega⟩
theorem chosen_sub (l : List RAct) (kk : Nat) (n : Int) (hb : l.map Go.Gh.bare = acts) : ∀ x ∈ chosenL kk n l, x ∈ acts := fun x hx => by
  rw [← hb]
  unfold chosenL at hx
  obtain ⟨y, hy, rfl⟩ := List.mem_map.1 hx
  exact List.mem_map_of_mem (List.mem_filter.1 hy).1
/-- Acts without marks are chosen whole. -/
theorem chosen_bare (kk : Nat) (n : Int) (hn : 0 ≤ n) : ∀ l : List RAct, (∀ x ∈ l, x.seasons = 0 ∧ x.rank = 0) → chosenL kk n l = l
  | [], _ => rfl
  | x :: l, h => by
    obtain ⟨h1, h2⟩ := h x (List.mem_cons_self ..)
    have hp : passV kk n x = true := by rw [passV_def, h1, h2]; simp [hn]
    rw [chosen_cons, if_pos hp, chosen_bare kk n hn l fun y hy => h y (List.mem_cons_of_mem _ hy)]
    cases x
    simp only at h1 h2
    subst h1 h2
    rfl
end
theorem chosen_append (kk : Nat) (n : Int) (a b : List RAct) : chosenL kk n (a ++ b) = chosenL kk n a ++ chosenL kk n b := by
  unfold chosenL
  rw [List.filter_append, List.map_append]
theorem seas0 : ∀ s < 16, ∀ k < 4, (band .i64 (Int.fdiv (s : Nat) (2 ^ (min k 64))) 1 == 1) = (Int.tmod (Int.tdiv (s : Nat) (2 ^ k)) 2 == 1) := by decide
end Go.Gh
