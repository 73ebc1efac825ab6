/- A rite that is made: what holds all along. -/
import Derived.Test.YtkcmcjohoockcaaPa
import Derived.Test.YtkcmcjohoockcaaRc
namespace Go.Gh
open Go.Proofs
set_option linter.unusedSimpArgs false
set_option linter.unusedVariables false
def TrG (r : Rite) : Scene → List (List RAct) → Prop
  | _, [] => True
  | s, g :: gs => (GOk r s g ∧ g ≠ [] ∧ ∀ a ∈ g, ∀ b ∈ g, a.at' = b.at') ∧ TrG r (doG s g) gs
theorem TrG_snoc {r : Rite} {g : List RAct} : ∀ {gs : List (List RAct)} {s : Scene}, TrG r s gs → (GOk r (doG s gs.flatten) g ∧ g ≠ [] ∧ ∀ a ∈ g, ∀ b ∈ g, a.at' = b.at') → TrG r s (gs ++ [g])
  | [], s, _, h => ⟨h, trivial⟩
  | g0 :: gs, s, h, h2 => ⟨h.1, TrG_snoc h.2 (by rw [← doG_append]; exact h2)⟩
structure Made (r0 : Rite) (acts : List RAct) (s : Scene) (t : Int) : Prop where
  gs : ∃ gs : List (List RAct), acts = gs.flatten ∧ TrG r0 (firstV r0) gs ∧ (gs.Pairwise fun g h => ∀ a ∈ g, ∀ b ∈ h, a.at' < b.at')
  lt : ∀ a ∈ acts, a.at' < t
  z : ∀ a ∈ acts, 0 ≤ a.at' ∧ a.seasons = 0 ∧ a.rank = 0
  sc : s = doG (firstV r0) acts
  snd : Snd r0 s
  t0 : 0 ≤ t
theorem Made.grp {r0 : Rite} {acts : List RAct} {s : Scene} {t t' : Int} {g : List RAct} (h : Made r0 acts s t) (hg : GOk r0 s g) (hne : g ≠ []) (hat : ∀ a ∈ g, a.at' = t ∧ a.seasons = 0 ∧ a.rank = 0) (ht : t < t') : Made r0 (acts ++ g) (doG s g) t' := by
  obtain ⟨gs, e, h1, h2⟩ := h.gs
  have hs := h.sc
  have t0 := h.t0
  refine ⟨⟨gs ++ [g], by rw [e]; simp, TrG_snoc h1 ⟨by rw [← e, ← hs]; exact hg, hne, fun a ha b hb => (hat a ha).1.trans (hat b hb).1.symm⟩, ?_⟩, fun a ha => ?_, fun a ha => ?_, by rw [doG_append, ← hs], hg.snd h.snd, by omega⟩
  · rw [List.pairwise_append]
    refine ⟨h2, List.pairwise_singleton .., fun g' hg' x hx a ha b hb => ?_⟩
    simp only [List.mem_singleton] at hx
    subst hx
    have := h.lt a (by rw [e]; exact List.mem_flatten.2 ⟨g', hg', ha⟩)
    have := (hat b hb).1
    omega
  · rcases List.mem_append.1 ha with x | x
    · have := h.lt a x; omega
    · have := (hat a x).1; omega
  · rcases List.mem_append.1 ha with x | x
    · exact h.z a x
    · have := (hat a x).1
      exact ⟨by omega, (hat a x).2⟩
theorem firstV_snd {r : Rite} (h : RoomB r) : Snd r (firstV r) := by
  have ce : ∀ l : List Person, ∀ t : Nat, cntH (l.map fun _ => empty) t = 0 := fun l t => by
    induction l with
    | nil => rfl
    | cons a l ih =>
      have : ¬ (-1 : Int) = t := by omega
      simp only [List.map_cons, cntH, ih]
      simp [oneH, empty, this]
  refine { pl := by simp [firstV], hl := by simp [firstV], tl := by simp [firstV], hr := fun i hi => ?_, pr := fun x hx => ?_, pn := h.pn, th := fun t ht => ?_, st := fun t ht => ?_ }
  · simp only [firstV, List.getElem_map, empty, List.length_map]; omega
  · simp only [firstV, List.mem_map] at hx
    obtain ⟨p, hp, rfl⟩ := hx
    exact (h.pc p hp).2
  · have ht' : t < r.things.length := by simpa [firstV] using ht
    have e : ((firstV r).things.getD t spot0) = spotOf r.things[t] := by
      rw [getD_lt ht]; simp [firstV]
    rw [e]
    exact .inr ⟨ce _ _, (h.tc _ (List.getElem_mem ht')).1, (h.tc _ (List.getElem_mem ht')).2.1⟩
  · have ht' : t < r.things.length := by simpa [firstV] using ht
    have e : ((firstV r).things.getD t spot0) = spotOf r.things[t] := by
      rw [getD_lt ht]; simp [firstV]
    rw [e]
    exact ⟨(h.tc _ (List.getElem_mem ht')).2.2.1, (h.tc _ (List.getElem_mem ht')).2.2.2.1⟩
theorem Made.first {r : Rite} (h : RoomB r) {t : Int} (ht : 0 ≤ t) : Made r [] (firstV r) t :=
  ⟨⟨[], rfl, trivial, .nil⟩, fun _ h => by simp at h, fun _ h => by simp at h, rfl, firstV_snd h, ht⟩
def setAt (a : RAct) (t : Int) : RAct := { a with at' := t }
section
variable {r : Rite} {s : Scene} {w : Nat} {a : RAct} {t : Int}
theorem posV_setAt : posV r s w (setAt a t) = posV r s w a := by rw [posV_def, posV_def]; rfl
theorem touchV_setAt : touchV s w (setAt a t) = touchV s w a := by rw [touchV_def, touchV_def]; rfl
theorem AB_setAt (h : AB r w a) : AB r w (setAt a t) := ⟨h.who, h.wl, h.hand, h.kind, h.take, h.give, h.step, h.form⟩
theorem posV_acts {acts : List RAct} : posV { r with acts := acts } s w a = posV r s w a := by rw [posV_def, posV_def]
end
theorem everyL_AB {r : Rite} {n w : Nat} {a : RAct} (hn : r.wide * r.deep = n) (hw : w < r.people.length) (h : a ∈ everyL n r.things.length r.people.length w) : AB r w a ∧ a.at' = 0 ∧ a.seasons = 0 ∧ a.rank = 0 := by
  have one : ∀ (hand kind : Nat), (hand = 0 ∨ hand = 1) → 2 ≤ kind → kind ≤ 8 → a ∈ kindL r.things.length r.people.length w kind hand → AB r w a ∧ a.at' = 0 ∧ a.seasons = 0 ∧ a.rank = 0 := fun hand kind hh k2 k8 ha => by
    have hh' : (hand : Int) = 0 ∨ (hand : Int) = 1 := by omega
    unfold kindL at ha
    split at ha
    · simp only [thingL, List.mem_map, List.mem_range'] at ha
      obtain ⟨x, ⟨i, hi, rfl⟩, rfl⟩ := ha
      exact ⟨⟨rfl, hw, hh', ⟨by simp [act1], by simp [act1]⟩, fun _ => ⟨_, rfl, by omega⟩, fun h => by simp [act1] at h, fun h => by simp [act1] at h, by simp [formB, act1]⟩, rfl, rfl, rfl⟩
    · split at ha
      · simp only [otherL, List.mem_map, List.mem_filter, List.mem_range'] at ha
        obtain ⟨x, ⟨⟨i, hi, rfl⟩, hne⟩, rfl⟩ := ha
        refine ⟨⟨rfl, hw, hh', ⟨by simp [act1], by simp [act1]⟩, fun h => by simp [act1] at h, fun _ => ⟨_, rfl, by omega, fun e => ?_⟩, fun h => by simp [act1] at h, by simp [formB, act1]⟩, rfl, rfl, rfl⟩
        rw [e] at hne; simp at hne
      · rename_i n2 n4
        simp only [List.mem_singleton] at ha
        subst ha
        have m1 : ¬ (kind : Int) = 1 := by omega
        have m2 : ¬ (kind : Int) = 2 := by omega
        have m4 : ¬ (kind : Int) = 4 := by omega
        exact ⟨⟨rfl, hw, hh', ⟨by simp only [act1]; omega, by simp only [act1]; omega⟩, fun h => absurd h m2, fun h => absurd h m4, fun h => absurd h m1, by simp [formB, act1, m1, m2, m4]⟩, rfl, rfl, rfl⟩
  unfold everyL at h
  rcases List.mem_append.1 h with h | h
  · simp only [stepL, List.mem_map, List.mem_range'] at h
    obtain ⟨x, ⟨i, hi, rfl⟩, rfl⟩ := h
    refine ⟨⟨rfl, hw, .inl rfl, ⟨by simp [act1], by simp [act1]⟩, fun h => by simp [act1] at h, fun h => by simp [act1] at h, fun _ => ⟨?_, ?_⟩, by simp [formB, act1]⟩, rfl, rfl, rfl⟩
    · simp only [act1]; omega
    · simp only [act1]; omega
  · simp only [kindsL, List.mem_flatMap, List.mem_range', bothL, List.mem_append] at h
    obtain ⟨k, ⟨i, hi, rfl⟩, h⟩ := h
    rcases h with h | h
    · exact one 0 _ (.inl rfl) (by omega) (by omega) h
    · exact one 1 _ (.inr rfl) (by omega) (by omega) h
end Go.Gh
