/- A frame with a rite that is made: its blocks. -/
import Derived.Test.YtkcmcjohoockcaaRc
import Derived.Test.YtkcmcjohoockcaaPb
namespace Go.Gh
open Go.Proofs
set_option linter.unusedSimpArgs false
set_option linter.unusedVariables false
set_option maxRecDepth 100000
def Fr.srt (f : Fr) : Prop := (f.map (·.1)).Pairwise (· < ·)
theorem Fr.ins_mem {q : Nat} {b : Blk} {x : Nat × Blk} : ∀ {f : Fr}, f.srt → x ∈ f.ins q b → x = (q, b) ∨ (x ∈ f ∧ x.1 ≠ q)
  | [], _, h => by simp at h; exact .inl h
  | (k, c) :: r, hs, h => by
    unfold Fr.srt at hs
    rw [List.map_cons, List.pairwise_cons] at hs
    simp only [Fr.ins_cons] at h
    have hlt : ∀ y ∈ r, k < y.1 := fun y hy => hs.1 y.1 (List.mem_map_of_mem hy)
    split at h
    · rename_i e; subst e
      rcases List.mem_cons.1 h with h | h
      · exact .inl h
      · exact .inr ⟨List.mem_cons_of_mem _ h, fun e => by have := hlt x h; omega⟩
    · rename_i ne
      split at h
      · rename_i lt
        rcases List.mem_cons.1 h with h | h
        · exact .inl h
        · refine .inr ⟨h, fun e => ?_⟩
          rcases List.mem_cons.1 h with h | h
          · subst h; exact ne e.symm
          · have := hlt x h; omega
      · rcases List.mem_cons.1 h with h | h
        · subst h; exact .inr ⟨List.mem_cons_self .., fun e => ne e.symm⟩
        · rcases Fr.ins_mem (f := r) hs.2 h with h | h
          · exact .inl h
          · exact .inr ⟨List.mem_cons_of_mem _ h.1, h.2⟩
theorem Fr.ins_keys {q : Nat} {b : Blk} : ∀ {f : Fr} {k : Nat}, k ∈ (f.ins q b).map (·.1) → k = q ∨ k ∈ f.map (·.1)
  | [], k, h => by simp at h; exact .inl h
  | (k0, c) :: r, k, h => by
    simp only [Fr.ins_cons] at h
    split at h
    · rename_i e; subst e
      simp only [List.map_cons, List.mem_cons] at h ⊢
      exact .inr h
    · split at h
      · simp only [List.map_cons, List.mem_cons] at h ⊢
        exact h
      · simp only [List.map_cons, List.mem_cons] at h ⊢
        rcases h with h | h
        · exact .inr (.inl h)
        · rcases Fr.ins_keys h with h | h
          · exact .inl h
          · exact .inr (.inr h)
theorem Fr.ins_srt {q : Nat} {b : Blk} : ∀ {f : Fr}, f.srt → (f.ins q b).srt
  | [], _ => by simp [Fr.srt]
  | (k, c) :: r, hs => by
    unfold Fr.srt at hs ⊢
    rw [List.map_cons, List.pairwise_cons] at hs
    simp only [Fr.ins_cons]
    split
    · rename_i e; subst e
      rw [List.map_cons, List.pairwise_cons]; exact hs
    · rename_i ne
      split
      · rename_i lt
        rw [List.map_cons, List.pairwise_cons, List.map_cons, List.pairwise_cons]
        refine ⟨fun y hy => ?_, hs⟩
        rcases List.mem_cons.1 hy with h | h
        · subst h; exact lt
        · have := hs.1 y h; simp only at *; omega
      · rw [List.map_cons, List.pairwise_cons]
        refine ⟨fun y hy => ?_, Fr.ins_srt (f := r) hs.2⟩
        rcases Fr.ins_keys hy with h | h
        · subst h; simp only at *; omega
        · exact hs.1 y h
theorem Fr.get_mem {q : Nat} {b : Blk} : ∀ {f : Fr}, f.get q = some b → (q, b) ∈ f
  | [], h => by simp at h
  | (k, c) :: r, h => by
    simp only [Fr.get_cons] at h
    split at h
    · rename_i e; subst e; cases h; exact List.mem_cons_self ..
    · exact List.mem_cons_of_mem _ (Fr.get_mem h)
theorem Fr.mem_get {q : Nat} {b : Blk} : ∀ {f : Fr}, f.srt → (q, b) ∈ f → f.get q = some b
  | [], _, h => by simp at h
  | (k, c) :: r, hs, h => by
    unfold Fr.srt at hs
    rw [List.map_cons, List.pairwise_cons] at hs
    simp only [Fr.get_cons]
    rcases List.mem_cons.1 h with h | h
    · cases h; simp
    · have := hs.1 q (List.mem_map_of_mem (f := (·.1)) h)
      rw [if_neg (by simp only at this; omega)]
      exact Fr.mem_get hs.2 h
theorem Fr.del_sub {q : Nat} : ∀ {f : Fr}, (f.del q).Sublist f
  | [] => .slnil
  | (k, c) :: r => by
    unfold Fr.del
    split
    · exact Fr.del_sub.cons _
    · exact Fr.del_sub.cons_cons _
theorem delAll_sub : ∀ {l : List Nat} {f : Fr}, (delAll l f).Sublist f
  | [], f => List.Sublist.refl f
  | q :: l, f => (delAll_sub (l := l)).trans Fr.del_sub
theorem delAll_srt {l : List Nat} {f : Fr} (h : f.srt) : (delAll l f).srt := h.sublist ((delAll_sub (l := l) (f := f)).map _)
theorem delAll_get {p : Nat} : ∀ {l : List Nat} {f : Fr}, (delAll l f).get p = if p ∈ l then none else f.get p
  | [], f => by simp [delAll]
  | q :: l, f => by
    unfold delAll
    rw [delAll_get, Fr.get_del]
    by_cases h1 : p ∈ l
    · simp [h1]
    · by_cases h2 : p = q
      · simp [h1, h2]
      · simp [h1, h2]
theorem noRefF_iff {nm : Nm} : ∀ {f : Fr}, noRefF nm f = true ↔ ∀ x ∈ f, noRefB nm x.2 = true
  | [] => by simp [noRefF]
  | x :: r => by simp [noRefF, noRefF_iff (f := r)]
theorem deadKeys_iff {L : Nat} {s : Slots} {fr : Fr} {p : Nat} : ∀ {g : Fr}, p ∈ deadKeys L s fr g ↔ (∃ b, (p, b) ∈ g) ∧ famKey p = true ∧ noRefS (L, p) s = true ∧ noRefF (L, p) fr = true
  | [] => by simp [deadKeys]
  | x :: r => by
    obtain ⟨k, b⟩ := x
    simp only [deadKeys]
    by_cases h : (famKey k && noRefS (L, k) s && noRefF (L, k) fr) = true
    · rw [if_pos h, List.mem_cons, deadKeys_iff]
      simp only [Bool.and_eq_true] at h
      constructor
      · rintro (rfl | ⟨⟨b', hb⟩, h2⟩)
        · exact ⟨⟨b, List.mem_cons_self ..⟩, h.1.1, h.1.2, h.2⟩
        · exact ⟨⟨b', List.mem_cons_of_mem _ hb⟩, h2⟩
      · rintro ⟨⟨b', hb⟩, h2⟩
        rcases List.mem_cons.1 hb with e | e
        · cases e; exact .inl rfl
        · exact .inr ⟨⟨b', e⟩, h2⟩
    · rw [if_neg h, deadKeys_iff]
      constructor
      · rintro ⟨⟨b', hb⟩, h2⟩; exact ⟨⟨b', List.mem_cons_of_mem _ hb⟩, h2⟩
      · rintro ⟨⟨b', hb⟩, h2⟩
        rcases List.mem_cons.1 hb with e | e
        · cases e; exact absurd (by simp [h2]) h
        · exact ⟨⟨b', e⟩, h2⟩
/-- Blocks let go at a round's end. -/
theorem gcol_F {s : Slots} {F : Fr} {H : Heap} {nt : Nat} (hH : 0 < H.length) : ∃ F', gcol ⟨s, F :: H, nt⟩ = some ⟨s, F' :: H, nt⟩ ∧ (F.srt → F'.srt) ∧ (∀ x ∈ F', x ∈ F) ∧
    (∀ k, famKey k = false → F'.get k = F.get k) ∧ (∀ k x, x ∈ F → noRefB (H.length, k) x.2 = false → F'.get k = F.get k) ∧
    (∀ k, famKey k = true → noRefS (H.length, k) s = true → (∀ x ∈ F, noRefB (H.length, k) x.2 = true) → F'.get k = none) := by
  refine ⟨delAll (deadKeys H.length s F F) F, ?_, delAll_srt, fun x hx => delAll_sub.subset hx, fun k hk => ?_, fun k x hx hr => ?_, fun k hk hs hr => ?_⟩
  · unfold gcol
    simp only
    rw [if_neg (by omega)]
  · rw [delAll_get, if_neg]
    rw [deadKeys_iff]
    rintro ⟨_, h, _⟩
    rw [hk] at h; cases h
  · rw [delAll_get, if_neg]
    rw [deadKeys_iff]
    rintro ⟨_, _, _, h⟩
    rw [noRefF_iff] at h
    rw [h x hx] at hr; cases hr
  · rw [delAll_get]
    by_cases h : k ∈ deadKeys H.length s F F
    · rw [if_pos h]
    · rw [if_neg h]
      cases hg : F.get k with
      | none => rfl
      | some b => exact absurd (deadKeys_iff.2 ⟨⟨b, Fr.get_mem hg⟩, hk, hs, noRefF_iff.2 hr⟩) h
end Go.Gh


/- A frame with a rite that is made: its steps. -/
namespace Go.Gh
open Go.Proofs
set_option linter.unusedSimpArgs false
set_option linter.unusedVariables false
set_option maxRecDepth 100000
def key1 : Nat → Nat | 0 => 90139 | 1 => 1000000024631 | _ => 2000000024631
def key2 : Nat → Nat | 0 => 110619 | 1 => 1000000041015 | _ => 2000000041015
def key3 : Nat → Nat | 0 => 217115 | 1 => 1000000057399 | _ => 2000000057399
def nxt : Nat → Nat | 1 => 2 | _ => 1
/-- A rite's box; a scene's. -/
def riteB (L : Nat) (r0 : Rite) (acts : List RAct) : Blk := .box [.pure (.int .i64 r0.wide), .pure (.int .i64 r0.deep), .hdr (L, 188441) 2 r0.people.length 0 r0.people.length, .hdr (L, 339993) 5 r0.things.length 0 r0.things.length, .nils, apS (L, 393241) 1 (r0.lapses.map irow), apS (L, 62) 9 (acts.map RAct.row)]
def sceneB (L q : Nat) (s : Scene) : Blk := .box [.hdr (L, key1 q) 1 s.people.length 0 s.people.length, .hdr (L, key2 q) 2 s.hands.length 0 s.hands.length, .hdr (L, key3 q) 2 s.things.length 0 s.things.length]
structure SF (F : Fr) (k1 k2 k3 : Nat) (s : Scene) : Prop where
  h1 : ∃ v, v ≤ s.people.length ∧ F.get k1 = some (.arr 1 (s.people.map irow) v false)
  h2 : ∃ v, v ≤ s.hands.length ∧ F.get k2 = some (.arr 2 (s.hands.map Hands.row) v false)
  h3 : ∃ v, v ≤ s.things.length ∧ F.get k3 = some (.arr 2 (s.things.map Spot.row) v false)
structure FB (L : Nat) (F : Fr) (r0 : Rite) (acts : List RAct) (sb : Blk) : Prop where
  srt : F.srt
  g6 : F.get 6 = some zbox
  g7 : F.get 7 = some (riteB L r0 acts)
  g8 : F.get 8 = some sb
  gp : F.get 188441 = some (.arr 2 (r0.people.map Person.row) 0 false)
  gt : F.get 339993 = some (.arr 5 (r0.things.map Thing.row) 0 false)
  gl : r0.lapses ≠ [] → F.get 393241 = some (.arr 1 (r0.lapses.map irow) 0 false)
  ga0 : acts = [] → F.get 62 = none
  ga : acts ≠ [] → F.get 62 = some (.arr 9 (acts.map RAct.row) 0 false)
  ref : ∀ x ∈ F, x.1 ≠ 8 → ∀ k, famKey k = true → noRefB (L, k) x.2 = true
structure FI (L : Nat) (F : Fr) (r0 : Rite) (acts : List RAct) (s : Scene) (q : Nat) : Prop extends FB L F r0 acts (sceneB L q s) where
  sc : SF F (key1 q) (key2 q) (key3 q) s
  fam : ∀ k, famKey k = true → F.get k ≠ none → k = key1 q ∨ k = key2 q ∨ k = key3 q
structure FM (L : Nat) (F : Fr) (r0 : Rite) (acts : List RAct) (s : Scene) (q : Nat) (t : Scene) : Prop extends FB L F r0 acts (sceneB L q s) where
  sc : SF F (key1 q) (key2 q) (key3 q) s
  nx : SF F (key1 (nxt q)) (key2 (nxt q)) (key3 (nxt q)) t
  fam : ∀ k, famKey k = true → F.get k ≠ none → (k = key1 q ∨ k = key2 q ∨ k = key3 q) ∨ (k = key1 (nxt q) ∨ k = key2 (nxt q) ∨ k = key3 (nxt q))
/-- The keys of scenes are apart. -/
theorem keys_ne (q : Nat) (hq : q ≤ 2) : key1 q ≠ key2 q ∧ key1 q ≠ key3 q ∧ key2 q ≠ key3 q ∧ key1 q ≠ key1 (nxt q) ∧ key1 q ≠ key2 (nxt q) ∧ key1 q ≠ key3 (nxt q) ∧ key2 q ≠ key1 (nxt q) ∧ key2 q ≠ key2 (nxt q) ∧ key2 q ≠ key3 (nxt q) ∧ key3 q ≠ key1 (nxt q) ∧ key3 q ≠ key2 (nxt q) ∧ key3 q ≠ key3 (nxt q) := by
  match q, hq with
  | 0, _ => decide
  | 1, _ => decide
  | 2, _ => decide
theorem nxt_le (q : Nat) : 1 ≤ nxt q ∧ nxt q ≤ 2 := by
  unfold nxt; split <;> omega
def fixed : List Nat := [6, 7, 8, 62, 188441, 339993, 393241]
theorem keys_fix (q : Nat) (hq : q ≤ 2) : (∀ k ∈ fixed, k ≠ key1 q) ∧ (∀ k ∈ fixed, k ≠ key2 q) ∧ (∀ k ∈ fixed, k ≠ key3 q) := by
  match q, hq with
  | 0, _ => decide
  | 1, _ => decide
  | 2, _ => decide
theorem fixed_fam : ∀ k ∈ fixed, famKey k = false := by decide
/-- A new block without names. -/
theorem FB.ins {L : Nat} {F : Fr} {r0 : Rite} {acts : List RAct} {sb : Blk} (h : FB L F r0 acts sb) {k : Nat} {b : Blk} (hk : ∀ j ∈ fixed, j ≠ k) (hb : ∀ nm, noRefB nm b = true) : FB L (F.ins k b) r0 acts sb where
  srt := Fr.ins_srt h.srt
  g6 := (Fr.get_ins_other _ (hk 6 (by decide)) _).trans h.g6
  g7 := (Fr.get_ins_other _ (hk 7 (by decide)) _).trans h.g7
  g8 := (Fr.get_ins_other _ (hk 8 (by decide)) _).trans h.g8
  gp := (Fr.get_ins_other _ (hk 188441 (by decide)) _).trans h.gp
  gt := (Fr.get_ins_other _ (hk 339993 (by decide)) _).trans h.gt
  gl := fun hl => (Fr.get_ins_other _ (hk 393241 (by decide)) _).trans (h.gl hl)
  ga0 := fun ha => (Fr.get_ins_other _ (hk 62 (by decide)) _).trans (h.ga0 ha)
  ga := fun ha => (Fr.get_ins_other _ (hk 62 (by decide)) _).trans (h.ga ha)
  ref := fun x hx hne k' hk' => by
    rcases Fr.ins_mem h.srt hx with e | ⟨e, _⟩
    · subst e; exact hb _
    · exact h.ref x e hne k' hk'
/-- Three new blocks of a scene. -/
def ins3 (F : Fr) (q v1 v2 v3 : Nat) (t : Scene) : Fr := ((F.ins (key1 q) (.arr 1 (t.people.map irow) v1 false)).ins (key2 q) (.arr 2 (t.hands.map Hands.row) v2 false)).ins (key3 q) (.arr 2 (t.things.map Spot.row) v3 false)
theorem ins3_get (F : Fr) (q v1 v2 v3 : Nat) (t : Scene) {k : Nat} (h1 : k ≠ key1 q) (h2 : k ≠ key2 q) (h3 : k ≠ key3 q) : (ins3 F q v1 v2 v3 t).get k = F.get k := by
  unfold ins3
  rw [Fr.get_ins_other _ h3, Fr.get_ins_other _ h2, Fr.get_ins_other _ h1]
theorem ins3_SF (F : Fr) (q : Nat) (hq : q ≤ 2) {v1 v2 v3 : Nat} (t : Scene) (h1 : v1 ≤ t.people.length) (h2 : v2 ≤ t.hands.length) (h3 : v3 ≤ t.things.length) : SF (ins3 F q v1 v2 v3 t) (key1 q) (key2 q) (key3 q) t := by
  obtain ⟨n1, n2, n3, _⟩ := keys_ne q hq
  refine ⟨⟨v1, h1, ?_⟩, ⟨v2, h2, ?_⟩, ⟨v3, h3, ?_⟩⟩
  · unfold ins3; rw [Fr.get_ins_other _ n2, Fr.get_ins_other _ n1, Fr.get_ins]
  · unfold ins3; rw [Fr.get_ins_other _ n3, Fr.get_ins]
  · unfold ins3; rw [Fr.get_ins]
theorem ins3_FB {L : Nat} {F : Fr} {r0 : Rite} {acts : List RAct} {sb : Blk} (h : FB L F r0 acts sb) (q : Nat) (hq : q ≤ 2) (v1 v2 v3 : Nat) (t : Scene) : FB L (ins3 F q v1 v2 v3 t) r0 acts sb := by
  obtain ⟨a, b, c⟩ := keys_fix q hq
  exact ((h.ins a fun _ => rfl).ins b fun _ => rfl).ins c fun _ => rfl
theorem SF.other {F F' : Fr} {k1 k2 k3 : Nat} {s : Scene} (h : SF F k1 k2 k3 s) (e1 : F'.get k1 = F.get k1) (e2 : F'.get k2 = F.get k2) (e3 : F'.get k3 = F.get k3) : SF F' k1 k2 k3 s := by
  obtain ⟨a, b, c⟩ := h
  exact ⟨by rw [e1]; exact a, by rw [e2]; exact b, by rw [e3]; exact c⟩
theorem FI.own {L : Nat} {F : Fr} {r0 : Rite} {acts : List RAct} {s : Scene} {q : Nat} (hq : q ≤ 2) (h : FI L F r0 acts s q) : FM L (ins3 F (nxt q) 0 0 0 s) r0 acts s q s := by
  obtain ⟨n1, n2, n3, m11, m12, m13, m21, m22, m23, m31, m32, m33⟩ := keys_ne q hq
  have hp := nxt_le q
  exact { ins3_FB h.toFB (nxt q) hp.2 0 0 0 s with
    sc := h.sc.other (ins3_get _ _ _ _ _ _ m11 m12 m13) (ins3_get _ _ _ _ _ _ m21 m22 m23) (ins3_get _ _ _ _ _ _ m31 m32 m33)
    nx := ins3_SF F (nxt q) hp.2 s (Nat.zero_le _) (Nat.zero_le _) (Nat.zero_le _)
    fam := fun k hk hg => by
      by_cases h1 : k = key1 (nxt q)
      · exact .inr (.inl h1)
      by_cases h2 : k = key2 (nxt q)
      · exact .inr (.inr (.inl h2))
      by_cases h3 : k = key3 (nxt q)
      · exact .inr (.inr (.inr h3))
      rw [ins3_get _ _ _ _ _ _ h1 h2 h3] at hg
      exact .inl (h.fam k hk hg) }
theorem FM.doA {L : Nat} {F : Fr} {r0 : Rite} {acts : List RAct} {s t t' : Scene} {q : Nat} (hq : q ≤ 2) (h : FM L F r0 acts s q t) {v1 v2 v3 : Nat} (h1 : v1 ≤ t'.people.length) (h2 : v2 ≤ t'.hands.length) (h3 : v3 ≤ t'.things.length) : FM L (ins3 F (nxt q) v1 v2 v3 t') r0 acts s q t' := by
  obtain ⟨n1, n2, n3, m11, m12, m13, m21, m22, m23, m31, m32, m33⟩ := keys_ne q hq
  have hp := nxt_le q
  exact { ins3_FB h.toFB (nxt q) hp.2 v1 v2 v3 t' with
    sc := h.sc.other (ins3_get _ _ _ _ _ _ m11 m12 m13) (ins3_get _ _ _ _ _ _ m21 m22 m23) (ins3_get _ _ _ _ _ _ m31 m32 m33)
    nx := ins3_SF F (nxt q) hp.2 t' h1 h2 h3
    fam := fun k hk hg => by
      by_cases h1 : k = key1 (nxt q)
      · exact .inr (.inl h1)
      by_cases h2 : k = key2 (nxt q)
      · exact .inr (.inr (.inl h2))
      by_cases h3 : k = key3 (nxt q)
      · exact .inr (.inr (.inr h3))
      rw [ins3_get _ _ _ _ _ _ h1 h2 h3] at hg
      exact h.fam k hk hg }
/-- Acts more. -/
def insA (L : Nat) (F : Fr) (r0 : Rite) (acts : List RAct) : Fr := (F.ins 62 (.arr 9 (acts.map RAct.row) 0 false)).ins 7 (riteB L r0 acts)
theorem insA_get (L : Nat) (F : Fr) (r0 : Rite) (acts : List RAct) {k : Nat} (h1 : k ≠ 62) (h2 : k ≠ 7) : (insA L F r0 acts).get k = F.get k := by
  unfold insA
  rw [Fr.get_ins_other _ h2, Fr.get_ins_other _ h1]
theorem riteB_ref {L : Nat} {r0 : Rite} {acts : List RAct} {k : Nat} (hk : famKey k = true) : noRefB (L, k) (riteB L r0 acts) = true := by
  have ne : ∀ j, famKey j = false → ((L, j) : Nm) ≠ (L, k) := fun j hj e => by
    have := (Prod.mk.inj e).2
    subst this
    rw [hj] at hk; cases hk
  have one : ∀ j es rows, famKey j = false → noRef (L, k) (apS (L, j) es rows) = true := fun j es rows hj => by
    unfold apS
    split
    · rfl
    · simpa [noRef] using ne j hj
  have a := ne 188441 (by decide)
  have b := ne 339993 (by decide)
  have c := one 393241 1 (r0.lapses.map irow) (by decide)
  have d := one 62 9 (acts.map RAct.row) (by decide)
  simp only [riteB, noRefB, noRefL, noRef, decide_eq_true_eq, Bool.and_eq_true, true_and, and_true, c, d, ne_eq]
  exact ⟨a, b⟩
theorem insA_FB {L : Nat} {F : Fr} {r0 : Rite} {acts acts' : List RAct} {sb : Blk} (h : FB L F r0 acts sb) (hne : acts' ≠ []) : FB L (insA L F r0 acts') r0 acts' sb where
  srt := Fr.ins_srt (Fr.ins_srt h.srt)
  g6 := (insA_get _ _ _ _ (by decide) (by decide)).trans h.g6
  g7 := by unfold insA; rw [Fr.get_ins]
  g8 := (insA_get _ _ _ _ (by decide) (by decide)).trans h.g8
  gp := (insA_get _ _ _ _ (by decide) (by decide)).trans h.gp
  gt := (insA_get _ _ _ _ (by decide) (by decide)).trans h.gt
  gl := fun hl => (insA_get _ _ _ _ (by decide) (by decide)).trans (h.gl hl)
  ga0 := fun e => absurd e hne
  ga := fun _ => by unfold insA; rw [Fr.get_ins_other _ (by decide), Fr.get_ins]
  ref := fun x hx hne k' hk' => by
    rcases Fr.ins_mem (Fr.ins_srt h.srt) hx with e | ⟨e, _⟩
    · subst e; exact riteB_ref hk'
    · rcases Fr.ins_mem h.srt e with e | ⟨e, _⟩
      · subst e; rfl
      · exact h.ref x e hne k' hk'
theorem FM.app {L : Nat} {F : Fr} {r0 : Rite} {acts acts' : List RAct} {s t : Scene} {q : Nat} (hq : q ≤ 2) (h : FM L F r0 acts s q t) (hne : acts' ≠ []) : FM L (insA L F r0 acts') r0 acts' s q t := by
  have hp := nxt_le q
  obtain ⟨a, b, c⟩ := keys_fix q hq
  obtain ⟨a', b', c'⟩ := keys_fix (nxt q) hp.2
  have one : ∀ k, (∀ j ∈ fixed, j ≠ k) → (insA L F r0 acts').get k = F.get k := fun k hk => insA_get _ _ _ _ (hk 62 (by decide)).symm (hk 7 (by decide)).symm
  exact { insA_FB h.toFB hne with
    sc := h.sc.other (one _ a) (one _ b) (one _ c)
    nx := h.nx.other (one _ a') (one _ b') (one _ c')
    fam := fun k hk hg => by
      have h1 : k ≠ 62 := fun e => by subst e; cases hk
      have h2 : k ≠ 7 := fun e => by subst e; cases hk
      rw [insA_get _ _ _ _ h1 h2] at hg
      exact h.fam k hk hg }
theorem sceneB_ref {L q : Nat} {s : Scene} {k : Nat} (h1 : k ≠ key1 q) (h2 : k ≠ key2 q) (h3 : k ≠ key3 q) : noRefB (L, k) (sceneB L q s) = true := by
  simp only [sceneB, noRefB, noRefL, noRef, Bool.and_true, Bool.and_eq_true, decide_eq_true_eq, ne_eq, Prod.mk.injEq, true_and]
  exact ⟨fun e => h1 e.symm, fun e => h2 e.symm, fun e => h3 e.symm⟩
theorem sceneB_refs {L q : Nat} {s : Scene} : noRefB (L, key1 q) (sceneB L q s) = false ∧ noRefB (L, key2 q) (sceneB L q s) = false ∧ noRefB (L, key3 q) (sceneB L q s) = false := by
  refine ⟨?_, ?_, ?_⟩ <;> simp [sceneB, noRefB, noRefL, noRef]
/-- Blocks that are let go, at the end of a round: 'B' holds of the frame with the scene's box. -/
theorem FB.gcol {F : Fr} {H : Heap} {r0 : Rite} {acts : List RAct} {t : Scene} {p nt : Nat} {s : Slots} (hp : p ≤ 2) (hH : 0 < H.length) (h : FB H.length F r0 acts (sceneB H.length p t)) (sc : SF F (key1 p) (key2 p) (key3 p) t) (hs : ∀ k, famKey k = true → noRefS (H.length, k) s = true) :
    ∃ F', Go.Gh.gcol ⟨s, F :: H, nt⟩ = some ⟨s, F' :: H, nt⟩ ∧ FI H.length F' r0 acts t p := by
  obtain ⟨F', e, hsrt, hmem, hnf, hrf, hdead⟩ := gcol_F (s := s) (F := F) (nt := nt) hH
  refine ⟨F', e, ?_⟩
  have fx : ∀ k ∈ fixed, F'.get k = F.get k := fun k hk => hnf k (fixed_fam k hk)
  have m8 : (8, sceneB H.length p t) ∈ F := Fr.get_mem h.g8
  have R := sceneB_refs (L := H.length) (q := p) (s := t)
  exact {
    srt := hsrt h.srt
    g6 := (fx 6 (by decide)).trans h.g6
    g7 := (fx 7 (by decide)).trans h.g7
    g8 := (fx 8 (by decide)).trans h.g8
    gp := (fx 188441 (by decide)).trans h.gp
    gt := (fx 339993 (by decide)).trans h.gt
    gl := fun hl => (fx 393241 (by decide)).trans (h.gl hl)
    ga0 := fun ha => (fx 62 (by decide)).trans (h.ga0 ha)
    ga := fun ha => (fx 62 (by decide)).trans (h.ga ha)
    ref := fun x hx => h.ref x (hmem x hx)
    sc := sc.other (hrf _ _ m8 R.1) (hrf _ _ m8 R.2.1) (hrf _ _ m8 R.2.2)
    fam := fun k hk hg => by
      by_cases h1 : k = key1 p
      · exact .inl h1
      by_cases h2 : k = key2 p
      · exact .inr (.inl h2)
      by_cases h3 : k = key3 p
      · exact .inr (.inr h3)
      refine absurd (hdead k hk (hs k hk) fun x hx => ?_) hg
      by_cases e8 : x.1 = 8
      · have : x.2 = sceneB H.length p t := by
          have := Fr.mem_get h.srt (show (x.1, x.2) ∈ F from hx)
          rw [e8, h.g8] at this
          exact (Option.some.inj this).symm
        rw [this]
        exact sceneB_ref h1 h2 h3
      · exact h.ref x hx e8 k hk }
theorem FM.fin {F : Fr} {H : Heap} {r0 : Rite} {acts : List RAct} {s t : Scene} {q nt : Nat} {sl : Slots} (hH : 0 < H.length) (h : FM H.length F r0 acts s q t) (hs : ∀ k, famKey k = true → noRefS (H.length, k) sl = true) :
    ∃ F', Go.Gh.gcol ⟨sl, F.ins 8 (sceneB H.length (nxt q) t) :: H, nt⟩ = some ⟨sl, F' :: H, nt⟩ ∧ FI H.length F' r0 acts t (nxt q) := by
  have hp := nxt_le q
  obtain ⟨a', b', c'⟩ := keys_fix (nxt q) hp.2
  refine FB.gcol hp.2 hH ?_ ?_ hs
  · exact {
      srt := Fr.ins_srt h.srt
      g6 := (Fr.get_ins_other _ (by decide) _).trans h.g6
      g7 := (Fr.get_ins_other _ (by decide) _).trans h.g7
      g8 := Fr.get_ins ..
      gp := (Fr.get_ins_other _ (by decide) _).trans h.gp
      gt := (Fr.get_ins_other _ (by decide) _).trans h.gt
      gl := fun hl => (Fr.get_ins_other _ (by decide) _).trans (h.gl hl)
      ga0 := fun ha => (Fr.get_ins_other _ (by decide) _).trans (h.ga0 ha)
      ga := fun ha => (Fr.get_ins_other _ (by decide) _).trans (h.ga ha)
      ref := fun x hx hne k' hk' => by
        rcases Fr.ins_mem h.srt hx with e | ⟨e, _⟩
        · exact absurd (by rw [e]) hne
        · exact h.ref x e hne k' hk' }
  · exact h.nx.other (Fr.get_ins_other _ (a' 8 (by decide)).symm _) (Fr.get_ins_other _ (b' 8 (by decide)).symm _) (Fr.get_ins_other _ (c' 8 (by decide)).symm _)
theorem FI.same {F : Fr} {H : Heap} {r0 : Rite} {acts : List RAct} {s : Scene} {q nt : Nat} {sl : Slots} (hq : q ≤ 2) (hH : 0 < H.length) (h : FI H.length F r0 acts s q) (hs : ∀ k, famKey k = true → noRefS (H.length, k) sl = true) :
    ∃ F', Go.Gh.gcol ⟨sl, F :: H, nt⟩ = some ⟨sl, F' :: H, nt⟩ ∧ FI H.length F' r0 acts s q := FB.gcol hq hH h.toFB h.sc hs
end Go.Gh


/- A frame with a rite that is made: the calls. -/
namespace Go.Gh
open Go.Proofs
set_option linter.unusedSimpArgs false
set_option linter.unusedVariables false
set_option maxRecDepth 100000
set_option maxHeartbeats 1000000
theorem Fr.ins_same {k : Nat} {b : Blk} : ∀ {f : Fr}, f.srt → f.get k = some b → f.ins k b = f
  | [], _, h => by simp at h
  | (j, c) :: r, hs, h => by
    unfold Fr.srt at hs
    rw [List.map_cons, List.pairwise_cons] at hs
    simp only [Fr.get_cons] at h
    simp only [Fr.ins_cons]
    by_cases e : k = j
    · subst e
      rw [if_pos rfl] at h
      cases h
      rw [if_pos rfl]
    · rw [if_neg e] at h
      rw [if_neg e]
      have := hs.1 k (List.mem_map_of_mem (f := (·.1)) (Fr.get_mem h))
      simp only at this
      rw [if_neg (by omega), Fr.ins_same hs.2 h]
def riteG (L : Nat) (r0 : Rite) (acts : List RAct) : GV := .agg [.pure (.int .i64 r0.wide), .pure (.int .i64 r0.deep), .hdr (L, 188441) 2 r0.people.length 0 r0.people.length, .hdr (L, 339993) 5 r0.things.length 0 r0.things.length, .nils, apS (L, 393241) 1 (r0.lapses.map irow), apS (L, 62) 9 (acts.map RAct.row)]
def scN (L q : Nat) (s : Scene) : GV := scH (L, key1 q) (L, key2 q) (L, key3 q) s
def withA (r0 : Rite) (acts : List RAct) : Rite := { r0 with acts := acts }
section
variable {F f0 : Fr} {H : Heap} {r0 : Rite} {acts : List RAct} {sb : Blk} {c : Nat}
theorem rdC_apS {nm : Nm} {es : Nat} {rows : List (List PV)} (h : rows ≠ [] → H.get nm = some (.arr es rows 0 false)) : rdC H (apS nm es rows) (.slice rows) := by
  unfold apS
  by_cases hr : rows = []
  · subst hr; rw [if_pos rfl]; simp
  · rw [if_neg hr]
    exact ⟨rows, 0, false, h hr, Nat.zero_le _, rfl, rfl, rfl, rfl⟩
theorem FB.rd (h : FB H.length F r0 acts sb) (hs : r0.seen = []) : rdG (f0 :: F :: H) (riteG H.length r0 acts) (.agg (withA r0 acts).row) := by
  have ne : ¬ H.length = H.length + 1 := by omega
  have g : ∀ k, Heap.get (f0 :: F :: H) (H.length, k) = F.get k := fun k => by simp [ne]
  rw [rowR]
  unfold riteG
  rw [rdG_agg]
  simp only [withA, rdL_cons, rdL_nil, rdC_pure, and_true, true_and]
  refine ⟨⟨_, 0, false, (g _).trans h.gp, Nat.zero_le _, by simp, rfl, rfl, rfl⟩, ⟨_, 0, false, (g _).trans h.gt, Nat.zero_le _, by simp, rfl, rfl, rfl⟩, ?_, rdC_apS fun hr => (g _).trans (h.gl ?_), rdC_apS fun hr => (g _).trans (h.ga ?_)⟩
  · rw [hs]; rfl
  · intro e; rw [e] at hr; exact hr rfl
  · intro e; rw [e] at hr; exact hr rfl
theorem SF.rd {k1 k2 k3 : Nat} {s : Scene} (h : SF F k1 k2 k3 s) : rdG (f0 :: F :: H) (scH (H.length, k1) (H.length, k2) (H.length, k3) s) (.agg s.row) := by
  have ne : ¬ H.length = H.length + 1 := by omega
  have g : ∀ k, Heap.get (f0 :: F :: H) (H.length, k) = F.get k := fun k => by simp [ne]
  obtain ⟨⟨v1, a1, b1⟩, ⟨v2, a2, b2⟩, ⟨v3, a3, b3⟩⟩ := h
  unfold scH Scene.row
  rw [rdG_agg]
  simp only [rdL_cons, rdL_nil, rdC_pure, and_true, true_and]
  exact ⟨⟨_, v1, false, (g _).trans b1, a1, by simp, rfl, rfl, rfl⟩, ⟨_, v2, false, (g _).trans b2, a2, by simp, rfl, rfl, rfl⟩, ⟨_, v3, false, (g _).trans b3, a3, by simp, rfl, rfl, rfl⟩⟩
theorem SF.self {k1 k2 k3 : Nat} {s : Scene} (hF : F.srt) (h : SF F k1 k2 k3 s) (n12 : k1 ≠ k2) (n13 : k1 ≠ k3) (n23 : k2 ≠ k3) : ∃ v1 v2 v3, ScSelf (f0 :: F :: H) (H.length, k1) (H.length, k2) (H.length, k3) v1 v2 v3 s := by
  have ne : ¬ H.length = H.length + 1 := by omega
  have g : ∀ k, Heap.get (f0 :: F :: H) (H.length, k) = F.get k := fun k => by simp [ne]
  have st : ∀ k b, F.get k = some b → Heap.set (f0 :: F :: H) (H.length, k) b = f0 :: F :: H := fun k b hb => by simp [ne, Fr.ins_same hF hb]
  have nn : ∀ a b : Nat, a ≠ b → ((H.length, a) : Nm) ≠ (H.length, b) := fun a b h e => h (Prod.mk.inj e).2
  obtain ⟨⟨v1, a1, b1⟩, ⟨v2, a2, b2⟩, ⟨v3, a3, b3⟩⟩ := h
  exact ⟨v1, v2, v3, { n12 := nn _ _ n12, n13 := nn _ _ n13, n23 := nn _ _ n23, g1 := (g _).trans b1, g2 := (g _).trans b2, g3 := (g _).trans b3, e1 := a1, e2 := a2, e3 := a3, s1 := st _ _ b1, s2 := st _ _ b2, s3 := st _ _ b3 }⟩
/-- The room's bounds. -/
structure RB (r0 : Rite) (n : Nat) : Prop where
  hn : IntKind.i64.wrap (r0.wide * r0.deep) = n
  n0 : 0 < n
  n9 : n ≤ 9
  wide : r0.wide ≠ 0
  pl : r0.people.length ≤ 3
  tl : r0.things.length ≤ 4
  p0 : r0.people ≠ []
  t0 : r0.things ≠ []
  seen : r0.seen = []
theorem might_at {nm : Nm} (hlt : nm.1 < H.length) {n : Nat} (hb : RB r0 n) (h : FB H.length F r0 acts sb) {k1 k2 k3 : Nat} {s : Scene} (hs : SF F k1 k2 k3 s) (hS : ScB r0 s) (w : Nat) (hw : w < r0.people.length) (wd : Int) :
    gcall KC (geval KC) 35 [.bptr nm 0, riteG H.length r0 acts, scH (H.length, k1) (H.length, k2) (H.length, k3) s, .pure (.int .i64 w)] c (f0 :: F :: H.set nm (wbox wd)) =
      some (.pure (.tuple [.agg (mightR (withA r0 acts) s w (everyL n r0.things.length r0.people.length w) wd).1.1.row, .bool (mightR (withA r0 acts) s w (everyL n r0.things.length r0.people.length w) wd).1.2]), f0 :: F :: H.set nm (wbox (mightR (withA r0 acts) s w (everyL n r0.things.length r0.people.length w) wd).2)) := by
  have hl : (H.set nm (wbox wd)).length = H.length := Heap.length_set _ _ _
  have h' : FB (H.set nm (wbox wd)).length F r0 acts sb := by rw [hl]; exact h
  have hne : ¬ nm.1 = H.length := by omega
  have hne2 : ¬ nm.1 = H.length + 1 := by omega
  have B : isBox (f0 :: F :: H.set nm (wbox wd)) nm := isBox_up (isBox_up (isBox_set' hlt))
  have W : wordAt (f0 :: F :: H.set nm (wbox wd)) nm = wd := by rw [wordAt_up (by simp [hl]; omega), wordAt_up (by rw [hl]; exact hlt), wordAt_set hlt]
  have M := mightB_ok (c := c) (rg := riteG (H.set nm (wbox wd)).length r0 acts) (sg := scH ((H.set nm (wbox wd)).length, k1) ((H.set nm (wbox wd)).length, k2) ((H.set nm (wbox wd)).length, k3) s) (withA r0 acts) s w n (h'.rd (f0 := f0) hb.seen) hs.rd ⟨hS.pl, hS.hl, hS.tl, hS.hr⟩ hw (by show r0.people.length ≤ _; have := hb.pl; omega) (by show r0.things.length ≤ _; have := hb.tl; omega) hb.wide hb.hn hb.n0 (by have := hb.n9; omega) B
  rw [W, hl] at M
  refine M.trans ?_
  simp [hne, hne2, Heap.length_set, withA]
theorem apart_at {H0 : Heap} (hl : H0.length = H.length) {k1 k2 k3 : Nat} {s : Scene} (hs : SF F k1 k2 k3 s) (hS : ScB r0 s) {w v : Nat} {a b : RAct} (hw : w < r0.people.length) (hv : v < r0.people.length) (h1 : a.who = w) (h2 : a.hand = 0 ∨ a.hand = 1) (h3 : b.who = v) (h4 : b.hand = 0 ∨ b.hand = 1) :
    gcall KC (geval KC) 38 [scH (H.length, k1) (H.length, k2) (H.length, k3) s, .pure (.agg a.row), .pure (.agg b.row)] c (f0 :: F :: H0) = some (.pure (.bool (apartV s w a v b)), f0 :: F :: H0) := by
  have e1 := hS.pl
  have e2 := hS.hl
  have R : rdG (f0 :: F :: H0) (scH (H.length, k1) (H.length, k2) (H.length, k3) s) (.agg s.row) := by rw [← hl]; exact hs.rd
  exact apartB_ok R (show rdG _ (.pure (.agg a.row)) (.agg a.row) from rfl) (show rdG _ (.pure (.agg b.row)) (.agg b.row) from rfl) (by omega) (by omega) h1 h2 (by omega) (by omega) h3 h4 (by simp)
theorem do_at {H0 : Heap} (hl : H0.length = H.length) {k1 k2 k3 : Nat} {s : Scene} (hF : F.srt) (hs : SF F k1 k2 k3 s) (n12 : k1 ≠ k2) (n13 : k1 ≠ k3) (n23 : k2 ≠ k3) {w : Nat} {a : RAct} (hb : DoB s w a) (hhl : s.hands.length ≤ 1000000) :
    ∃ v1 v2 v3, v1 ≤ s.people.length ∧ v2 ≤ s.hands.length ∧ v3 ≤ s.things.length ∧
    gcall KC (geval KC) 37 [scH (H.length, k1) (H.length, k2) (H.length, k3) s, .pure (.agg a.row)] c (f0 :: F :: H0) =
      some (.pure (.tuple []), f0 :: ((F.ins k1 (.arr 1 ((doV s w a).people.map irow) v1 false)).ins k2 (.arr 2 ((doV s w a).hands.map Hands.row) v2 false)).ins k3 (.arr 2 ((doV s w a).things.map Spot.row) v3 false) :: H0) := by
  obtain ⟨u1, u2, u3, S⟩ := hs.self (f0 := f0) (H := H0) hF n12 n13 n23
  obtain ⟨v1, v2, v3, a1, a2, a3, e⟩ := do_ok (c := c) S hb hhl (by simp)
  rw [hl] at e
  refine ⟨v1, v2, v3, a1, a2, a3, e.trans ?_⟩
  have ne : ¬ H.length = H.length + 1 := by omega
  simp [scSet, hl, ne]
end
end Go.Gh


/- A frame with a rite that is made: a copy of the scene, a round's appends. -/
namespace Go.Gh
open Go.Proofs
set_option linter.unusedSimpArgs false
set_option linter.unusedVariables false
set_option maxRecDepth 100000
set_option maxHeartbeats 2000000
section
variable {F : Fr} {H : Heap} {r0 : Rite} {acts : List RAct} {sb : Blk}
theorem own_at {H0 : Heap} (hl : H0.length = H.length) {s : Scene} {q : Nat} (hq : q ≤ 2) (h : FI H.length F r0 acts s q) (hS : ScB r0 s) (p0 : r0.people ≠ []) (t0 : r0.things ≠ []) (pl : r0.people.length ≤ 1000000) (tl : r0.things.length ≤ 1000000) (a : RAct) :
    (match gcall KC (geval KC) 36 [scN H.length q s] 54 ([(12, abox a)] :: F :: H0) with | some z => glift ([(12, abox a)] :: F :: H0) (.bptr (H.length, 8) 0) z | none => none) =
      some (scN H.length (nxt q) s, [(12, abox a)] :: ins3 F (nxt q) 0 0 0 s :: H0) := by
  obtain ⟨n12, n13, n23, _⟩ := keys_ne q hq
  obtain ⟨u1, u2, u3, S⟩ := h.sc.self (f0 := [(12, abox a)]) (H := H0) h.srt n12 n13 n23
  have e1 := hS.pl
  have e2 := hS.hl
  have e3 := hS.tl
  have q0 : 0 < r0.people.length := List.length_pos_iff.2 p0
  have q1 : 0 < r0.things.length := List.length_pos_iff.2 t0
  have ne : ¬ H.length = H.length + 1 := by omega
  have O := own_ok (c := 54) S.toScAt (fun e => by rw [e] at e1; simp at e1; omega) (fun e => by rw [e] at e2; simp at e2; omega) (fun e => by rw [e] at e3; simp at e3; omega) (by omega) (by omega) (by omega) (by simp) (by simp [newKey]) (by simp [newKey]) (by simp [newKey])
  rw [hl] at O
  unfold scN
  rw [O]
  have fr1 : ∀ k, k = key1 1 ∨ k = key2 1 ∨ k = key3 1 → q ≠ 1 → F.get k = none := fun k hk hq1 => by
    cases hg : F.get k with
    | none => rfl
    | some b =>
      have := h.fam k (by rcases hk with rfl | rfl | rfl <;> decide) (by rw [hg]; exact fun e => by cases e)
      exfalso
      match q, hq with
      | 0, _ => rcases hk with rfl | rfl | rfl <;> revert this <;> decide
      | 1, _ => exact hq1 rfl
      | 2, _ => rcases hk with rfl | rfl | rfl <;> revert this <;> decide
  have fr2 : ∀ k, k = key1 2 ∨ k = key2 2 ∨ k = key3 2 → q = 1 → F.get k = none := fun k hk hq1 => by
    cases hg : F.get k with
    | none => rfl
    | some b =>
      have := h.fam k (by rcases hk with rfl | rfl | rfl <;> decide) (by rw [hg]; exact fun e => by cases e)
      exfalso
      subst hq1
      rcases hk with rfl | rfl | rfl <;> revert this <;> decide
  have A : altKey 0 (newKey 54 6) = key1 1 ∧ altKey 0 (newKey 54 10) = key2 1 ∧ altKey 0 (newKey 54 14) = key3 1 ∧ altKey 1 (newKey 54 6) = key1 2 ∧ altKey 1 (newKey 54 10) = key2 2 ∧ altKey 1 (newKey 54 14) = key3 2 := by decide
  obtain ⟨A1, A2, A3, B1, B2, B3⟩ := A
  have N1 : newKey 54 6 = 24631 := by decide
  have N2 : newKey 54 10 = 41015 := by decide
  have N3 : newKey 54 14 = 57399 := by decide
  rw [N1] at A1 B1
  rw [N2] at A2 B2
  rw [N3] at A3 B3
  by_cases hq1 : q = 1
  · have hs : ∃ b, F.get (key1 1) = some b := by
      obtain ⟨v, _, hv⟩ := h.sc.h1
      rw [hq1] at hv; exact ⟨_, hv⟩
    obtain ⟨b1, hb1⟩ := hs
    have g1 := fr2 (key1 2) (.inl rfl) hq1
    have g2 := fr2 (key2 2) (.inr (.inl rfl)) hq1
    have g3 := fr2 (key3 2) (.inr (.inr rfl)) hq1
    have hn : nxt q = 2 := by rw [hq1]; rfl
    rw [hn]
    simp only [key1, key2, key3] at hb1 g1 g2 g3 A1 A2 A3 B1 B2 B3
    simp only [glift, scH, scSet, N1, N2, N3, hl]
    simp [refs, refs2, refs1, dedup, hl, ne, abox, allNew, allFree, noRefF, noRefB, noRefL, noRef, delAll, Fr.del, liftV, liftL, lift1, insAll, A1, A2, A3, B1, B2, B3, hb1, g1, g2, g3, ins3, key1, key2, key3]
  · have g1 := fr1 (key1 1) (.inl rfl) hq1
    have g2 := fr1 (key2 1) (.inr (.inl rfl)) hq1
    have g3 := fr1 (key3 1) (.inr (.inr rfl)) hq1
    have hn : nxt q = 1 := by
      match q, hq with
      | 0, _ => rfl
      | 1, _ => exact absurd rfl hq1
      | 2, _ => rfl
    rw [hn]
    simp only [key1, key2, key3] at g1 g2 g3 A1 A2 A3 B1 B2 B3
    simp only [glift, scH, scSet, N1, N2, N3, hl]
    simp [refs, refs2, refs1, dedup, hl, ne, abox, allNew, allFree, noRefF, noRefB, noRefL, noRef, delAll, Fr.del, liftV, liftL, lift1, insAll, A1, A2, A3, B1, B2, B3, g1, g2, g3, ins3, key1, key2, key3]
end
end Go.Gh


/- A rite that is made: a round. -/
namespace Go.Gh
open Go.Proofs
set_option linter.unusedSimpArgs false
set_option linter.unusedVariables false
set_option maxRecDepth 100000
set_option maxHeartbeats 4000000
theorem fam_noRef {L k : Nat} (hk : famKey k = true) : ((L, 6) : Nm) ≠ (L, k) ∧ ((L, 7) : Nm) ≠ (L, k) ∧ ((L, 8) : Nm) ≠ (L, k) := by
  have ne : ∀ j, famKey j = false → ((L, j) : Nm) ≠ (L, k) := fun j hj e => by
    have := (Prod.mk.inj e).2
    subst this
    rw [hj] at hk; cases hk
  exact ⟨ne 6 (by decide), ne 7 (by decide), ne 8 (by decide)⟩
def mslots (nm : Nm) (L : Nat) (t : Int) (i : Int) : Slots := [(0, .bptr nm 0), (6, .bptr (L, 6) 0), (7, .bptr (L, 7) 0), (8, .bptr (L, 8) 0), (9, .pure (.int .i64 t)), (10, .pure (.int .i64 i))]
theorem mslots_ref {nm : Nm} {L : Nat} {t i : Int} (h : nm.1 < L) (k : Nat) (hk : famKey k = true) : noRefS (L, k) (mslots nm L t i) = true := by
  obtain ⟨a, b, c⟩ := fam_noRef (L := L) hk
  have d : nm ≠ (L, k) := fun e => by rw [e] at h; simp at h
  simp only [mslots, noRefS, noRef, decide_eq_true a, decide_eq_true b, decide_eq_true c, decide_eq_true d]
  rfl
structure RSt (L : Nat) (r0 : Rite) (m : Nat) (T : Int) (F : Fr) (acts : List RAct) (s : Scene) (q : Nat) (t : Int) : Prop where
  fi : FI L F r0 acts s q
  q2 : q ≤ 2
  md : Made r0 acts s t
  ml : acts.length ≤ m
  tT : t ≤ T
variable {H : Heap}
theorem round_none {nm : Nm} (hlt : nm.1 < H.length) (r0 : Rite) (n : Nat) (hb : RB r0 n) (k : Nat) (hk : k ≤ 1000) (m : Nat) (T : Int) (F : Fr) (acts : List RAct) (s : Scene) (q : Nat) (t : Int) (wd : Int) (hR : RSt H.length r0 m T F acts s q t) (Q : GX → GSt → Prop)
    (w : Nat) (wd1 wd2 : Int) (a : RAct) (e1 : upR wd r0.people.length = ((w : Int), wd1)) (hw : w < r0.people.length) (e2 : mightR (withA r0 acts) s w (everyL n r0.things.length r0.people.length w) wd1 = ((a, false), wd2))
    (ih : ∀ F' wd', RSt H.length r0 m T F' acts s q t → WPLc KC needT 12 (lp Try.f12 0) [0, 6, 7, 8, 9, 10] [6, 7, 8, 9] Q (mslots nm H.length t k) (F' :: H.set nm (wbox wd')) 174) :
    WPLc KC needT 12 (lp Try.f12 0) [0, 6, 7, 8, 9, 10] [6, 7, 8, 9] Q (mslots nm H.length t ((k + 1 : Nat) : Int)) (F :: H.set nm (wbox wd)) 174 := by
  have hne : ¬ nm.1 = H.length := by omega
  have hne2 : ¬ nm.1 = H.length + 1 := by omega
  have hne3 : ¬ nm.1 = H.length + 1 + 1 := by omega
  have hle : nm.1 ≤ H.length := by omega
  have hB := fun w f0 f1 => box2 hlt w f0 f1
  have hW := fun w f0 f1 => word2 hlt w f0 f1
  have g7 := hR.fi.g7
  have g8 := hR.fi.g8
  have M := fun f0 c => might_at (f0 := f0) (c := c) hlt hb hR.fi.toFB hR.fi.sc hR.md.snd.toScB w hw wd1
  rw [e2] at M
  have hk1 : (0 : Int) < (k : Int) + 1 := by omega
  have hw1 := w64 (x := (k : Int)) (by omega) (by omega)
  have hkk : ((k : Int) + 1 - 1) = k := by omega
  have pl := hb.pl
  have hpl : ((r0.people.length : Int)) ≤ 9223372036854775807 := by omega
  simp only [riteB, sceneB] at g7 g8
  simp only [riteG, scH, RAct.row] at M
  have hl : ∀ w, (H.set nm (wbox w)).length = H.length := fun w => Heap.length_set _ _ _
  apply WPLc_step
  conv => arg 4; whnf
  simp [mslots, hk1, hl, up_ok, hB, hW, hlt, hne, hne2, Heap.set_up, hle, g7, g8, e1, hpl, M, hkk, hw1]
  obtain ⟨F', eg, hF⟩ := FI.same (H := H.set nm (wbox wd2)) (nt := 174) (sl := mslots nm H.length t k) hR.q2 (by rw [hl]; omega) (by rw [hl]; exact hR.fi) (fun j hj => by rw [hl]; exact mslots_ref hlt j hj)
  rw [hl] at hF
  simp only [mslots] at eg
  rw [eg, WPv_some]
  exact ih F' wd2 ⟨hF, hR.q2, hR.md, hR.ml, hR.tT⟩
section
variable {F : Fr} {r0 : Rite} {acts : List RAct} {s t : Scene} {q : Nat} {H0 : Heap}
theorem own_ex (hl : H0.length = H.length) (hq : q ≤ 2) (h : FI H.length F r0 acts s q) (hS : ScB r0 s) {n : Nat} (hb : RB r0 n) (a : RAct) :
    ∃ F1 z, FM H.length F1 r0 acts s q s ∧ gcall KC (geval KC) 36 [scN H.length q s] 54 ([(12, abox a)] :: F :: H0) = some z ∧
      glift ([(12, abox a)] :: F :: H0) (.bptr (H.length, 8) 0) z = some (scN H.length (nxt q) s, [(12, abox a)] :: F1 :: H0) := by
  have e := own_at hl hq h hS hb.p0 hb.t0 (by have := hb.pl; omega) (by have := hb.tl; omega) a
  cases hg : gcall KC (geval KC) 36 [scN H.length q s] 54 ([(12, abox a)] :: F :: H0) with
  | none => rw [hg] at e; cases e
  | some z =>
    rw [hg] at e
    exact ⟨_, z, h.own hq, rfl, e⟩
theorem do_ex (hl : H0.length = H.length) (hq : q ≤ 2) (h : FM H.length F r0 acts s q t) {w : Nat} {a : RAct} (hb : DoB t w a) (hhl : t.hands.length ≤ 1000000) (f0 : Fr) (c : Nat) :
    ∃ F2, FM H.length F2 r0 acts s q (doV t w a) ∧ gcall KC (geval KC) 37 [scN H.length (nxt q) t, .pure (.agg a.row)] c (f0 :: F :: H0) = some (.pure (.tuple []), f0 :: F2 :: H0) := by
  have hp := nxt_le q
  obtain ⟨n1, n2, n3, _⟩ := keys_ne (nxt q) hp.2
  obtain ⟨v1, v2, v3, a1, a2, a3, e⟩ := do_at (c := c) (f0 := f0) hl h.srt h.nx n1 n2 n3 hb hhl
  have L := doV_len (s := t) (w := w) hb.kind
  exact ⟨_, h.doA hq (by omega) (by omega) (by omega), e⟩
theorem app_ex (hl : H0.length = H.length) (hq : q ≤ 2) (h : FM H.length F r0 acts s q t) (a : RAct) (hn : acts.length ≤ 1000000) :
    ∃ F2 F3, FM H.length F3 r0 (acts ++ [a]) s q t ∧ (∀ (f0 : Fr) (ka : Nat), (acts = [] → ka = 62) → apK H.length ka (apS (H.length, 62) 9 (acts.map RAct.row)) 9 72 [a.row] (f0 :: F :: H0) = some (apS (H.length, 62) 9 ((acts ++ [a]).map RAct.row), f0 :: F2 :: H0)) ∧
      F2.get 7 = some (riteB H.length r0 acts) ∧ F2.ins 7 (riteB H.length r0 (acts ++ [a])) = F3 := by
  have ne : ¬ H.length = H.length + 1 := by omega
  refine ⟨F.ins 62 (.arr 9 ((acts ++ [a]).map RAct.row) 0 false), _, h.app hq (acts' := acts ++ [a]) (by simp), fun f0 ka hka => ?_, ?_, rfl⟩
  · have ek : apK H.length ka (apS (H.length, 62) 9 (acts.map RAct.row)) 9 72 [a.row] (f0 :: F :: H0) = apK H.length 62 (apS (H.length, 62) 9 (acts.map RAct.row)) 9 72 [a.row] (f0 :: F :: H0) := by
      by_cases e : acts = []
      · rw [hka e]
      · unfold apS
        rw [if_neg (by simpa using e)]
        rfl
    rw [ek, apK_apS (fun hr => ?_) (fun hr => ?_) (by simp [hl]; omega) (by simp; omega)]
    · simp [hl, ne]
    · have : acts = [] := by simpa using hr
      simp [hl, ne, h.ga0 this]
    · have : acts ≠ [] := by intro e; subst e; exact hr rfl
      simp [hl, ne, h.ga this]
  · rw [Fr.get_ins_other _ (by decide)]; exact h.g7
end
end Go.Gh


/- A rite that is made: a round in which something is done. -/
namespace Go.Gh
open Go.Proofs
set_option linter.unusedSimpArgs false
set_option linter.unusedVariables false
set_option maxRecDepth 100000
set_option maxHeartbeats 8000000
variable {H : Heap}
theorem pick112 (wd : Int) : ∃ (p wd' : Int), pickR wd [1, 1, 2] = (p, wd') ∧ 1 ≤ p ∧ p ≤ 2 := by
  have h := upR_rng wd 3 (by omega)
  obtain ⟨y, hy⟩ : ∃ y, upR wd 3 = y := ⟨_, rfl⟩
  rw [hy] at h
  have e : pickR wd [1, 1, 2] = (List.getD [1, 1, 2] y.1.toNat 0, y.2) := by
    rw [pickR_def, if_neg (by simp)]
    show (List.getD [1, 1, 2] (upR wd 3).1.toNat 0, (upR wd 3).2) = _
    rw [hy]
  refine ⟨_, _, e, ?_⟩
  have : y.1.toNat = 0 ∨ y.1.toNat = 1 ∨ y.1.toNat = 2 := by omega
  rcases this with e | e | e <;> rw [e] <;> decide
theorem round_fin {nm : Nm} (hlt : nm.1 < H.length) (r0 : Rite) (k m : Nat) (T : Int) (F : Fr) (acts : List RAct) (s : Scene) (q : Nat) (t : Int) (hR : RSt H.length r0 m T F acts s q t) (Q : GX → GSt → Prop)
    (ih : ∀ F' acts' s' q' t' wd', RSt H.length r0 (m + 2) (T + 2) F' acts' s' q' t' → WPLc KC needT 12 (lp Try.f12 0) [0, 6, 7, 8, 9, 10] [6, 7, 8, 9] Q (mslots nm H.length t' k) (F' :: H.set nm (wbox wd')) 174)
    (F4 : Fr) (acts' : List RAct) (t2 : Scene) (p wd' : Int) (fm : FM H.length F4 r0 acts' s q t2) (h1 : t2.people.length = s.people.length ∧ t2.hands.length = s.hands.length ∧ t2.things.length = s.things.length)
    (hM : Made r0 acts' t2 (t + p)) (hp : p ≤ 2) (hl' : acts'.length ≤ m + 2) :
    WPv (gcol ⟨[(0, GV.bptr nm 0), (6, GV.bptr (H.length, 6) 0), (7, GV.bptr (H.length, 7) 0), (8, GV.bptr (H.length, 8) 0), (9, GV.pure (PV.int IntKind.i64 (t + p))), (10, GV.pure (PV.int IntKind.i64 (k : Int)))],
        Fr.ins 8 (Blk.box [GV.hdr (H.length, key1 (nxt q)) 1 s.people.length 0 s.people.length, GV.hdr (H.length, key2 (nxt q)) 2 s.hands.length 0 s.hands.length, GV.hdr (H.length, key3 (nxt q)) 2 s.things.length 0 s.things.length]) F4 :: H.set nm (wbox wd'), 174⟩)
      fun st => WPLc KC needT 12 (lp Try.f12 0) [0, 6, 7, 8, 9, 10] [6, 7, 8, 9] Q st.s st.h st.nt := by
  have hl : ∀ w, (H.set nm (wbox w)).length = H.length := fun w => Heap.length_set _ _ _
  obtain ⟨F', eg, hF⟩ := FM.fin (H := H.set nm (wbox wd')) (nt := 174) (sl := mslots nm H.length (t + p) k) (by rw [hl]; omega) (by rw [hl]; exact fm) (fun j hj => by rw [hl]; exact mslots_ref hlt j hj)
  rw [hl] at hF
  simp only [mslots, sceneB, h1, hl] at eg
  rw [eg, WPv_some]
  have tT := hR.tT
  exact ih F' acts' t2 (nxt q) (t + p) wd' ⟨hF, (nxt_le q).2, hM, hl', by omega⟩
theorem round_some {nm : Nm} (hlt : nm.1 < H.length) (r0 : Rite) (n : Nat) (hb : RB r0 n) (hn : r0.wide * r0.deep = n) (k : Nat) (hk : k ≤ 1000) (m : Nat) (hm : m ≤ 10000) (T : Int) (hT : T ≤ 1000000) (F : Fr) (acts : List RAct) (s : Scene) (q : Nat) (t : Int) (wd : Int) (hR : RSt H.length r0 m T F acts s q t) (Q : GX → GSt → Prop)
    (w : Nat) (wd1 wd2 : Int) (a : RAct) (e1 : upR wd r0.people.length = ((w : Int), wd1)) (hw : w < r0.people.length) (e2 : mightR (withA r0 acts) s w (everyL n r0.things.length r0.people.length w) wd1 = ((a, true), wd2))
    (hA : AB r0 w a) (pa : posV r0 s w a = true) (za : a.seasons = 0 ∧ a.rank = 0)
    (o : Nat) (wd3 wd4 : Int) (x : RAct) (bx : Bool) (e3 : upR wd2 r0.people.length = ((o : Int), wd3)) (ho : o < r0.people.length) (e4 : mightR (withA r0 (acts ++ [setAt a t])) s o (everyL n r0.things.length r0.people.length o) wd3 = ((x, bx), wd4))
    (hX : bx = true → AB r0 o x ∧ posV r0 s o x = true ∧ x.seasons = 0 ∧ x.rank = 0)
    (ih : ∀ F' acts' s' q' t' wd', RSt H.length r0 (m + 2) (T + 2) F' acts' s' q' t' → WPLc KC needT 12 (lp Try.f12 0) [0, 6, 7, 8, 9, 10] [6, 7, 8, 9] Q (mslots nm H.length t' k) (F' :: H.set nm (wbox wd')) 174) :
    WPLc KC needT 12 (lp Try.f12 0) [0, 6, 7, 8, 9, 10] [6, 7, 8, 9] Q (mslots nm H.length t ((k + 1 : Nat) : Int)) (F :: H.set nm (wbox wd)) 174 := by
  have hne : ¬ nm.1 = H.length := by omega
  have hne2 : ¬ nm.1 = H.length + 1 := by omega
  have hne3 : ¬ nm.1 = H.length + 1 + 1 := by omega
  have hle : nm.1 ≤ H.length := by omega
  have hl : ∀ w, (H.set nm (wbox w)).length = H.length := fun w => Heap.length_set _ _ _
  have hB := fun w f0 f1 => box2 hlt w f0 f1
  have hW := fun w f0 f1 => word2 hlt w f0 f1
  have g7 := hR.fi.g7
  have g8 := hR.fi.g8
  have hS := hR.md.snd
  have M := fun f0 c => might_at (f0 := f0) (c := c) hlt hb hR.fi.toFB hR.fi.sc hS.toScB w hw wd1
  rw [e2] at M
  have hk1 : (0 : Int) < (k : Int) + 1 := by omega
  have hw1 := w64 (x := (k : Int)) (by omega) (by omega)
  have hkk : ((k : Int) + 1 - 1) = k := by omega
  have pl := hb.pl
  have tl := hb.tl
  have ml := hR.ml
  have hpl : ((r0.people.length : Int)) ≤ 9223372036854775807 := by omega
  have t0 := hR.md.t0
  have tT := hR.tT
  have hA' : AB r0 w (setAt a t) := AB_setAt hA
  have pa' : posV r0 s w (setAt a t) = true := posV_setAt.trans pa
  have eh := hS.hl
  -- the copy, the act, the append
  obtain ⟨F1, z, fm1, ow1, ow2⟩ := own_ex (H0 := H.set nm (wbox wd2)) (hl _) hR.q2 hR.fi hS.toScB hb (setAt a t)
  obtain ⟨F2, fm2, dd⟩ := do_ex (H0 := H.set nm (wbox wd2)) (hl _) hR.q2 fm1 (DoB_of hS hA' pa') (by omega) [(12, abox (setAt a t)), (14, .box [.hdr (H.length, key1 (nxt q)) 1 s.people.length 0 s.people.length, .hdr (H.length, key2 (nxt q)) 2 s.hands.length 0 s.hands.length, .hdr (H.length, key3 (nxt q)) 2 s.things.length 0 s.things.length])] 57
  obtain ⟨F3, F4, fm4, ap1, f37, f34⟩ := app_ex (H0 := H.set nm (wbox wd2)) (hl _) hR.q2 fm2 (setAt a t) (by omega)
  have g71 := fm1.g7
  have g81 := fm1.g8
  have g72 := fm2.g7
  have g82 := fm2.g8
  have g74 := fm4.g7
  have g84 := fm4.g8
  have M2 := fun f0 c => might_at (f0 := f0) (c := c) hlt hb fm4.toFB fm4.sc hS.toScB o ho wd3
  rw [e4] at M2
  have LD := doV_len (s := s) (w := w) hA'.kind
  have ewho : (setAt a t).who.toNat = w := by rw [hA'.who]; simp
  have hM1 : ∀ p : Int, 1 ≤ p → Made r0 (acts ++ [setAt a t]) (doV s w (setAt a t)) (t + p) := fun p hp => by
    have := hR.md.grp (g := [setAt a t]) (t' := t + p) ⟨fun b hb' => by simp only [List.mem_singleton] at hb'; subst hb'; rw [ewho]; exact ⟨hA', pa'⟩, List.pairwise_singleton ..⟩ (by simp) (fun b hb' => by simp only [List.mem_singleton] at hb'; subst hb'; exact ⟨rfl, za⟩) (by omega)
    rwa [doG_cons, ewho, doG_nil] at this
  simp only [riteB, sceneB] at g7 g8 g71 g81 g72 g82 f37 f34 g74 g84
  have LD' := LD
  have ap1 := fun f0 => ap1 f0 62 (fun _ => rfl)
  simp only [riteG, scH, scN, RAct.row, setAt, abox, List.map_append, List.map_cons, List.map_nil] at LD' M M2 ow1 ow2 dd ap1 f37 f34 g74
  have P := fun (f0 : Fr) (w : Int) (c : Nat) => pick_ok (c := c) (l := [1, 1, 2]) (hB w f0 F4) (by simp)
  simp only [irow, List.map_cons, List.map_nil, hW] at P
  apply WPLc_step
  conv => arg 4; whnf
  cases bx with
  | false =>
    obtain ⟨p, wd6, e6, p1, p2⟩ := pick112 wd4
    have hwp := w64 (x := t + p) (by omega) (by omega)
    simp [mslots, hk1, hl, up_ok, hB, hW, hlt, hne, hne2, Heap.set_up, hle, g7, g8, e1, hpl, M, hkk, hw1, ow1, ow2, g71, g81, dd, g72, g82, ap1, f37, f34, g74, g84, e3, M2, P, e6, hwp]
    exact round_fin hlt r0 k m T F acts s q t hR Q ih F4 _ _ p wd6 fm4 LD (hM1 p p1) p2 (by simp; omega)
  | true =>
    obtain ⟨hX1, px, zx⟩ := hX rfl
    by_cases how : o = w
    · obtain ⟨p, wd6, e6, p1, p2⟩ := pick112 wd4
      have hwp := w64 (x := t + p) (by omega) (by omega)
      subst how
      simp [mslots, hk1, hl, up_ok, hB, hW, hlt, hne, hne2, Heap.set_up, hle, g7, g8, e1, hpl, M, hkk, hw1, ow1, ow2, g71, g81, dd, g72, g82, ap1, f37, f34, g74, g84, e3, M2, P, e6, hwp]
      exact round_fin hlt r0 k m T F acts s q t hR Q ih F4 _ _ p wd6 fm4 LD (hM1 p p1) p2 (by simp; omega)
    · have how' : ((o : Int) == (w : Int)) = false := by simp; omega
      have how2 : ((o : Int) != (w : Int)) = true := by simp; omega
      obtain ⟨wd5, e5⟩ : ∃ y, oneR wd4 2 = y := ⟨_, rfl⟩
      obtain ⟨b1, wd5⟩ := wd5
      obtain ⟨p, wd6, e6, p1, p2⟩ := pick112 wd5
      have hwp := w64 (x := t + p) (by omega) (by omega)
      cases b1 with
      | false =>
        simp [mslots, hk1, hl, up_ok, one_ok, hB, hW, hlt, hne, hne2, Heap.set_up, hle, g7, g8, e1, hpl, M, hkk, hw1, ow1, ow2, g71, g81, dd, g72, g82, ap1, f37, f34, g74, g84, e3, M2, P, e6, hwp, how', how2, e5]
        exact round_fin hlt r0 k m T F acts s q t hR Q ih F4 _ _ p wd6 fm4 LD (hM1 p p1) p2 (by simp; omega)
      | true =>
        have AP := fun (f0 : Fr) (c : Nat) => apart_at (c := c) (f0 := f0) (H0 := H.set nm (wbox wd5)) (hl _) fm4.sc hS.toScB (a := setAt a t) (b := x) hw ho hA'.who hA'.hand hX1.who hX1.hand
        cases hap : apartV s w (setAt a t) o x with
        | false =>
          rw [hap] at AP
          simp only [scH, RAct.row, setAt] at AP
          simp [mslots, hk1, hl, up_ok, one_ok, hB, hW, hlt, hne, hne2, Heap.set_up, hle, g7, g8, e1, hpl, M, hkk, hw1, ow1, ow2, g71, g81, dd, g72, g82, ap1, f37, f34, g74, g84, e3, M2, P, e6, hwp, how', how2, e5, AP]
          exact round_fin hlt r0 k m T F acts s q t hR Q ih F4 _ _ p wd6 fm4 LD (hM1 p p1) p2 (by simp; omega)
        | true =>
          rw [hap] at AP
          have hap' := apart_iff.1 hap
          have hX' : AB r0 o (setAt x t) := AB_setAt hX1
          have px' : posV r0 s o (setAt x t) = true := posV_setAt.trans px
          have hap2 : Apa (touchV s w (setAt a t)) (touchV s o (setAt x t)) := by rw [touchV_setAt (a := x)]; exact hap'
          have one := after_one hS hA' hX' pa' px' hap2
          have S1 := hS.doA hA' pa'
          have e1h := S1.hl
          obtain ⟨F5, fm5, dd5⟩ := do_ex (H0 := H.set nm (wbox wd5)) (hl _) hR.q2 fm4 (DoB_of S1 hX' one.2.1) (by omega) [(12, abox (setAt a t)), (14, .box [.hdr (H.length, key1 (nxt q)) 1 s.people.length 0 s.people.length, .hdr (H.length, key2 (nxt q)) 2 s.hands.length 0 s.hands.length, .hdr (H.length, key3 (nxt q)) 2 s.things.length 0 s.things.length]), (16, abox (setAt x t))] 97
          obtain ⟨F6, F7, fm7, ap5, f67, f76⟩ := app_ex (H0 := H.set nm (wbox wd5)) (hl _) hR.q2 fm5 (setAt x t) (by simp; omega)
          have g75 := fm5.g7
          have g85 := fm5.g8
          have g77 := fm7.g7
          have g87 := fm7.g8
          have L2 := doV_len (s := doV s w (setAt a t)) (w := o) hX'.kind
          have P5 := fun (f0 : Fr) (w : Int) (c : Nat) => pick_ok (c := c) (l := [1, 1, 2]) (hB w f0 F7) (by simp)
          have ewho2 : (setAt x t).who.toNat = o := by rw [hX'.who]; simp
          have hM2 : Made r0 (acts ++ [setAt a t, setAt x t]) (doV (doV s w (setAt a t)) o (setAt x t)) (t + p) := by
            have := hR.md.grp (g := [setAt a t, setAt x t]) (t' := t + p) ⟨fun b hb' => by
              simp only [List.mem_cons, List.not_mem_nil, or_false] at hb'
              rcases hb' with rfl | rfl
              · rw [ewho]; exact ⟨hA', pa'⟩
              · rw [ewho2]; exact ⟨hX', px'⟩, by
                rw [List.pairwise_cons]
                refine ⟨fun b hb' => ?_, List.pairwise_singleton ..⟩
                simp only [List.mem_singleton] at hb'
                subst hb'
                unfold tch
                rw [ewho, ewho2]; exact hap2⟩ (by simp) (fun b hb' => by
              simp only [List.mem_cons, List.not_mem_nil, or_false] at hb'
              rcases hb' with rfl | rfl
              · exact ⟨rfl, za⟩
              · exact ⟨rfl, zx⟩) (by omega)
            rwa [doG_cons, ewho, doG_cons, ewho2, doG_nil] at this
          have ap5 := fun f0 => ap5 f0 102 (fun e => by simp at e)
          simp only [riteB, sceneB] at g75 g85 g77 g87 f67 f76
          simp only [scH, scN, RAct.row, setAt, abox, List.map_append, List.map_cons, List.map_nil, LD', List.append_assoc, List.cons_append, List.nil_append] at AP dd5 ap5 f67 f76 g75 g77
          simp only [irow, List.map_cons, List.map_nil, hW] at P5
          simp [mslots, hk1, hl, up_ok, one_ok, hB, hW, hlt, hne, hne2, Heap.set_up, hle, g7, g8, e1, hpl, M, hkk, hw1, ow1, ow2, g71, g81, dd, g72, g82, ap1, f37, f34, g74, g84, e3, M2, P, e6, hwp, how', how2, e5, AP, dd5, g75, g85, ap5, f67, f76, g77, g87, P5]
          exact round_fin hlt r0 k m T F acts s q t hR Q ih F7 _ _ p wd6 fm7 (by omega) (by rw [List.append_assoc]; exact hM2) p2 (by simp; omega)
end Go.Gh
