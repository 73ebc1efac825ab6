/- Maps. -/
import Derived.Test.YtgmohiojddnfgaaGreatDoorGhost15
import Derived.MapKept
namespace Go.Gh
open Go.MapKept
set_option linter.unusedSimpArgs false
set_option linter.unusedVariables false

section
variable {w : World} {S : Nat → Prop} {μ : Mu} {H : Heap} {P : Program} {ℓ : Nat}

theorem keyFits_is {kt : TypeId} {v : Value} {p : PV} (hv : PRep w S v p) (h : keyFits P kt p = true) : ∃ d, P.underlying kt = some d ∧ IsKey d v ∧ v = scalV p := by
  unfold keyFits at h
  split at h
  · rename_i hu; cases hv; simp at h; exact ⟨_, hu, by simp [IsKey, h], rfl⟩
  · rename_i hu; cases hv; exact ⟨_, hu, by simp [IsKey], by simp [scalV]⟩
  · rename_i hu; cases hv; exact ⟨_, hu, by simp [IsKey], rfl⟩
  · cases h

theorem rowEq_eq : ∀ {a b : List PV}, rowEq a b = some true → a = b
  | [], b, h => by cases b <;> simp_all [rowEq]
  | x :: a, b, h => by
    cases b with
    | nil => cases x <;> simp [rowEq] at h
    | cons y b =>
      cases x <;> cases y <;> simp only [rowEq] at h
      all_goals first | (cases h; done) | skip
      · split at h
        · rename_i hk; subst hk
          split at h
          · rename_i q hq
            simp only [Option.some.injEq, Bool.and_eq_true, beq_iff_eq] at h
            obtain ⟨rfl, rfl⟩ := h
            rw [rowEq_eq hq]
          · cases h
        · cases h
      · split at h
        · rename_i q hq
          simp only [Option.some.injEq, Bool.and_eq_true, beq_iff_eq] at h
          obtain ⟨rfl, rfl⟩ := h
          rw [rowEq_eq hq]
        · cases h
      · split at h
        · rename_i q hq
          simp only [Option.some.injEq, Bool.and_eq_true, beq_iff_eq] at h
          obtain ⟨rfl, rfl⟩ := h
          rw [rowEq_eq hq]
        · cases h

theorem keyEq_eq {a b : PV} (h : keyEq a b = some true) : a = b := by
  unfold keyEq at h
  split at h
  · simp_all
  · simp_all
  · simp_all
  · rw [rowEq_eq h]
  · cases h

theorem toArray_bytes (s : ByteArray) : (⟨s.data.toList.toArray⟩ : ByteArray) = s := by simp

theorem sameNow_of {d : TypeDesc} {v u : Value} {p q : PV} {r : Bool} (hv : PRep w S v p) (hu : PRep w S u q) (hd : IsKey d v) (h : keyEq p q = some r) : Instr.sameNow d v u = some r := by
  unfold keyEq at h
  split at h
  · cases hv; cases hu
    split at h
    · rename_i hk; subst hk
      cases d <;> simp [IsKey] at hd
      simp only [Option.some.injEq] at h; subst h
      simp [Instr.sameNow]
    · cases h
  · cases hv; cases hu
    cases d <;> simp [IsKey] at hd
    simp only [Option.some.injEq] at h; subst h
    rename_i s1 s2
    have : (s1 == s2) = (s1.data.toList == s2.data.toList) := by
      rw [Bool.eq_iff_iff, bytes_beq]
      simp
      constructor
      · intro h; rw [h]
      · intro h; cases s1; cases s2; simp_all
    simp [Instr.sameNow, this]
  · cases hv; cases hu
    cases d <;> simp [IsKey] at hd
    simp only [Option.some.injEq] at h; subst h
    simp [Instr.sameNow]
  · cases hv
    cases d <;> simp [IsKey] at hd
  · cases h

theorem keyEq_scal {d : TypeDesc} {v : Value} {p q : PV} {r : Bool} (hv : PRep w S v p) (hd : IsKey d v) (h : keyEq p q = some r) : (∃ k n, p = .int k n) ∨ (∃ b, p = .bool b) ∨ ∃ l, p = .str l := by
  unfold keyEq at h
  split at h
  · exact .inl ⟨_, _, rfl⟩
  · exact .inr (.inr ⟨_, rfl⟩)
  · exact .inr (.inl ⟨_, rfl⟩)
  · cases hv
    cases d <;> simp [IsKey] at hd
  · cases h

def EntRel (w : World) (S : Nat → Prop) (μ : Mu) (k : Nat) (m : MapEntry) (e : PV × GV) : Prop := PRep w S m.key e.1 ∧ VRel w S μ k m.val e.2

theorem find_run {d : TypeDesc} {v : Value} {p : PV} {k : Nat} (hv : PRep w S v p) (hd : IsKey d v) : ∀ (ms : List MapEntry) (es : List (PV × GV)) (i : Nat) (r : Option (Nat × GV)), ms.length = es.length →
    (∀ (j : Nat) (m : MapEntry) (e : PV × GV), ms[j]? = some m → es[j]? = some e → EntRel w S μ k m e) → findEntry p es i = some r →
    ∃ r', Instr.findNow d v ms i = some r' ∧ (match r, r' with
      | none, none => True
      | some (n, g), some (n', u) => n = n' ∧ VRel w S μ k u g ∧ i ≤ n ∧ ∃ m, ms[n - i]? = some m ∧ m.key = v
      | _, _ => False)
  | [], es, i, r, hl, _, h => by
    have : es = [] := List.eq_nil_of_length_eq_zero (by simpa using hl.symm)
    subst this
    simp only [findEntry, Option.some.injEq] at h; subst h
    exact ⟨none, rfl, trivial⟩
  | m :: ms, es, i, r, hl, hr, h => by
    cases es with
    | nil => simp at hl
    | cons e es =>
    obtain ⟨q, g⟩ := e
    obtain ⟨h1, h2⟩ := hr 0 m (q, g) (by simp) (by simp)
    simp only [findEntry] at h
    split at h
    · rename_i hq
      simp only [Option.some.injEq] at h; subst h
      refine ⟨some (i, m.val), by simp [Instr.findNow, sameNow_of hv h1 hd hq], rfl, h2, Nat.le_refl _, m, by simp, ?_⟩
      have hsc := keyEq_scal hv hd hq
      have e := keyEq_eq hq
      subst e
      rw [scalV_of hv hsc]; exact scalV_of h1 hsc
    · rename_i hq
      obtain ⟨r', a1, a2⟩ := find_run hv hd ms es (i + 1) r (by simpa using hl) (fun j m' e' a b => hr (j + 1) m' e' (by simpa using a) (by simpa using b)) h
      refine ⟨r', by simp [Instr.findNow, sameNow_of hv h1 hd hq, a1], ?_⟩
      match r, r', a2 with
      | none, none, _ => trivial
      | some (n, g), some (n', u), a2 =>
        obtain ⟨b1, b2, b3, m', b4, b5⟩ := a2
        refine ⟨b1, b2, by omega, m', ?_, b5⟩
        have : n - i = (n - (i + 1)) + 1 := by omega
        rw [this]; simpa using b4
    · cases h

theorem rowEq_fits : ∀ {ks : List SK} {a b : List PV} {q : Bool}, fitsRow ks a = true → rowEq a b = some q → eqRow ks a b = some q
  | [], a, b, q, hf, h => by cases a <;> simp [fitsRow] at hf; cases b <;> simp_all [rowEq, eqRow]
  | s :: ks, [], b, q, hf, h => by cases s <;> simp [fitsRow] at hf
  | s :: ks, x :: a, [], q, hf, h => by cases x <;> simp [rowEq] at h
  | s :: ks, x :: a, y :: b, q, hf, h => by
    cases s <;> cases x <;> simp only [fitsRow, Bool.false_eq_true] at hf
    all_goals cases y <;> simp only [rowEq] at h
    all_goals first | (cases h; done) | skip
    · simp only [Bool.and_eq_true, decide_eq_true_eq] at hf
      obtain ⟨rfl, hf⟩ := hf
      split at h
      · rename_i hk; subst hk
        split at h
        · rename_i q' hq
          simp only [eqRow, and_self, if_true, rowEq_fits hf hq]; exact h
        · cases h
      · cases h
    · split at h
      · rename_i q' hq
        simp only [eqRow, rowEq_fits hf hq]; exact h
      · cases h
    · split at h
      · rename_i q' hq
        simp only [eqRow, rowEq_fits hf hq]; exact h
      · cases h

theorem rowEq_self : ∀ {ks : List SK} {a : List PV}, fitsRow ks a = true → rowEq a a = some true
  | [], a, hf => by cases a <;> simp_all [fitsRow, rowEq]
  | s :: ks, [], hf => by cases s <;> simp [fitsRow] at hf
  | s :: ks, x :: a, hf => by
    cases s <;> cases x <;> simp only [fitsRow, Bool.false_eq_true] at hf
    · simp only [Bool.and_eq_true] at hf
      simp [rowEq, rowEq_self hf.2]
    · simp [rowEq, rowEq_self hf]
    · simp [rowEq, rowEq_self hf]

theorem PRep.row_inv {v : Value} {a : List PV} (h : PRep w S v (.agg a)) (hp : ∀ p ∈ a, (∃ k n, p = .int k n) ∨ (∃ b, p = .bool b) ∨ ∃ l, p = .str l) : v = .agg (a.map scalV).toArray := by
  have h0 : VRel w S (fun _ _ => none) 0 v (.pure (.agg a)) := .pure _ _ h
  obtain ⟨vs, rfl, hc⟩ := h0.agg_inv
  have := scal_cells hc hp
  rw [← this]

theorem sameBits_self (a : List PV) (n : Nat) (hp : ∀ p ∈ a, (∃ k n, p = .int k n) ∨ (∃ b, p = .bool b) ∨ ∃ l, p = .str l) : Instr.sameBits (n + 1) (.agg (a.map scalV).toArray) (.agg (a.map scalV).toArray) = true := by
  have h1 : ∀ p ∈ a, Instr.sameBits n (scalV p) (scalV p) = true := fun p hp' => by
    rcases hp p hp' with ⟨k, m, rfl⟩ | ⟨b, rfl⟩ | ⟨l, rfl⟩
    · cases n <;> simp [scalV, Instr.sameBits]
    · cases n <;> simp [scalV, Instr.sameBits]
    · have : ((⟨l.toArray⟩ : ByteArray) == ⟨l.toArray⟩) = true := by rw [bytes_beq]
      cases n <;> simp [scalV, Instr.sameBits, this]
  simp only [Instr.sameBits, beq_self_eq_true, Bool.true_and, List.all_eq_true]
  intro x hx
  have : ∀ (l : List PV), (∀ p ∈ l, Instr.sameBits n (scalV p) (scalV p) = true) → ∀ x ∈ (l.map scalV).zip (l.map scalV), Instr.sameBits n x.1 x.2 = true := by
    intro l
    induction l with
    | nil => intro _ x hx; simp at hx
    | cons p l ih =>
      intro hl x hx
      simp only [List.map_cons, List.zip_cons_cons, List.mem_cons] at hx
      rcases hx with rfl | hx
      · exact hl p (by simp)
      · exact ih (fun q hq => hl q (by simp [hq])) x hx
  exact this a h1 x (by simpa using hx)

/-- What a key is good for. -/
theorem key_run (K : Ctx) (hK : CtxOk K) {kt : TypeId} {v : Value} {p : PV} {k : Nat} (hv : PRep w S v p) (h : keyFitsK K kt p = true) :
    (∀ em, (Instr.checkKey em 10000 kt v).run K.P w = .ok () w) ∧
    (∀ (ms : List MapEntry) (es : List (PV × GV)) (r : Option (Nat × GV)), ms.length = es.length → (∀ (j : Nat) (m : MapEntry) (e : PV × GV), ms[j]? = some m → es[j]? = some e → EntRel w S μ k m e) → findEntry p es 0 = some r →
      ∃ r', (Instr.findKey kt v ms).run K.P w = .ok r' w ∧ (match r, r' with
        | none, none => True
        | some (n, g), some (n', u) => n = n' ∧ VRel w S μ k u g ∧ ∃ m, ms[n]? = some m ∧ m.key = v
        | _, _ => False)) ∧
    (Instr.keyThatStays v v).run K.P w = .ok v w := by
  unfold keyFitsK at h
  simp only [Bool.or_eq_true] at h
  rcases h with h | h
  · obtain ⟨d, d1, d2, d3⟩ := keyFits_is hv h
    refine ⟨fun em => run_checkKey d1 d2 em 9999, fun ms es r hl hr hf => ?_, by simpa using run_keyThatStays d2⟩
    obtain ⟨r', f1, f2⟩ := find_run hv d2 ms es 0 r hl hr hf
    refine ⟨r', run_findKey (w := w) d1 f1, ?_⟩
    match r, r', f2 with
    | none, none, _ => trivial
    | some (n, g), some (n', u), f2 =>
      obtain ⟨b1, b2, _, m, b4, b5⟩ := f2
      exact ⟨b1, b2, m, by simpa using b4, b5⟩
  · split at h
    · rename_i ks a d0 hks hund
      obtain ⟨e1, e2⟩ := hK.eqs kt ks hks
      have hself := rowEq_fits h (rowEq_self h)
      have hsc := (eqRow_scal ks a a true hself).1
      have hva := hv.row_inv hsc
      subst hva
      refine ⟨fun em => (e2 a a true hself w).2 em, ?_, ?_⟩
      · have ask : ∀ (ms : List MapEntry) (es : List (PV × GV)) (i : Nat) (r : Option (Nat × GV)), ms.length = es.length → (∀ (j : Nat) (m : MapEntry) (e : PV × GV), ms[j]? = some m → es[j]? = some e → EntRel w S μ k m e) →
            findEntry (.agg a) es i = some r → ∃ r', (Instr.findAsking kt (.agg (a.map scalV).toArray) ms i).run K.P w = .ok r' w ∧ (match r, r' with
              | none, none => True
              | some (n, g), some (n', u) => n = n' ∧ VRel w S μ k u g ∧ i ≤ n ∧ ∃ m, ms[n - i]? = some m ∧ m.key = .agg (a.map scalV).toArray
              | _, _ => False) := by
          intro ms
          induction ms with
          | nil =>
            intro es i r hl hr hf
            have : es = [] := List.eq_nil_of_length_eq_zero (by simpa using hl.symm)
            subst this
            simp only [findEntry, Option.some.injEq] at hf; subst hf
            exact ⟨none, by simp [Instr.findAsking], trivial⟩
          | cons m ms ih =>
            intro es i r hl hr hf
            cases es with
            | nil => simp at hl
            | cons e es =>
            obtain ⟨q, g⟩ := e
            obtain ⟨h1, h2⟩ := hr 0 m (q, g) (by simp) (by simp)
            simp only [findEntry] at hf
            have heq : ∀ bq, keyEq (.agg a) q = some bq → (Op.equal kt (.agg (a.map scalV).toArray) m.key).run K.P w = .ok bq w := fun bq hq => by
              cases q <;> simp only [keyEq] at hq
              all_goals first | (cases hq; done) | skip
              rename_i b
              have hr := rowEq_fits h hq
              have hb := (eqRow_scal ks a b bq hr).2
              rw [h1.row_inv hb]
              exact (e2 a b bq hr w).1
            split at hf
            · rename_i hq
              simp only [Option.some.injEq] at hf; subst hf
              refine ⟨some (i, m.val), by simp [Instr.findAsking, heq true hq], rfl, h2, Nat.le_refl _, m, by simp, ?_⟩
              cases q <;> simp only [keyEq] at hq
              all_goals first | (cases hq; done) | skip
              rename_i b
              obtain rfl := rowEq_eq hq
              exact PRep.row_inv h1 hsc
            · rename_i hq
              obtain ⟨r', a1, a2⟩ := ih es (i + 1) r (by simpa using hl) (fun j m' e' a b => hr (j + 1) m' e' (by simpa using a) (by simpa using b)) hf
              refine ⟨r', by simp [Instr.findAsking, heq false hq, a1], ?_⟩
              match r, r', a2 with
              | none, none, _ => trivial
              | some (n, g), some (n', u), a2 =>
                obtain ⟨b1, b2, b3, m', b4, b5⟩ := a2
                refine ⟨b1, b2, by omega, m', ?_, b5⟩
                have : n - i = (n - (i + 1)) + 1 := by omega
                rw [this]; simpa using b4
            · cases hf
        intro ms es r hl hr hf
        have hkey : (Instr.findKey kt (.agg (a.map scalV).toArray) ms).run K.P w = (match ms with | [] => .ok none w | ms => (Instr.findAsking kt (.agg (a.map scalV).toArray) ms).run K.P w) := by
          unfold Instr.findKey
          have hd : (underlying kt).run K.P w = .ok d0 w := r_underlying w hund
          cases ms with
          | nil => simp [hd, Instr.findNow]
          | cons m ms =>
            have : Instr.sameNow d0 (.agg (a.map scalV).toArray) m.key = none := by cases d0 <;> rfl
            simp [hd, Instr.findNow, this]
        cases ms with
        | nil =>
          have : es = [] := List.eq_nil_of_length_eq_zero (by simpa using hl.symm)
          subst this
          simp only [findEntry, Option.some.injEq] at hf; subst hf
          exact ⟨none, hkey, trivial⟩
        | cons m ms =>
          obtain ⟨r', a1, a2⟩ := ask (m :: ms) es 0 r hl hr hf
          refine ⟨r', hkey.trans a1, ?_⟩
          match r, r', a2 with
          | none, none, _ => trivial
          | some (n, g), some (n', u), a2 =>
            obtain ⟨b1, b2, _, m', b4, b5⟩ := a2
            exact ⟨b1, b2, m', by simpa using b4, b5⟩
      · have := sameBits_self a 9999 hsc
        unfold Instr.keyThatStays
        rw [this]
        rfl
    · cases h

theorem tmap_some {t kt e : TypeId} (h : tmap P t = some (kt, e)) : P.underlying t = some (.map kt e) := by
  unfold tmap at h
  split at h
  · rename_i hu; simp at h; obtain ⟨rfl, rfl⟩ := h; exact hu
  · cases h

theorem mapOf_run (hH : HRel w S μ H) {k : Nat} {v : Value} {x : GV} {es : List (PV × GV)} (hx : VRel w S μ k v x) (h : mapOf H x = some es) :
    ∃ ms : Array MapEntry, ((v = .map none ∧ ms = #[]) ∨ ∃ b clock, v = .map (some b) ∧ w.heap[b]? = some (.map ms clock)) ∧ ms.toList.length = es.length ∧
      ∀ (j : Nat) (m : MapEntry) (e : PV × GV), ms.toList[j]? = some m → es[j]? = some e → EntRel w S μ k m e := by
  unfold mapOf at h
  split at h
  · simp only [Option.some.injEq] at h; subst h
    have := hx.pv
    cases this
    exact ⟨#[], .inl ⟨rfl, rfl⟩, rfl, fun j m e h => by simp at h⟩
  · rename_i nm
    split at h
    · rename_i es' hg
      simp only [Option.some.injEq] at h; subst h
      cases hx with
      | map nm b' hl hm =>
      obtain ⟨b, ms, clock, h1, h2, h3, h4, h5⟩ := hH.blk _ _ hg _ _ hm
      rw [hm] at h1; simp only [Option.some.injEq] at h1; subst h1
      refine ⟨ms, .inr ⟨b', clock, rfl, h3⟩, by simpa using h4, fun j m e a b => ?_⟩
      have hj : j < es'.length := by rcases Nat.lt_or_ge j es'.length with h | h; exact h; rw [List.getElem?_eq_none h] at b; cases b
      obtain ⟨m', m1, m2, m3⟩ := h5 j hj
      rw [List.getElem?_eq_getElem hj] at b
      simp only [Option.some.injEq] at b; subst b
      have : ms[j]? = some m := by simpa using a
      rw [this] at m1; simp only [Option.some.injEq] at m1; subst m1
      exact ⟨m2, m3.up hl⟩
    · cases h
  · cases h

theorem lookup_run {t kt e : TypeId} {vx vk : Value} {ok : Bool} {ms : Array MapEntry} {r : Option (Nat × Value)} {z : Value} (hu : P.underlying t = some (.map kt e))
    (hv : (vx = .map none ∧ ms = #[]) ∨ ∃ b clock, vx = .map (some b) ∧ w.heap[b]? = some (.map ms clock)) (hck : ∀ em, (Instr.checkKey em 10000 kt vk).run P w = .ok () w)
    (hf : (Instr.findKey kt vk ms.toList).run P w = .ok r w) (hz : r = none → (zeroValue e).run P w = .ok z w) :
    (Instr.lookup t vx vk ok).run P w = .ok (if ok then .tuple #[(match r with | some (_, v) => v | none => z), .bool r.isSome] else (match r with | some (_, v) => v | none => z)) w := by
  rcases hv with ⟨rfl, rfl⟩ | ⟨b, clock, rfl, hb⟩
  · cases r with
    | none => have := hz rfl; cases ok <;> simp at hf <;> simp [Instr.lookup, r_underlying w hu, hck, hf, this]
    | some x => cases ok <;> simp at hf <;> simp [Instr.lookup, r_underlying w hu, hck, hf]
  · have hg := Go.MapKept.run_getObj_map (P := P) hb
    cases r with
    | none => have := hz rfl; cases ok <;> simp [Instr.lookup, r_underlying w hu, hg, hck, hf, this]
    | some x => cases ok <;> simp [Instr.lookup, r_underlying w hu, hg, hck, hf]

theorem pair_rel {k : Nat} {v : Value} {g : GV} (h : VRel w S μ k v g) (b : Bool) : VRel w S μ k (.tuple #[v, .bool b]) (mkTuple [g, .pure (.bool b)]) :=
  mkTuple_rel (by simp) fun j hj => by
    simp at hj
    match j, hj with
    | 0, _ => simpa using h
    | 1, _ => simpa using VRel.pure _ _ (.bool b)

theorem lookup_sound (K : Ctx) (hK : CtxOk K) (hH : HRel w S μ H) {k : Nat} {t : TypeId} {vx vk : Value} {x y r : GV} {ok : Bool} (hx : VRel w S μ k vx x) (hy : VRel w S μ k vk y)
    (h : glookup K t H x y ok = some r) : ∃ u, (Instr.lookup t vx vk ok).run K.P w = .ok u w ∧ VRel w S μ k u r := by
  unfold glookup at h
  split at h
  · rename_i kt e p es ht hes
    have hu := tmap_some ht
    split at h
    · cases h
    · rename_i hf
      obtain ⟨hck, hfind, _⟩ := key_run (μ := μ) (k := k) K hK hy.pv (by simpa using hf)
      obtain ⟨ms, m1, m2, m3⟩ := mapOf_run hH hx hes
      split at h
      · rename_i i g hfe
        obtain ⟨r', hfk, f2⟩ := hfind _ _ _ m2 m3 hfe
        match r', f2 with
        | some (n', u), f2 =>
        obtain ⟨_, f3, _⟩ := f2
        simp only [Option.some.injEq] at h; subst h
        refine ⟨_, lookup_run (z := undef) hu m1 hck hfk (by simp), ?_⟩
        cases ok with
        | true => simpa using pair_rel f3 true
        | false => simpa using f3
      · rename_i hfe
        obtain ⟨r', hfk, f2⟩ := hfind _ _ _ m2 m3 hfe
        match r', f2 with
        | none, _ =>
        split at h
        · rename_i z hz
          simp only [Option.some.injEq] at h; subst h
          obtain ⟨v, z1, rfl⟩ := r_zero (P := K.P) w hz
          have hv : VRel w S μ k v (ofConst v) := ofConst_rel v
          refine ⟨_, lookup_run hu m1 hck hfk (fun _ => z1), ?_⟩
          cases ok with
          | true => simpa using pair_rel hv false
          | false => simpa using hv
        · cases h
      · cases h
  · cases h

/-- A map of a name's own, turned. -/
theorem HRel.mapTurn (hH : HRel w S μ H) {nm : Nm} {es es' : List (PV × GV)} {b : Nat} {ms ms' : Array MapEntry} {clock clock' : Nat} (hg : H.get nm = some (.map es)) (hm : μ nm 0 = some b) (hS : ¬ S b)
    (hb : w.heap[b]? = some (.map ms clock)) (hs : ms'.size = es'.length)
    (hr : ∀ (j : Nat) (m : MapEntry) (e : PV × GV), ms'[j]? = some m → es'[j]? = some e → EntRel w S μ nm.1 m e) :
    HRel { w with heap := w.heap.setIfInBounds b (.map ms' clock') } S μ (H.set nm (.map es')) ∧ Ev ℓ w S μ { w with heap := w.heap.setIfInBounds b (.map ms' clock') } S μ := by
  obtain ⟨e1, e2⟩ := heap_set (o' := .map ms' clock') hb
  have hne : ∀ b', S b' → b' ≠ b := fun b' h e => hS (e ▸ h)
  have hshp : ∀ b' y, w.shape? b' = some y → (({ w with heap := w.heap.setIfInBounds b (.map ms' clock') } : World)).shape? b' = some y := fun b' y h => by
    unfold World.shape? at h ⊢
    by_cases e : b' = b
    · subst e; rw [hb] at h; simp at h
    · show (match (w.heap.setIfInBounds b (.map ms' clock'))[b']? with | _ => _) = _
      simp only [e2 b' e]; exact h
  refine hH.turn ℓ (Heap.get_lt hg) rfl rfl rfl (by simp) (fun _ h => h) (fun b h => .inl h) (fun b' h => by simpa using hH.slt b' h) (fun k hk ho => ?_) hshp (fun b' r h => ?_)
    (fun n t _ => rfl) (fun t b h => h) (fun t b h => .inl ⟨t, h⟩) (fun t b' h => by simpa using hH.lt _ _ _ h) ⟨b, ms', clock', hm, hS, e1, hs, fun j hj => ?_⟩
  · refine e2 k fun e => ?_
    subst e
    rcases ho with ho | ho
    · exact hS ho
    · exact ho 0 hm
  · by_cases e : b' = b
    · subst e; rw [hb] at h; cases h
    · exact ⟨r, by show (w.heap.setIfInBounds b _)[b']? = _; rw [e2 b' e]; exact h⟩
  · have hj' : j < ms'.size := by omega
    obtain ⟨q1, q2⟩ := hr j ms'[j] es'[j] (by simp [hj']) (by simp [hj])
    refine ⟨ms'[j], by simp [hj'], q1.mono (fun _ h => h) fun b' h => e2 b' (hne b' h), q2.mono (fun _ h => h) (fun b' h => e2 b' (hne b' h)) hshp (fun _ _ _ _ h => h) (Nat.le_refl _)⟩


theorem lowerVal_rel (ℓ : Nat) (hH : HRel w S μ H) {k l0 : Nat} {v : Value} {g g' : GV} {H1 : Heap} (hv : VRel w S μ k v g) (h : lowerVal H l0 g = some (g', H1)) :
    ∃ S', HRel w S' μ H1 ∧ Ev ℓ w S μ w S' μ ∧ VRel w S' μ l0 v g' ∧ SameBox H H1 := by
  unfold lowerVal at h
  split at h
  · rename_i l
    obtain ⟨vs, rfl, hc⟩ := hv.cells
    simp only [Option.some.injEq, Prod.mk.injEq] at h
    obtain ⟨rfl, rfl⟩ := h
    obtain ⟨S', a1, a2, a3, a4⟩ := lowerCells_rel ℓ l0 hH hc
    exact ⟨S', a1, a2, mkAgg_rel' a3, a4⟩
  · cases h
  · cases h
  · simp only [Option.some.injEq, Prod.mk.injEq] at h
    obtain ⟨rfl, rfl⟩ := h
    exact lowerCell_rel ℓ hH l0 hv

theorem mapUpdate_sound (K : Ctx) (hK : CtxOk K) (hH : HRel w S μ H) {k : Nat} {t : TypeId} {vm vk vv : Value} {m y v : GV} {H' : Heap} (hm : VRel w S μ k vm m) (hy : VRel w S μ k vk y) (hv : VRel w S μ k vv v)
    (h : gmapUpdate K t H m y v = some H') :
    OpOk ℓ w S μ H ((do Instr.mapUpdate t vm vk vv; pure Next.skip : Sem Next).run K.P w) gdead H' := by
  unfold gmapUpdate at h
  split at h
  · rename_i kt e nm p ht
    have hu := tmap_some ht
    split at h
    · rename_i v' H1 hlow
      obtain ⟨S1, a1, a2, a3, a4⟩ := lowerVal_rel ℓ hH hv hlow
      split at h
      · rename_i es hg
        cases hm with
        | map nm b' hl hmm =>
        obtain ⟨b, ms, clock, h1, h2, h3, h4, h5⟩ := a1.blk _ _ hg _ _ hmm
        have hent : ∀ (j : Nat) (m : MapEntry) (e : PV × GV), ms.toList[j]? = some m → es[j]? = some e → EntRel w S1 μ nm.1 m e := fun j m e a b => by
          have hj : j < es.length := by rcases Nat.lt_or_ge j es.length with h | h; exact h; rw [List.getElem?_eq_none h] at b; cases b
          obtain ⟨m', m1, m2, m3⟩ := h5 j hj
          rw [List.getElem?_eq_getElem hj] at b
          simp only [Option.some.injEq] at b; subst b
          have : ms[j]? = some m := by simpa using a
          rw [this] at m1; simp only [Option.some.injEq] at m1; subst m1
          exact ⟨m2, m3⟩
        rw [hmm] at h1; simp only [Option.some.injEq] at h1; subst h1
        have hy1 : PRep w S1 vk p := hy.pv.mono a2.sub (fun _ _ => rfl)
        have hgo := Go.MapKept.run_getObj_map (P := K.P) h3
        split at h
        · cases h
        · rename_i hf
          obtain ⟨hck, hfind, hstay⟩ := key_run (μ := μ) (k := nm.1) K hK hy1 (by simpa using hf)
          split at h
          · rename_i i g hfe
            simp only [Option.some.injEq] at h; subst h
            obtain ⟨r', f1, f2⟩ := hfind _ _ _ (by simpa using h4) hent hfe
            match r', f1, f2 with
            | some (n', u), hfk, f2 =>
            obtain ⟨f0, f3, m, f5, f6⟩ := f2
            subst f0
            have hmi : ms[i]? = some m := by simpa using f5
            obtain ⟨q1, q2⟩ := HRel.mapTurn (ℓ := ℓ) a1 hg hmm h2 h3 (ms' := ms.modify i fun e => { e with key := vk, val := vv }) (es' := es.set i (p, v')) (clock' := clock) (by simpa using h4)
              (fun j m e a b => by
                rw [Array.getElem?_modify] at a
                rw [List.getElem?_set] at b
                by_cases hij : i = j
                · subst hij
                  rw [if_pos rfl] at a b
                  rw [hmi] at a
                  simp only [Option.map_some, Option.some.injEq] at a; subst a
                  split at b
                  · simp only [Option.some.injEq] at b; subst b
                    exact ⟨hy1, a3⟩
                  · cases b
                · rw [if_neg hij] at a b
                  exact hent j m e (by simpa using a) b)
            refine ⟨.skip, undef, _, S1, μ, ?_, .inr ⟨rfl, rfl⟩, vdead _, q1, a2.trans q2, by rw [Heap.length_set]; exact a4.1⟩
            simp [Instr.mapUpdate, r_underlying w hu, hgo, hck, hfk, hmi, f6, hstay, run_setObj_map _ h3]
          · rename_i hfe
            simp only [Option.some.injEq] at h; subst h
            obtain ⟨r', f1, f2⟩ := hfind _ _ _ (by simpa using h4) hent hfe
            match r', f1, f2 with
            | none, hfk, f2 =>
            obtain ⟨q1, q2⟩ := HRel.mapTurn (ℓ := ℓ) a1 hg hmm h2 h3 (ms' := ms.push { key := vk, val := vv, born := clock }) (es' := es ++ [(p, v')]) (clock' := clock + 1) (by simp [h4])
              (fun j m e a b => by
                rw [Array.getElem?_push] at a
                split at a
                · rename_i hj
                  simp only [Option.some.injEq] at a; subst a
                  rw [hj, h4] at b
                  simp at b; subst b
                  exact ⟨hy1, a3⟩
                · rename_i hj
                  have hlt : j < ms.size := by rcases Nat.lt_or_ge j ms.size with h | h; exact h; rw [Array.getElem?_eq_none h] at a; cases a
                  rw [List.getElem?_append_left (by omega)] at b
                  exact hent j m e (by simpa using a) b)
            refine ⟨.skip, undef, _, S1, μ, ?_, .inr ⟨rfl, rfl⟩, vdead _, q1, a2.trans q2, by rw [Heap.length_set]; exact a4.1⟩
            simp [Instr.mapUpdate, r_underlying w hu, hgo, hck, hfk, run_setObj_map _ h3]
          · cases h
      · cases h
    · cases h
  · cases h

end
end Go.Gh
