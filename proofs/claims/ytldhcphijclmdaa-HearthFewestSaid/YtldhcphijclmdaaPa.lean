/- Plain: when coals begin; the only supported solution. -/
import Derived.Test.YtldhcphijclmdaaFa
namespace Go.Gh
set_option linter.unusedSimpArgs false
set_option linter.unusedVariables false

def Edge (ca bu : List Int) (ts : List Touch) (a b : Nat) : Prop := (∃ x ∈ ts, (x.a = a ∧ x.b = b) ∨ (x.a = b ∧ x.b = a)) ∧ ca.getD b 0 ≤ bu.getD a 0
structure Sol (n : Nat) (ca bu : List Int) (ts : List Touch) (l0 t : List Int) : Prop where
  len : t.length = n
  lit : ∀ i, i < n → l0.getD i 0 = 0 → t.getD i 0 = 0
  non : ∀ i, i < n → 0 ≤ t.getD i 0
  sup : ∀ i, i < n → l0.getD i 0 ≠ 0 → t.getD i 0 ≠ 1000000 → ∃ a, a < n ∧ Edge ca bu ts a i ∧ t.getD a 0 ≠ 1000000 ∧ t.getD i 0 = t.getD a 0 + ca.getD i 0
  rel : ∀ a b, a < n → b < n → Edge ca bu ts a b → t.getD a 0 ≠ 1000000 → t.getD b 0 ≠ 1000000 ∧ t.getD b 0 ≤ t.getD a 0 + ca.getD b 0

theorem Sol.le {n : Nat} {ca bu : List Int} {ts : List Touch} {l0 t t' : List Int} (hca : ∀ i, i < n → 1 ≤ ca.getD i 0) (h : Sol n ca bu ts l0 t) (h' : Sol n ca bu ts l0 t') : ∀ (k i : Nat), (t.getD i 0).toNat ≤ k → i < n → t.getD i 0 ≠ 1000000 → t'.getD i 0 ≠ 1000000 ∧ t'.getD i 0 ≤ t.getD i 0 := by
  intro k
  induction k with
  | zero =>
    intro i hk hi hu
    have h0 := h.non i hi
    by_cases hl : l0.getD i 0 = 0
    · have := h'.lit i hi hl; omega
    · obtain ⟨a, ha, he, hau, e⟩ := h.sup i hi hl hu
      have := h.non a ha
      have := hca i hi
      omega
  | succ k ih =>
    intro i hk hi hu
    have h0 := h.non i hi
    by_cases hl : l0.getD i 0 = 0
    · have := h'.lit i hi hl; omega
    · obtain ⟨a, ha, he, hau, e⟩ := h.sup i hi hl hu
      have h1 := h.non a ha
      have h2 := hca i hi
      obtain ⟨q1, q2⟩ := ih a (by omega) ha hau
      obtain ⟨q3, q4⟩ := h'.rel a i ha hi he q1
      exact ⟨q3, by omega⟩
theorem Sol.uniq {n : Nat} {ca bu : List Int} {ts : List Touch} {l0 t t' : List Int} (hca : ∀ i, i < n → 1 ≤ ca.getD i 0) (h : Sol n ca bu ts l0 t) (h' : Sol n ca bu ts l0 t') : t = t' := by
  apply List.ext_getElem (by rw [h.len, h'.len])
  intro i h1 h2
  have hi : i < n := by rw [← h.len]; exact h1
  have e1 : t[i] = t.getD i 0 := by simp [List.getD_eq_getElem?_getD, h1]
  have e2 : t'[i] = t'.getD i 0 := by simp [List.getD_eq_getElem?_getD, h2]
  rw [e1, e2]
  by_cases c : t.getD i 0 = 1000000
  · by_cases c' : t'.getD i 0 = 1000000
    · rw [c, c']
    · exact absurd c (Sol.le hca h' h _ i (Nat.le_refl _) hi c').1
  · obtain ⟨q1, q2⟩ := Sol.le hca h h' _ i (Nat.le_refl _) hi c
    obtain ⟨q3, q4⟩ := Sol.le hca h' h _ i (Nat.le_refl _) hi q1
    omega

/-! ### the rounds -/
structure Inv (n : Nat) (ca bu : List Int) (ts : List Touch) (l0 t : List Int) : Prop where
  good : Good n t
  lit : ∀ i, i < n → l0.getD i 0 = 0 → t.getD i 0 = 0
  sup : ∀ i, i < n → l0.getD i 0 ≠ 0 → t.getD i 0 ≠ 1000000 → ∃ a, a < n ∧ Edge ca bu ts a i ∧ t.getD a 0 ≠ 1000000 ∧ t.getD a 0 + ca.getD i 0 ≤ t.getD i 0
section
variable {n : Nat} {ca bu : List Int} {ts : List Touch} {l0 t : List Int} (hn : n ≤ 1000) (hca : ∀ i, i < n → 1 ≤ ca.getD i 0 ∧ ca.getD i 0 ≤ 300)
include hn hca
theorem Inv.spr (h : Inv n ca bu ts l0 t) {a b : Nat} (ha : a < n) (hb : b < n) (hx : ∃ x ∈ ts, (x.a = a ∧ x.b = b) ∨ (x.a = b ∧ x.b = a)) {t' : List Int} (e : spr ca bu t a b = some t') : Inv n ca bu ts l0 t' := by
  obtain ⟨q1, q2, q3, q4, q5, q6⟩ := spr_some h.good hn ha hb (by have := hca b hb; omega) e
  unfold Go.Gh.spr at e
  split at e
  · cases e
  · rename_i hc
    simp only [not_or, Int.not_le, Int.not_lt] at hc
    obtain ⟨c1, c2, c3⟩ := hc
    have hcb := hca b hb
    have hbl : b < t.length := by rw [h.good.len]; exact hb
    have hab : a ≠ b := by intro e; subst e; omega
    subst q1
    refine ⟨q2, fun i hi hl => ?_, fun i hi hl hu => ?_⟩
    · by_cases e1 : b = i
      · subst e1
        have := h.lit b hb hl
        omega
      · rw [getD_set_ne' e1]; exact h.lit i hi hl
    · by_cases e1 : b = i
      · subst e1
        refine ⟨a, ha, ⟨hx, c2⟩, ?_, ?_⟩
        · rw [getD_set_ne' (Ne.symm hab)]; exact q4
        · rw [getD_set_ne' (Ne.symm hab), getD_set_self hbl]; exact Int.le_refl _
      · rw [getD_set_ne' e1] at hu ⊢
        obtain ⟨a', ha', he, hau, hle⟩ := h.sup i hi hl hu
        refine ⟨a', ha', he, ?_, ?_⟩
        · by_cases e2 : b = a'
          · subst e2; rw [getD_set_self hbl]; omega
          · rw [getD_set_ne' e2]; exact hau
        · by_cases e2 : b = a'
          · subst e2; rw [getD_set_self hbl]; omega
          · rw [getD_set_ne' e2]; exact hle
theorem Inv.touch (h : Inv n ca bu ts l0 t) {x : Touch} (hm : x ∈ ts) (hx : 0 ≤ x.a ∧ x.a < n ∧ 0 ≤ x.b ∧ x.b < n) : Inv n ca bu ts l0 (touch1 ca bu t x).1 := by
  have ha : x.a.toNat < n := by omega
  have hb : x.b.toNat < n := by omega
  have ea : x.a = x.a.toNat := by omega
  have eb : x.b = x.b.toNat := by omega
  unfold touch1
  simp only
  have h1 : Inv n ca bu ts l0 ((Go.Gh.spr ca bu t x.a.toNat x.b.toNat).getD t) := by
    cases e : Go.Gh.spr ca bu t x.a.toNat x.b.toNat with
    | none => exact h
    | some t' => exact h.spr hn hca ha hb ⟨x, hm, .inl ⟨ea, eb⟩⟩ e
  generalize (Go.Gh.spr ca bu t x.a.toNat x.b.toNat).getD t = t1 at *
  cases e : Go.Gh.spr ca bu t1 x.b.toNat x.a.toNat with
  | none => exact h1
  | some t' => exact h1.spr hn hca hb ha ⟨x, hm, .inr ⟨ea, eb⟩⟩ e
theorem Inv.rnd (hts : ∀ x ∈ ts, 0 ≤ x.a ∧ x.a < n ∧ 0 ≤ x.b ∧ x.b < n) : ∀ (r : List Touch) (t : List Int) (m : Bool), (∀ x ∈ r, x ∈ ts) → Inv n ca bu ts l0 t → Inv n ca bu ts l0 (rnd ca bu r t m).1
  | [], t, m, _, h => h
  | x :: r, t, m, hr, h => by
    simp only [Go.Gh.rnd]
    exact Inv.rnd hts r _ _ (fun y hy => hr y (List.mem_cons_of_mem _ hy)) (h.touch hn hca (hr x (List.mem_cons_self ..)) (hts x (hr x (List.mem_cons_self ..))))
end

theorem rnd_true (ca bu : List Int) : ∀ (r : List Touch) (t : List Int), (rnd ca bu r t true).2 = true
  | [], t => rfl
  | x :: r, t => by simp only [rnd, Bool.true_or]; exact rnd_true ca bu r _
theorem rnd_still {ca bu : List Int} : ∀ {r : List Touch} {t : List Int}, (rnd ca bu r t false).2 = false → (rnd ca bu r t false).1 = t ∧ ∀ x ∈ r, spr ca bu t x.a.toNat x.b.toNat = none ∧ spr ca bu t x.b.toNat x.a.toNat = none
  | [], t, _ => ⟨rfl, by simp⟩
  | x :: r, t, h => by
    simp only [rnd, Bool.false_or] at h ⊢
    cases e : (touch1 ca bu t x).2 with
    | true => rw [e, rnd_true] at h; cases h
    | false =>
      rw [e] at h
      unfold touch1 at e h ⊢
      simp only [Bool.or_eq_false_iff] at e
      obtain ⟨e1, e2⟩ := e
      cases s1 : spr ca bu t x.a.toNat x.b.toNat with
      | some y => rw [s1] at e1; cases e1
      | none =>
        rw [s1] at e2 h
        simp only [Option.getD_none] at e2 h ⊢
        cases s2 : spr ca bu t x.b.toNat x.a.toNat with
        | some y => rw [s2] at e2; cases e2
        | none =>
          rw [s2] at h
          simp only [Option.getD_none] at h ⊢
          obtain ⟨q1, q2⟩ := rnd_still h
          refine ⟨q1, fun y hy => ?_⟩
          rcases List.mem_cons.1 hy with rfl | hy
          · exact ⟨s1, s2⟩
          · exact q2 y hy
theorem spr_none_rel {n : Nat} {ca bu t : List Int} {a b : Nat} (hn : n ≤ 1000) (hg : Good n t) (ha : a < n) (hb : b < n) (hca : 1 ≤ ca.getD b 0 ∧ ca.getD b 0 ≤ 300) (h : spr ca bu t a b = none) (he : ca.getD b 0 ≤ bu.getD a 0) (hu : t.getD a 0 ≠ 1000000) : t.getD b 0 ≠ 1000000 ∧ t.getD b 0 ≤ t.getD a 0 + ca.getD b 0 := by
  have hkn := known_le t
  rw [hg.len] at hkn
  have hv : 0 ≤ t.getD a 0 ∧ t.getD a 0 ≤ 300 * (known t : Int) := by
    rcases hg.val a ha with e | e
    · exact absurd e hu
    · exact e
  unfold spr at h
  split at h
  · rename_i hc
    rcases hc with hc | hc | hc
    · omega
    · omega
    · omega
  · cases h
theorem Inv.sol {n : Nat} {ca bu : List Int} {ts : List Touch} {l0 t : List Int} (hn : n ≤ 1000) (hca : ∀ i, i < n → 1 ≤ ca.getD i 0 ∧ ca.getD i 0 ≤ 300) (hts : ∀ x ∈ ts, 0 ≤ x.a ∧ x.a < n ∧ 0 ≤ x.b ∧ x.b < n) (h : Inv n ca bu ts l0 t)
    (hst : ∀ x ∈ ts, Go.Gh.spr ca bu t x.a.toNat x.b.toNat = none ∧ Go.Gh.spr ca bu t x.b.toNat x.a.toNat = none) : Sol n ca bu ts l0 t := by
  have hrel : ∀ a b, a < n → b < n → Edge ca bu ts a b → t.getD a 0 ≠ 1000000 → t.getD b 0 ≠ 1000000 ∧ t.getD b 0 ≤ t.getD a 0 + ca.getD b 0 := by
    intro a b ha hb he hu
    obtain ⟨⟨x, hx, ho⟩, hc⟩ := he
    have q := hst x hx
    rcases ho with ⟨e1, e2⟩ | ⟨e1, e2⟩
    · have e1' : x.a.toNat = a := by omega
      have e2' : x.b.toNat = b := by omega
      rw [e1', e2'] at q
      exact spr_none_rel hn h.good ha hb (hca b hb) q.1 hc hu
    · have e1' : x.a.toNat = b := by omega
      have e2' : x.b.toNat = a := by omega
      rw [e1', e2'] at q
      exact spr_none_rel hn h.good ha hb (hca b hb) q.2 hc hu
  refine ⟨h.good.len, h.lit, fun i hi => ?_, fun i hi hl hu => ?_, hrel⟩
  · rcases h.good.val i hi with e | e
    · omega
    · exact e.1
  · obtain ⟨a, ha, he, hau, hle⟩ := h.sup i hi hl hu
    have := (hrel a i ha hi he hau).2
    exact ⟨a, ha, he, hau, by omega⟩
theorem iter_sol {n : Nat} {ca bu : List Int} {ts : List Touch} {l0 : List Int} (hn : n ≤ 1000) (hca : ∀ i, i < n → 1 ≤ ca.getD i 0 ∧ ca.getD i 0 ≤ 300) (hts : ∀ x ∈ ts, 0 ≤ x.a ∧ x.a < n ∧ 0 ≤ x.b ∧ x.b < n) : ∀ (k : Nat) (t : List Int), pot t < k → Inv n ca bu ts l0 t → Sol n ca bu ts l0 (iter ca bu ts k t)
  | 0, t, h, _ => by omega
  | k + 1, t, h, hi => by
    have hi2 := hi.rnd hn hca hts ts t false (fun x hx => hx)
    obtain ⟨q1, q2, q3⟩ := rnd_ok (bu := bu) (ca := ca) hn (fun i hi => by have := hca i hi; omega) ts t false hts hi.good
    simp only [iter]
    cases e : (rnd ca bu ts t false).2 with
    | true =>
      have := q3 rfl e
      simp only [if_true]
      exact iter_sol hn hca hts k _ (by omega) hi2
    | false =>
      simp only [Bool.false_eq_true, if_false]
      obtain ⟨s1, s2⟩ := rnd_still e
      rw [s1]
      exact hi.sol hn hca hts s2
theorem lits_inv {ca bu : List Int} {ts : List Touch} (cs : List Coal) : Inv cs.length ca bu ts (lits cs) (lits cs) :=
  ⟨lits_good cs, fun i _ h => h, fun i hi h1 h2 => by
    rw [lits_get cs i hi] at h1 h2
    split at h1
    · exact absurd rfl h1
    · rename_i hc; rw [if_neg hc] at h2; exact absurd rfl h2⟩
theorem times_sol {ca bu : List Int} {ts : List Touch} (cs : List Coal) (hn : cs.length ≤ 1000) (hca : ∀ i, i < cs.length → 1 ≤ ca.getD i 0 ∧ ca.getD i 0 ≤ 300) (hts : ∀ x ∈ ts, 0 ≤ x.a ∧ x.a < cs.length ∧ 0 ≤ x.b ∧ x.b < cs.length) : Sol cs.length ca bu ts (lits cs) (times ca bu ts cs) :=
  iter_sol hn hca hts _ _ (lits_pot cs) (lits_inv cs)
end Go.Gh


/- Plain: when coals truly begin, minute by minute. -/
namespace Go.Gh
set_option linter.unusedSimpArgs false
set_option linter.unusedVariables false

def sp1 (ca bu t : List Int) (m : Int) (a b : Nat) : List Int :=
  if t.getD b 0 = 1000000 ∧ t.getD a 0 < 1000000 ∧ t.getD a 0 + ca.getD b 0 = m ∧ ca.getD b 0 ≤ bu.getD a 0 then t.set b m else t
def tch (ca bu : List Int) (m : Int) (t : List Int) (x : Touch) : List Int := sp1 ca bu (sp1 ca bu t m x.a.toNat x.b.toNat) m x.b.toNat x.a.toNat
def mnt (ca bu : List Int) (m : Int) : List Touch → List Int → List Int
  | [], t => t
  | x :: r, t => mnt ca bu m r (tch ca bu m t x)
def mins (ca bu : List Int) (ts : List Touch) : Nat → Int → List Int → List Int
  | 0, _, t => t
  | k + 1, m, t => mins ca bu ts k (m + 1) (mnt ca bu m ts t)
def trulyL (ca bu : List Int) (ts : List Touch) (cs : List Coal) : List Int := mins ca bu ts 201 0 (lits cs)

theorem mnt_drop (ca bu : List Int) (m : Int) (ts : List Touch) (t : List Int) (i : Nat) (h : i < ts.length) : mnt ca bu m (ts.drop i) t = mnt ca bu m (ts.drop (i + 1)) (tch ca bu m t ts[i]) := by
  rw [List.drop_eq_getElem_cons h]; rfl

/-- All entries are times. -/
structure G2 (n : Nat) (t : List Int) : Prop where
  len : t.length = n
  val : ∀ i, i < n → 0 ≤ t.getD i 0 ∧ t.getD i 0 ≤ 1000000
theorem sp1_g2 {n : Nat} {ca bu t : List Int} {m : Int} {a b : Nat} (hm : 0 ≤ m ∧ m ≤ 1000) (hg : G2 n t) : G2 n (sp1 ca bu t m a b) := by
  unfold sp1
  split
  · refine ⟨by simpa using hg.len, fun i hi => ?_⟩
    by_cases e : b = i
    · subst e; rw [getD_set_self (by rw [hg.len]; exact hi)]; omega
    · rw [getD_set_ne' e]; exact hg.val i hi
  · exact hg
theorem tch_g2 {n : Nat} {ca bu t : List Int} {m : Int} {x : Touch} (hm : 0 ≤ m ∧ m ≤ 1000) (hg : G2 n t) : G2 n (tch ca bu m t x) := sp1_g2 hm (sp1_g2 hm hg)
theorem mnt_g2 {n : Nat} {ca bu : List Int} {m : Int} (hm : 0 ≤ m ∧ m ≤ 1000) : ∀ (r : List Touch) (t : List Int), G2 n t → G2 n (mnt ca bu m r t)
  | [], t, hg => hg
  | x :: r, t, hg => mnt_g2 hm r _ (tch_g2 hm hg)
theorem lits_g2 (cs : List Coal) : G2 cs.length (lits cs) := ⟨lits_len cs, fun i hi => by rw [lits_get cs i hi]; split <;> omega⟩
theorem mins_g2 {n : Nat} {ca bu : List Int} {ts : List Touch} : ∀ (k : Nat) (m : Int) (t : List Int), 0 ≤ m → m + k ≤ 1000 → G2 n t → G2 n (mins ca bu ts k m t)
  | 0, m, t, _, _, hg => hg
  | k + 1, m, t, h0, h1, hg => mins_g2 k (m + 1) _ (by omega) (by omega) (mnt_g2 (by omega) ts t hg)
theorem truly_g2 {ca bu : List Int} {ts : List Touch} (cs : List Coal) : G2 cs.length (trulyL ca bu ts cs) := mins_g2 201 0 _ (by omega) (by omega) (lits_g2 cs)
end Go.Gh


/- Plain: looking minute by minute tells when coals begin. -/
namespace Go.Gh
set_option linter.unusedSimpArgs false
set_option linter.unusedVariables false

structure TI (n : Nat) (ca bu : List Int) (ts : List Touch) (l0 : List Int) (m : Int) (P : Nat → Nat → Prop) (t : List Int) : Prop where
  len : t.length = n
  val : ∀ i, i < n → t.getD i 0 = 1000000 ∨ (0 ≤ t.getD i 0 ∧ t.getD i 0 ≤ m ∧ t.getD i 0 ≤ 8 * (known t : Int))
  lit : ∀ i, i < n → l0.getD i 0 = 0 → t.getD i 0 = 0
  sup : ∀ i, i < n → l0.getD i 0 ≠ 0 → t.getD i 0 ≠ 1000000 → ∃ a, a < n ∧ Edge ca bu ts a i ∧ t.getD a 0 ≠ 1000000 ∧ t.getD i 0 = t.getD a 0 + ca.getD i 0
  rel : ∀ a b, a < n → b < n → Edge ca bu ts a b → t.getD a 0 ≠ 1000000 → t.getD a 0 + ca.getD b 0 < m → t.getD b 0 ≠ 1000000 ∧ t.getD b 0 ≤ t.getD a 0 + ca.getD b 0
  rel2 : ∀ a b, a < n → b < n → P a b → ca.getD b 0 ≤ bu.getD a 0 → t.getD a 0 ≠ 1000000 → t.getD a 0 + ca.getD b 0 = m → t.getD b 0 ≠ 1000000 ∧ t.getD b 0 ≤ m

section
variable {n : Nat} {ca bu : List Int} {ts : List Touch} {l0 : List Int} {m : Int} {P : Nat → Nat → Prop} {t : List Int} (hca : ∀ i, i < n → 1 ≤ ca.getD i 0 ∧ ca.getD i 0 ≤ 8)
include hca
theorem TI.step (hm : 0 ≤ m ∧ m ≤ 1000) (h : TI n ca bu ts l0 m P t) {a b : Nat} (ha : a < n) (hb : b < n) (hx : ∃ x ∈ ts, (x.a = a ∧ x.b = b) ∨ (x.a = b ∧ x.b = a)) :
    TI n ca bu ts l0 m (fun a' b' => P a' b' ∨ (a' = a ∧ b' = b)) (sp1 ca bu t m a b) := by
  unfold sp1
  split
  · rename_i hc
    obtain ⟨c1, c2, c3, c4⟩ := hc
    have hbl : b < t.length := by rw [h.len]; exact hb
    have hab : b ≠ a := by intro e; subst e; omega
    have hva := h.val a ha
    have hks := known_set t b m hbl
    rw [if_pos c1, if_neg (by omega)] at hks
    have hcb := hca b hb
    refine ⟨by simpa using h.len, fun i hi => ?_, fun i hi hl => ?_, fun i hi hl hu => ?_, fun a' b' ha' hb' he hu hlt => ?_, fun a' b' ha' hb' hp hbu hu heq => ?_⟩
    · by_cases e : b = i
      · subst e
        rw [getD_set_self hbl]
        right
        rcases hva with e1 | e1
        · omega
        · omega
      · rw [getD_set_ne' e]
        rcases h.val i hi with e1 | e1
        · exact .inl e1
        · right; omega
    · by_cases e : b = i
      · subst e; have := h.lit b hb hl; omega
      · rw [getD_set_ne' e]; exact h.lit i hi hl
    · by_cases e : b = i
      · subst e
        exact ⟨a, ha, ⟨hx, c4⟩, by rw [getD_set_ne' hab]; omega, by rw [getD_set_self hbl, getD_set_ne' hab]; omega⟩
      · rw [getD_set_ne' e] at hu ⊢
        obtain ⟨a', q1, q2, q3, q4⟩ := h.sup i hi hl hu
        have e2 : b ≠ a' := by intro e2; subst e2; exact q3 c1
        exact ⟨a', q1, q2, by rw [getD_set_ne' e2]; exact q3, by rw [getD_set_ne' e2]; exact q4⟩
    · by_cases e : b = a'
      · subst e
        rw [getD_set_self hbl] at hlt
        have := hca b' hb'
        omega
      · rw [getD_set_ne' e] at hu hlt ⊢
        have := h.rel a' b' ha' hb' he hu hlt
        by_cases e2 : b = b'
        · subst e2; exact absurd c1 this.1
        · rw [getD_set_ne' e2]; exact this
    · by_cases e : b = a'
      · subst e
        rw [getD_set_self hbl] at heq
        have := hca b' hb'
        omega
      · rw [getD_set_ne' e] at hu heq
        by_cases e2 : b = b'
        · subst e2; rw [getD_set_self hbl]; omega
        · rw [getD_set_ne' e2]
          rcases hp with hp | ⟨_, hp⟩
          · exact h.rel2 a' b' ha' hb' hp hbu hu heq
          · exact absurd hp.symm e2
  · rename_i hc
    refine ⟨h.len, h.val, h.lit, h.sup, h.rel, fun a' b' ha' hb' hp hbu hu heq => ?_⟩
    rcases hp with hp | ⟨rfl, rfl⟩
    · exact h.rel2 a' b' ha' hb' hp hbu hu heq
    · have hva := h.val a' ha'
      have hvb := h.val b' hb'
      by_cases e : t.getD b' 0 = 1000000
      · exfalso
        exact hc ⟨e, by omega, heq, hbu⟩
      · exact ⟨e, by omega⟩

theorem TI.weak (h : TI n ca bu ts l0 m P t) {P' : Nat → Nat → Prop} (hp : ∀ a b, P' a b → P a b) : TI n ca bu ts l0 m P' t := by
  have _ := hca
  exact ⟨h.len, h.val, h.lit, h.sup, h.rel, fun a b ha hb hq => h.rel2 a b ha hb (hp a b hq)⟩

theorem TI.mnt (hm : 0 ≤ m ∧ m ≤ 1000) (hts : ∀ x ∈ ts, 0 ≤ x.a ∧ x.a < n ∧ 0 ≤ x.b ∧ x.b < n) : ∀ (r : List Touch) (P : Nat → Nat → Prop) (t : List Int), (∀ x ∈ r, x ∈ ts) → TI n ca bu ts l0 m P t →
    TI n ca bu ts l0 m (fun a b => P a b ∨ ∃ x ∈ r, (x.a = a ∧ x.b = b) ∨ (x.a = b ∧ x.b = a)) (mnt ca bu m r t)
  | [], P, t, _, h => h.weak hca (fun a b hp => by simpa using hp)
  | x :: r, P, t, hr, h => by
    have hx := hts x (hr x (List.mem_cons_self ..))
    obtain ⟨a, ha⟩ : ∃ a : Nat, x.a = a := ⟨x.a.toNat, by omega⟩
    obtain ⟨b, hb⟩ : ∃ b : Nat, x.b = b := ⟨x.b.toNat, by omega⟩
    have h1 := h.step hca hm (a := a) (b := b) (by omega) (by omega) ⟨x, hr x (List.mem_cons_self ..), .inl ⟨ha, hb⟩⟩
    have h2 := h1.step hca hm (a := b) (b := a) (by omega) (by omega) ⟨x, hr x (List.mem_cons_self ..), .inr ⟨ha, hb⟩⟩
    have h3 := TI.mnt hm hts r _ _ (fun y hy => hr y (List.mem_cons_of_mem _ hy)) h2
    simp only [Go.Gh.mnt, tch, ha, hb, Int.toNat_natCast]
    refine h3.weak hca (fun a' b' hp => ?_)
    rcases hp with hp | ⟨y, hy, hp⟩
    · exact .inl (.inl (.inl hp))
    · rcases List.mem_cons.1 hy with rfl | hy
      · rcases hp with ⟨e1, e2⟩ | ⟨e1, e2⟩
        · exact .inl (.inl (.inr ⟨by omega, by omega⟩))
        · exact .inl (.inr ⟨by omega, by omega⟩)
      · exact .inr ⟨y, hy, hp⟩

theorem TI.next (hm : 0 ≤ m ∧ m ≤ 1000) (hts : ∀ x ∈ ts, 0 ≤ x.a ∧ x.a < n ∧ 0 ≤ x.b ∧ x.b < n) (h : TI n ca bu ts l0 m (fun _ _ => False) t) : TI n ca bu ts l0 (m + 1) (fun _ _ => False) (Go.Gh.mnt ca bu m ts t) := by
  have h1 := TI.mnt hca hm hts ts _ t (fun x hx => hx) h
  refine ⟨h1.len, fun i hi => ?_, h1.lit, h1.sup, fun a b ha hb he hu hlt => ?_, fun a b ha hb hp => hp.elim⟩
  · rcases h1.val i hi with e | e
    · exact .inl e
    · right; omega
  · by_cases e : (Go.Gh.mnt ca bu m ts t).getD a 0 + ca.getD b 0 = m
    · obtain ⟨hx, hc⟩ := he
      have := h1.rel2 a b ha hb (.inr hx) hc hu e
      exact ⟨this.1, by omega⟩
    · exact h1.rel a b ha hb he hu (by omega)

theorem TI.mins (hts : ∀ x ∈ ts, 0 ≤ x.a ∧ x.a < n ∧ 0 ≤ x.b ∧ x.b < n) : ∀ (k : Nat) (m : Int) (t : List Int), 0 ≤ m → m + k ≤ 1000 → TI n ca bu ts l0 m (fun _ _ => False) t → TI n ca bu ts l0 (m + k) (fun _ _ => False) (mins ca bu ts k m t)
  | 0, m, t, h0, h1, h => by simpa [Go.Gh.mins] using h
  | k + 1, m, t, h0, h1, h => by
    have := TI.mins hts k (m + 1) _ (by omega) (by omega) (h.next hca (by omega) hts)
    have e : m + 1 + (k : Int) = m + (k + 1 : Nat) := by omega
    rw [e] at this
    exact this
end

theorem truly_sol {ca bu : List Int} {ts : List Touch} (cs : List Coal) (hn : cs.length ≤ 12) (hca : ∀ i, i < cs.length → 1 ≤ ca.getD i 0 ∧ ca.getD i 0 ≤ 8) (hts : ∀ x ∈ ts, 0 ≤ x.a ∧ x.a < cs.length ∧ 0 ≤ x.b ∧ x.b < cs.length) :
    Sol cs.length ca bu ts (lits cs) (trulyL ca bu ts cs) := by
  have h0 : TI cs.length ca bu ts (lits cs) 0 (fun _ _ => False) (lits cs) := by
    have hg := lits_g2 cs
    have hv : ∀ i, i < cs.length → (lits cs).getD i 0 = 1000000 ∨ (lits cs).getD i 0 = 0 := fun i hi => by
      rw [lits_get cs i hi]; split
      · exact .inr rfl
      · exact .inl rfl
    refine ⟨hg.len, fun i hi => ?_, fun i hi h => h, fun i hi h1 h2 => ?_, fun a b ha hb he hu hlt => ?_, fun a b ha hb hp => hp.elim⟩
    · rcases hv i hi with e | e
      · exact .inl e
      · right; omega
    · rcases hv i hi with e | e
      · exact absurd e h2
      · exact absurd e h1
    · have := hg.val a ha
      have := hca b hb
      omega
  have h := TI.mins hca hts 201 0 (lits cs) (by omega) (by omega) h0
  have hk := known_le (trulyL ca bu ts cs)
  unfold trulyL at *
  rw [h.len] at hk
  have hrel : ∀ a b, a < cs.length → b < cs.length → Edge ca bu ts a b → (mins ca bu ts 201 0 (lits cs)).getD a 0 ≠ 1000000 → (mins ca bu ts 201 0 (lits cs)).getD b 0 ≠ 1000000 ∧ (mins ca bu ts 201 0 (lits cs)).getD b 0 ≤ (mins ca bu ts 201 0 (lits cs)).getD a 0 + ca.getD b 0 := by
    intro a b ha hb he hu
    refine h.rel a b ha hb he hu ?_
    have := hca b hb
    rcases h.val a ha with e | e
    · exact absurd e hu
    · omega
  refine ⟨h.len, h.lit, fun i hi => ?_, h.sup, hrel⟩
  rcases h.val i hi with e | e
  · omega
  · exact e.1

theorem truly_times {ca bu : List Int} {ts : List Touch} (cs : List Coal) (hn : cs.length ≤ 12) (hca : ∀ i, i < cs.length → 1 ≤ ca.getD i 0 ∧ ca.getD i 0 ≤ 8) (hts : ∀ x ∈ ts, 0 ≤ x.a ∧ x.a < cs.length ∧ 0 ≤ x.b ∧ x.b < cs.length) :
    trulyL ca bu ts cs = times ca bu ts cs :=
  Sol.uniq (fun i hi => (hca i hi).1) (truly_sol cs hn hca hts) (times_sol cs (by omega) (fun i hi => by have := hca i hi; omega) hts)
end Go.Gh
