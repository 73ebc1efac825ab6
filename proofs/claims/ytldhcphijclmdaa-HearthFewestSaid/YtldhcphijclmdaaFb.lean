/- When coals begin: the program. -/
import Derived.Test.YtldhcphijclmdaaFa
namespace Go.Gh
open Go.Proofs
set_option linter.unusedSimpArgs false
set_option linter.unusedVariables false
set_option maxRecDepth 100000
set_option maxHeartbeats 4000000

variable {keep : Nat → Bool} (hk : ∀ f, kept f = false → keep f = false) {c : Nat} {H : Heap}

/-! ### maps -/
def ent (m : List (Int × Int)) : List (PV × GV) := m.map fun p => (.int .i64 p.1, .pure (.int .i64 p.2))
def mfind : List (Int × Int) → Int → Nat → Option (Nat × Int)
  | [], _, _ => none
  | p :: r, k, i => if k = p.1 then some (i, p.2) else mfind r k (i + 1)
theorem findEntry_ent (k : Int) : ∀ (m : List (Int × Int)) (i : Nat), findEntry (.int .i64 k) (ent m) i = some ((mfind m k i).map fun x => (x.1, .pure (.int .i64 x.2)))
  | [], i => rfl
  | p :: r, i => by
    simp only [ent, List.map_cons, findEntry, keyEq, if_true, mfind]
    by_cases h : k = p.1
    · simp [h]
    · have : (k == p.1) = false := by simpa using h
      simp only [this, h, if_false]
      exact findEntry_ent k r (i + 1)
def mget (m : List (Int × Int)) (k : Int) : Option Int := (mfind m k 0).map (·.2)
def mset (m : List (Int × Int)) (k v : Int) : List (Int × Int) := match mfind m k 0 with | some (j, _) => m.set j (k, v) | none => m ++ [(k, v)]
theorem mfind_some {k v : Int} : ∀ {m : List (Int × Int)} {i j : Nat}, mfind m k i = some (j, v) → i ≤ j ∧ m[j - i]? = some (k, v)
  | [], i, j, h => by simp [mfind] at h
  | p :: r, i, j, h => by
    simp only [mfind] at h
    split at h
    · rename_i e
      simp only [Option.some.injEq, Prod.mk.injEq] at h
      obtain ⟨rfl, rfl⟩ := h
      simp [e]
    · obtain ⟨h1, h2⟩ := mfind_some h
      refine ⟨by omega, ?_⟩
      have : j - i = (j - (i + 1)) + 1 := by omega
      rw [this]; simpa using h2
theorem mfind_set {k v : Int} (k' : Int) : ∀ {m : List (Int × Int)} {i j : Nat} {v0 : Int}, mfind m k i = some (j, v0) → (mfind (m.set (j - i) (k, v)) k' i).map (·.2) = if k' = k then some v else (mfind m k' i).map (·.2)
  | [], i, j, v0, h => by simp [mfind] at h
  | p :: r, i, j, v0, h => by
    simp only [mfind] at h
    split at h
    · rename_i e
      simp only [Option.some.injEq, Prod.mk.injEq] at h
      obtain ⟨rfl, rfl⟩ := h
      simp only [Nat.sub_self, List.set_cons_zero, mfind]
      by_cases e2 : k' = k
      · simp [e2]
      · simp [e2, ← e]
    · rename_i e
      have h1 := (mfind_some h).1
      have : j - i = (j - (i + 1)) + 1 := by omega
      rw [this]
      simp only [List.set_cons_succ, mfind]
      by_cases e2 : k' = p.1
      · simp only [e2, if_true, Option.map_some]
        rw [if_neg (fun e3 => e e3.symm)]
      · simp only [e2, if_false]
        exact mfind_set k' h
theorem mfind_app {k v : Int} (k' : Int) : ∀ {m : List (Int × Int)} {i : Nat}, mfind m k i = none → (mfind (m ++ [(k, v)]) k' i).map (·.2) = if k' = k then some v else (mfind m k' i).map (·.2)
  | [], i, h => by
    simp only [List.nil_append, mfind]
    split <;> rfl
  | p :: r, i, h => by
    simp only [mfind] at h
    split at h
    · cases h
    · rename_i e
      simp only [List.cons_append, mfind]
      by_cases e2 : k' = p.1
      · simp only [e2, if_true, Option.map_some]
        rw [if_neg (fun e3 => e e3.symm)]
      · simp only [e2, if_false]
        exact mfind_app k' h
theorem mget_mset (m : List (Int × Int)) (k v k' : Int) : mget (mset m k v) k' = if k' = k then some v else mget m k' := by
  unfold mget mset
  cases h : mfind m k 0 with
  | none => exact mfind_app k' h
  | some x => obtain ⟨j, v0⟩ := x; exact mfind_set k' h
theorem mget_none {m : List (Int × Int)} {k : Int} (h : mget m k = none) : mfind m k 0 = none := by
  unfold mget at h; cases e : mfind m k 0 with
  | none => rfl
  | some x => rw [e] at h; cases h
theorem mget_some {m : List (Int × Int)} {k v : Int} (h : mget m k = some v) : ∃ j, mfind m k 0 = some (j, v) := by
  unfold mget at h; cases e : mfind m k 0 with
  | none => rw [e] at h; cases h
  | some x => obtain ⟨j, v'⟩ := x; rw [e] at h; cases h; exact ⟨j, rfl⟩

/-- A map of beginnings, and the list that says the same. -/
def MRel (m : List (Int × Int)) (t : List Int) : Prop := ∀ i : Nat, i < t.length → mget m i = if t.getD i 0 = 1000000 then none else some (t.getD i 0)
theorem MRel.set {m : List (Int × Int)} {t : List Int} (h : MRel m t) {b : Nat} {v : Int} (hv : v ≠ 1000000) (hb : b < t.length) : MRel (mset m b v) (t.set b v) := by
  intro i hi
  rw [mget_mset]
  by_cases e : i = b
  · subst e
    rw [if_pos rfl, getD_set_self hb, if_neg hv]
  · have : ¬ (i : Int) = b := by omega
    rw [if_neg this, getD_set_ne' (Ne.symm e)]
    exact h i (by simpa using hi)

include hk in
theorem endsOf_ok {a b : Int} (hH : 0 < H.length) : gcall (KC keep) (geval (KC keep)) 94 [.pure (.agg [.int .i64 a, .int .i64 b])] c H = some (.pure (.agg [.int .i64 a, .int .i64 b]), H) := by
  refine WPv_eq (call_enter (KC keep) needT Try.func94 rfl rfl good94 rfl (by simp) hH ?_)
  simp [gleave_free, hk, kept]
include hk in
theorem spanE_ok {a b : Int} (hH : 0 < H.length) : gcall (KC keep) (geval (KC keep)) 69 [.pure (.agg [.int .i64 a, .int .i64 b])] c H = some (.pure (.agg [.int .i64 a, .int .i64 b]), H) := by
  refine WPv_eq (call_enter (KC keep) needT Try.func69 rfl rfl good69 rfl (by simp) hH ?_)
  simp [gleave_free, hk, kept]

theorem w64_1 : IntKind.i64.wrap 1 = 1 := rfl
theorem w64_0 : IntKind.i64.wrap 0 = 0 := rfl
/-! ### a coal catches from another one -/
def caE (e : Nat) (cs : List Coal) : List Int := if e = 0 then soonC cs else lateC cs
def buE (e : Nat) (cs : List Coal) : List Int := if e = 0 then soonB cs else lateB cs
section
variable {cs : List Coal} {ts : List Touch} {t : List Int} {a b e : Nat} {nA nM nF nE : Nm} {m : List (Int × Int)}
include hk in
theorem from_no (he : e < 2) (hn : cs.length ≤ 1000) (ht : Good cs.length t) (ha : a < cs.length) (hb : b < cs.length) (hm : MRel m t) (hca : 0 ≤ (caE e cs).getD b 0 ∧ (caE e cs).getD b 0 ≤ 300)
    (gA : H.get nA = some (.box [.map nM])) (gM : H.get nM = some (.map (ent m))) (gF : H.get nF = some (.box [.pure (.slice (cs.map Coal.row)), .pure (.slice (ts.map Touch.row))])) (gE : H.get nE = some (.box [.pure (.int .i64 e)]))
    (h : spr (caE e cs) (buE e cs) t a b = none) :
    gcall (KC keep) (geval (KC keep)) 98 [.pure (.int .i64 a), .pure (.int .i64 b), .bptr nA 0, .bptr nF 0, .bptr nE 0] c H = some (.pure (.bool false), H) := by
  have l1 := Heap.get_lt gA; have l2 := Heap.get_lt gM; have l3 := Heap.get_lt gF; have l4 := Heap.get_lt gE
  have n1 : ¬ nA.1 = H.length := by omega
  have n2 : ¬ nM.1 = H.length := by omega
  have n3 : ¬ nF.1 = H.length := by omega
  have n4 : ¬ nE.1 = H.length := by omega
  have hta : a < t.length := by rw [ht.len]; exact ha
  have htb : b < t.length := by rw [ht.len]; exact hb
  have hma := hm a hta
  have hmb := hm b htb
  have hvala := ht.val a ha
  have hvalb := ht.val b hb
  have hkn : known t ≤ cs.length := ht.len ▸ known_le t
  unfold spr at h
  have hcab : (caE e cs).getD b 0 = if e = 0 then cs[b].katch.lo else cs[b].katch.hi := by
    unfold caE; split
    · exact getD_map_of hb
    · exact getD_map_of hb
  have hbua : (buE e cs).getD a 0 = if e = 0 then cs[a].burn.hi else cs[a].burn.lo := by
    unfold buE; split
    · exact getD_map_of ha
    · exact getD_map_of ha
  rw [hcab, hbua] at h
  rw [hcab] at hca
  refine WPv_eq (call_enter (KC keep) needT Try.func98 rfl rfl good98 rfl (by simp) (by omega) ?_)
  have e2 : e = 0 ∨ e = 1 := by omega
  by_cases h1 : t.getD a 0 = 1000000
  · rw [if_pos h1] at hma
    have hf := mget_none hma
    rcases e2 with rfl | rfl
    · simp [n1, n2, n3, n4, gA, gM, gF, gE, findEntry_ent, hf, ha, hb, Coal.row, endsOf_ok hk, w64_1, w64_0, gleave_free, hk, kept]
    · simp [n1, n2, n3, n4, gA, gM, gF, gE, findEntry_ent, hf, ha, hb, Coal.row, endsOf_ok hk, w64_1, w64_0, gleave_free, hk, kept]
  · rw [if_neg h1] at hma
    obtain ⟨j, hf⟩ := mget_some hma
    have hva : 0 ≤ t.getD a 0 ∧ t.getD a 0 ≤ 300 * (known t : Int) := by
      rcases hvala with e | e
      · exact absurd e h1
      · exact e
    generalize hA : t.getD a 0 = A at *
    have hw1 := fun (z : Int) (hz : 0 ≤ z ∧ z ≤ 300) => w64 (x := A + z) (by omega) (by omega)
    have hA1 : ¬ 1000000 ≤ A := by omega
    by_cases h2 : t.getD b 0 = 1000000
    · rw [h2] at h
      rcases e2 with rfl | rfl
      · simp only [if_true] at h hca
        by_cases h3 : cs[a].burn.hi < cs[b].katch.lo
        · simp [n1, n2, n3, n4, gA, gM, gF, gE, findEntry_ent, hf, ha, hb, Coal.row, endsOf_ok hk, w64_1, w64_0, gleave_free, hk, kept, h3]
        · exact absurd h (by rw [if_neg (by omega)]; simp)
      · simp only [Nat.one_ne_zero, if_false] at h hca
        by_cases h3 : cs[a].burn.lo < cs[b].katch.hi
        · simp [n1, n2, n3, n4, gA, gM, gF, gE, findEntry_ent, hf, ha, hb, Coal.row, endsOf_ok hk, w64_1, w64_0, gleave_free, hk, kept, h3]
        · exact absurd h (by rw [if_neg (by omega)]; simp)
    · rw [if_neg h2] at hmb
      obtain ⟨j2, hf2⟩ := mget_some hmb
      generalize hB : t.getD b 0 = B at *
      rcases e2 with rfl | rfl
      · simp only [if_true] at h hca
        have hw := hw1 _ hca
        by_cases h3 : cs[a].burn.hi < cs[b].katch.lo
        · simp [n1, n2, n3, n4, gA, gM, gF, gE, findEntry_ent, hf, ha, hb, Coal.row, endsOf_ok hk, w64_1, w64_0, gleave_free, hk, kept, h3]
        · by_cases h4 : B ≤ A + cs[b].katch.lo
          · simp [n1, n2, n3, n4, gA, gM, gF, gE, findEntry_ent, hf, ha, hb, Coal.row, endsOf_ok hk, w64_1, w64_0, gleave_free, hk, kept, h3, hf2, hw, h4]
          · exact absurd h (by rw [if_neg (by omega)]; simp)
      · simp only [Nat.one_ne_zero, if_false] at h hca
        have hw := hw1 _ hca
        by_cases h3 : cs[a].burn.lo < cs[b].katch.hi
        · simp [n1, n2, n3, n4, gA, gM, gF, gE, findEntry_ent, hf, ha, hb, Coal.row, endsOf_ok hk, w64_1, w64_0, gleave_free, hk, kept, h3]
        · by_cases h4 : B ≤ A + cs[b].katch.hi
          · simp [n1, n2, n3, n4, gA, gM, gF, gE, findEntry_ent, hf, ha, hb, Coal.row, endsOf_ok hk, w64_1, w64_0, gleave_free, hk, kept, h3, hf2, hw, h4]
          · exact absurd h (by rw [if_neg (by omega)]; simp)
include hk in
theorem from_yes (he : e < 2) (hn : cs.length ≤ 1000) (ht : Good cs.length t) (ha : a < cs.length) (hb : b < cs.length) (hm : MRel m t) (hca : 0 ≤ (caE e cs).getD b 0 ∧ (caE e cs).getD b 0 ≤ 300)
    (gA : H.get nA = some (.box [.map nM])) (gM : H.get nM = some (.map (ent m))) (gF : H.get nF = some (.box [.pure (.slice (cs.map Coal.row)), .pure (.slice (ts.map Touch.row))])) (gE : H.get nE = some (.box [.pure (.int .i64 e)])) {t' : List Int}
    (h : spr (caE e cs) (buE e cs) t a b = some t') :
    gcall (KC keep) (geval (KC keep)) 98 [.pure (.int .i64 a), .pure (.int .i64 b), .bptr nA 0, .bptr nF 0, .bptr nE 0] c H = some (.pure (.bool true), H.set nM (.map (ent (mset m b (t'.getD b 0))))) := by
  have l1 := Heap.get_lt gA; have l2 := Heap.get_lt gM; have l3 := Heap.get_lt gF; have l4 := Heap.get_lt gE
  have n1 : ¬ nA.1 = H.length := by omega
  have n2 : ¬ nM.1 = H.length := by omega
  have n3 : ¬ nF.1 = H.length := by omega
  have n4 : ¬ nE.1 = H.length := by omega
  have hta : a < t.length := by rw [ht.len]; exact ha
  have htb : b < t.length := by rw [ht.len]; exact hb
  have hma := hm a hta
  have hmb := hm b htb
  have hvala := ht.val a ha
  have hvalb := ht.val b hb
  have hkn : known t ≤ cs.length := ht.len ▸ known_le t
  obtain ⟨s1, s2, s3, s4, s5, s6⟩ := spr_some ht hn ha hb hca h
  subst s1
  rw [getD_set_self htb]
  unfold spr at h
  have hcab : (caE e cs).getD b 0 = if e = 0 then cs[b].katch.lo else cs[b].katch.hi := by
    unfold caE; split
    · exact getD_map_of hb
    · exact getD_map_of hb
  have hbua : (buE e cs).getD a 0 = if e = 0 then cs[a].burn.hi else cs[a].burn.lo := by
    unfold buE; split
    · exact getD_map_of ha
    · exact getD_map_of ha
  rw [hcab, hbua] at h
  rw [hcab] at hca s6 ⊢
  rw [if_neg s4] at hma
  obtain ⟨j, hf⟩ := mget_some hma
  refine WPv_eq (call_enter (KC keep) needT Try.func98 rfl rfl good98 rfl (by simp) (by omega) ?_)
  have e2 : e = 0 ∨ e = 1 := by omega
  have hmset : ∀ v, ent (mset m b v) = (match mfind m b 0 with | some (j, _) => (ent m).set j (.int .i64 b, .pure (.int .i64 v)) | none => ent m ++ [(.int .i64 b, .pure (.int .i64 v))]) := by
    intro v
    unfold mset ent
    cases mfind m b 0 with
    | none => simp
    | some x => simp [List.map_set]
  generalize hA : t.getD a 0 = A at *
  have hw1 := fun (z : Int) (hz : 0 ≤ z ∧ z ≤ 300) => w64 (x := A + z) (by omega) (by omega)
  have hne : ¬ (1000000 ≤ A ∨ (if e = 0 then cs[a].burn.hi else cs[a].burn.lo) < (if e = 0 then cs[b].katch.lo else cs[b].katch.hi) ∨ t.getD b 0 ≤ A + (if e = 0 then cs[b].katch.lo else cs[b].katch.hi)) := by
    intro hc; rw [if_pos hc] at h; cases h
  simp only [not_or, Int.not_le, Int.not_lt] at hne
  obtain ⟨x1, x2, x3⟩ := hne
  by_cases h2 : t.getD b 0 = 1000000
  · rw [if_pos h2] at hmb
    have hf2 := mget_none hmb
    rcases e2 with rfl | rfl
    · simp only [if_true] at x2 x3 hca
      have hw := hw1 _ hca
      have y2 : ¬ cs[a].burn.hi < cs[b].katch.lo := by omega
      simp [n1, n2, n3, n4, gA, gM, gF, gE, findEntry_ent, hf, ha, hb, Coal.row, endsOf_ok hk, w64_1, w64_0, gleave_free, hk, kept, hf2, hw, y2, hmset]
    · simp only [Nat.one_ne_zero, if_false] at x2 x3 hca
      have hw := hw1 _ hca
      have y2 : ¬ cs[a].burn.lo < cs[b].katch.hi := by omega
      simp [n1, n2, n3, n4, gA, gM, gF, gE, findEntry_ent, hf, ha, hb, Coal.row, endsOf_ok hk, w64_1, w64_0, gleave_free, hk, kept, hf2, hw, y2, hmset]
  · rw [if_neg h2] at hmb
    obtain ⟨j2, hf2⟩ := mget_some hmb
    generalize hB : t.getD b 0 = B at *
    rcases e2 with rfl | rfl
    · simp only [if_true] at x2 x3 hca
      have hw := hw1 _ hca
      have y2 : ¬ cs[a].burn.hi < cs[b].katch.lo := by omega
      have y3 : ¬ B ≤ A + cs[b].katch.lo := by omega
      simp [n1, n2, n3, n4, gA, gM, gF, gE, findEntry_ent, hf, ha, hb, Coal.row, endsOf_ok hk, w64_1, w64_0, gleave_free, hk, kept, hf2, hw, y2, y3, hmset]
    · simp only [Nat.one_ne_zero, if_false] at x2 x3 hca
      have hw := hw1 _ hca
      have y2 : ¬ cs[a].burn.lo < cs[b].katch.hi := by omega
      have y3 : ¬ B ≤ A + cs[b].katch.hi := by omega
      simp [n1, n2, n3, n4, gA, gM, gF, gE, findEntry_ent, hf, ha, hb, Coal.row, endsOf_ok hk, w64_1, w64_0, gleave_free, hk, kept, hf2, hw, y2, y3, hmset]
end
end Go.Gh


/- When coals begin: the program's lit. -/
namespace Go.Gh
open Go.Proofs
set_option linter.unusedSimpArgs false
set_option linter.unusedVariables false
set_option maxRecDepth 100000
set_option maxHeartbeats 4000000

variable {keep : Nat → Bool} (hk : ∀ f, kept f = false → keep f = false) {c : Nat} {H : Heap}

theorem ent_mset (m : List (Int × Int)) (b v : Int) : ent (mset m b v) = (match mfind m b 0 with | some (j, _) => (ent m).set j (.int .i64 b, .pure (.int .i64 v)) | none => ent m ++ [(.int .i64 b, .pure (.int .i64 v))]) := by
  unfold mset ent
  cases mfind m b 0 with
  | none => simp
  | some x => simp [List.map_set]
def lfr (cs : List Coal) (ts : List Touch) (e l : Nat) (m : List (Int × Int)) : Fr :=
  [(2, .box [.pure (.slice (cs.map Coal.row)), .pure (.slice (ts.map Touch.row))]), (3, .box [.pure (.int .i64 e)]), (5, .box [.map (l, 14)]), (14, .map (ent m))]

theorem lit_loop0 (cs : List Coal) (ts : List Touch) (e : Nat) (hn : cs.length ≤ 1000) (Q : GX → GSt → Prop) (hH : 0 < H.length) : ∀ (k i : Nat) (m : List (Int × Int)), i + k = cs.length → MRel m (lits (cs.take i) ++ List.replicate k 1000000) →
    (∀ m, MRel m (lits cs) → Q (.exit 0) ⟨[(2, .bptr (H.length, 2) 0), (3, .bptr (H.length, 3) 0), (5, .bptr (H.length, 5) 0)], lfr cs ts e H.length m :: H, 58⟩) →
    WPL (KC keep) needT 90 (lp Try.f90 0) [2, 3, 5, 16, 17, 18] [2, 3, 5] Q [(2, .bptr (H.length, 2) 0), (3, .bptr (H.length, 3) 0), (5, .bptr (H.length, 5) 0), (16, .pure (.slice (cs.map Coal.row))), (17, .pure (.int .i64 cs.length)), (18, .pure (.int .i64 i))]
      (lfr cs ts e H.length m :: H) 58 := by
  intro k
  induction k with
  | zero =>
    intro i m hi hm h1
    have e1 : cs.take i = cs := List.take_of_length_le (by omega)
    rw [e1] at hm
    have h1' := h1 m (by simpa using hm)
    have hia : ¬ i < cs.length := by omega
    apply WPL_step
    conv => arg 4; whnf
    simp [hia, hH, lfr]
    simpa [lfr] using h1'
  | succ k ih =>
    intro i m hi hm h1
    have hia : i < cs.length := by omega
    have hw := w64 (x := (i : Int) + 1) (by omega) (by omega)
    have hlen : (lits (cs.take i)).length = i := by rw [lits_len]; simp; omega
    have ht := lits_take cs i hia
    by_cases hx : cs[i].lit = true
    · have hms := hm.set (b := i) (v := 0) (by omega) (by simp [hlen])
      have ih' := ih (i + 1) (mset m i 0) (by omega) (by
        rw [ht, if_pos hx]
        have : (lits (cs.take i) ++ List.replicate (k + 1) 1000000).set i 0 = lits (cs.take i) ++ [0] ++ List.replicate k 1000000 := by
          rw [List.set_append_right _ _ (by omega), hlen]
          simp [List.replicate_succ]
        rwa [this] at hms) h1
      apply WPL_step
      conv => arg 4; whnf
      cases hf : mfind m i 0 with
      | none =>
        simp [hia, hH, Coal.row, hx, hw, lfr, findEntry_ent, hf]
        simpa [lfr, ent_mset, hf] using ih'
      | some y =>
        simp [hia, hH, Coal.row, hx, hw, lfr, findEntry_ent, hf]
        simpa [lfr, ent_mset, hf] using ih'
    · have ih' := ih (i + 1) m (by omega) (by
        rw [ht, if_neg hx]
        rw [List.replicate_succ] at hm
        simpa using hm) h1
      apply WPL_step
      conv => arg 4; whnf
      simp [hia, hH, Coal.row, hx, hw, lfr]
      simpa [lfr] using ih'

def litF (l : Nat) : GV := .func 98 [] [.bptr (l, 5) 0, .bptr (l, 2) 0, .bptr (l, 3) 0]
include hk in
theorem lit_loop2 (cs : List Coal) (ts : List Touch) {e : Nat} (he : e < 2) (hn : cs.length ≤ 1000) (hca : ∀ i, i < cs.length → 0 ≤ (caE e cs).getD i 0 ∧ (caE e cs).getD i 0 ≤ 300)
    (hts : ∀ x ∈ ts, 0 ≤ x.a ∧ x.a < cs.length ∧ 0 ≤ x.b ∧ x.b < cs.length) (htl : ts.length ≤ 1000) (Q : GX → GSt → Prop) (hH : 0 < H.length) : ∀ (k i : Nat) (t : List Int) (m : List (Int × Int)) (mv : Bool), i + k = ts.length → Good cs.length t → MRel m t →
    (∀ m', MRel m' (rnd (caE e cs) (buE e cs) (ts.drop i) t mv).1 → Q (.exit 4) ⟨[(2, .bptr (H.length, 2) 0), (5, .bptr (H.length, 5) 0), (8, litF H.length), (9, .pure (.bool (rnd (caE e cs) (buE e cs) (ts.drop i) t mv).2))], [] :: lfr cs ts e H.length m' :: H, 58⟩) →
    WPL (KC keep) needT 90 (lp Try.f90 2) [2, 5, 8, 9, 31, 32, 33] [2, 5, 8, 9] Q [(2, .bptr (H.length, 2) 0), (5, .bptr (H.length, 5) 0), (8, litF H.length), (9, .pure (.bool mv)), (31, .pure (.slice (ts.map Touch.row))), (32, .pure (.int .i64 ts.length)), (33, .pure (.int .i64 i))]
      ([] :: lfr cs ts e H.length m :: H) 58 := by
  intro k
  induction k with
  | zero =>
    intro i t m mv hi hg hm h1
    have e1 : ts.drop i = [] := List.drop_of_length_le (by omega)
    rw [e1] at h1
    have hia : ¬ i < ts.length := by omega
    apply WPL_step
    conv => arg 4; whnf
    simp [hia, hH, lfr, litF]
    simpa [lfr, litF, rnd] using h1 m (by simpa [rnd] using hm)
  | succ k ih =>
    intro i t m mv hi hg hm h1
    have hia : i < ts.length := by omega
    have hw := w64 (x := (i : Int) + 1) (by omega) (by omega)
    have hx := hts ts[i] (List.getElem_mem hia)
    have hg1 := (touch1_ok (bu := buE e cs) hn hca hx hg).1
    rw [rnd_drop (caE e cs) (buE e cs) ts t mv i hia] at h1
    obtain ⟨a, ha⟩ : ∃ a : Nat, ts[i].a = a := ⟨ts[i].a.toNat, by omega⟩
    obtain ⟨b, hb⟩ : ∃ b : Nat, ts[i].b = b := ⟨ts[i].b.toNat, by omega⟩
    have han : a < cs.length := by omega
    have hbn : b < cs.length := by omega
    have ih' := fun (m : List (Int × Int)) (hm' : MRel m (touch1 (caE e cs) (buE e cs) t ts[i]).1) => ih (i + 1) (touch1 (caE e cs) (buE e cs) t ts[i]).1 m (mv || (touch1 (caE e cs) (buE e cs) t ts[i]).2) (by omega) hg1 hm' h1
    unfold touch1 at ih'
    rw [ha, hb] at ih'
    simp only [Int.toNat_natCast] at ih'
    apply WPL_step
    conv => arg 4; whnf
    cases e1 : spr (caE e cs) (buE e cs) t a b with
    | none =>
      rw [e1] at ih'
      have S1 := fun (H : Heap) (nA nM nF nE : Nm) (c : Nat) gA gM gF gE => from_no (H := H) (nA := nA) (nM := nM) (nF := nF) (nE := nE) (c := c) (ts := ts) hk he hn hg han hbn hm (hca b hbn) gA gM gF gE e1
      cases e2 : spr (caE e cs) (buE e cs) t b a with
      | none =>
        simp [e2] at ih'
        have S2 := fun (H : Heap) (nA nM nF nE : Nm) (c : Nat) gA gM gF gE => from_no (H := H) (nA := nA) (nM := nM) (nF := nF) (nE := nE) (c := c) (ts := ts) hk he hn hg hbn han hm (hca a han) gA gM gF gE e2
        have ih2 := ih' m hm
        simp [lfr, litF] at ih2
        cases mv with
        | true =>
          simp [hia, hH, Touch.row, ha, hb, lfr, litF, S1 _ _ (H.length, 14), S2 _ _ (H.length, 14), hw]
          simpa using ih2
        | false =>
          simp [hia, hH, Touch.row, ha, hb, lfr, litF, S1 _ _ (H.length, 14), S2 _ _ (H.length, 14), hw]
          simpa using ih2
      | some t2 =>
        simp [e2] at ih'
        have S2 := fun (H : Heap) (nA nM nF nE : Nm) (c : Nat) gA gM gF gE => from_yes (H := H) (nA := nA) (nM := nM) (nF := nF) (nE := nE) (c := c) (ts := ts) hk he hn hg hbn han hm (hca a han) gA gM gF gE e2
        have q := spr_some hg hn hbn han (hca a han) e2
        have hv : t2.getD a 0 ≠ 1000000 := by rw [q.1, getD_set_self (by rw [hg.len]; exact han)]; omega
        have hm2 : MRel (mset m a (t2.getD a 0)) t2 := by
          have := hm.set (b := a) (v := t2.getD a 0) hv (by rw [hg.len]; exact han)
          rw [q.1] at this ⊢
          rwa [getD_set_self (by rw [hg.len]; exact han)] at this ⊢
        have ih2 := ih' _ hm2
        simp [lfr, litF] at ih2
        cases mv with
        | true =>
          simp [hia, hH, Touch.row, ha, hb, lfr, litF, S1 _ _ (H.length, 14), S2 _ _ (H.length, 14), hw]
          simpa using ih2
        | false =>
          simp [hia, hH, Touch.row, ha, hb, lfr, litF, S1 _ _ (H.length, 14), S2 _ _ (H.length, 14), hw]
          simpa using ih2
    | some t1 =>
      rw [e1] at ih'
      have S1 := fun (H : Heap) (nA nM nF nE : Nm) (c : Nat) gA gM gF gE => from_yes (H := H) (nA := nA) (nM := nM) (nF := nF) (nE := nE) (c := c) (ts := ts) hk he hn hg han hbn hm (hca b hbn) gA gM gF gE e1
      have q := spr_some hg hn han hbn (hca b hbn) e1
      have hg2 := q.2.1
      have hv : t1.getD b 0 ≠ 1000000 := by rw [q.1, getD_set_self (by rw [hg.len]; exact hbn)]; omega
      have hm1 : MRel (mset m b (t1.getD b 0)) t1 := by
        have := hm.set (b := b) (v := t1.getD b 0) hv (by rw [hg.len]; exact hbn)
        rw [q.1] at this ⊢
        rwa [getD_set_self (by rw [hg.len]; exact hbn)] at this ⊢
      generalize mset m b (t1.getD b 0) = m1 at *
      cases e2 : spr (caE e cs) (buE e cs) t1 b a with
      | none =>
        simp [e2] at ih'
        have S2 := fun (H : Heap) (nA nM nF nE : Nm) (c : Nat) gA gM gF gE => from_no (H := H) (nA := nA) (nM := nM) (nF := nF) (nE := nE) (c := c) (ts := ts) hk he hn hg2 hbn han hm1 (hca a han) gA gM gF gE e2
        have ih2 := ih' _ hm1
        simp [lfr, litF] at ih2
        cases mv with
        | true =>
          simp [hia, hH, Touch.row, ha, hb, lfr, litF, S1 _ _ (H.length, 14), S2 _ _ (H.length, 14), hw]
          simpa using ih2
        | false =>
          simp [hia, hH, Touch.row, ha, hb, lfr, litF, S1 _ _ (H.length, 14), S2 _ _ (H.length, 14), hw]
          simpa using ih2
      | some t2 =>
        simp [e2] at ih'
        have S2 := fun (H : Heap) (nA nM nF nE : Nm) (c : Nat) gA gM gF gE => from_yes (H := H) (nA := nA) (nM := nM) (nF := nF) (nE := nE) (c := c) (ts := ts) hk he hn hg2 hbn han hm1 (hca a han) gA gM gF gE e2
        have q := spr_some hg2 hn hbn han (hca a han) e2
        have hv : t2.getD a 0 ≠ 1000000 := by rw [q.1, getD_set_self (by rw [hg2.len]; exact han)]; omega
        have hm2 : MRel (mset m1 a (t2.getD a 0)) t2 := by
          have := hm1.set (b := a) (v := t2.getD a 0) hv (by rw [hg2.len]; exact han)
          rw [q.1] at this ⊢
          rwa [getD_set_self (by rw [hg2.len]; exact han)] at this ⊢
        have ih2 := ih' _ hm2
        simp [lfr, litF] at ih2
        cases mv with
        | true =>
          simp [hia, hH, Touch.row, ha, hb, lfr, litF, S1 _ _ (H.length, 14), S2 _ _ (H.length, 14), hw]
          simpa using ih2
        | false =>
          simp [hia, hH, Touch.row, ha, hb, lfr, litF, S1 _ _ (H.length, 14), S2 _ _ (H.length, 14), hw]
          simpa using ih2
theorem lit_done (cs : List Coal) (ts : List Touch) (e : Nat) (m : List (Int × Int)) (Q : GX → GSt → Prop) (hH : 0 < H.length)
    (h1 : Q (.exit 2) ⟨[(5, .bptr (H.length, 5) 0)], lfr cs ts e H.length m :: H, 58⟩) :
    WPL (KC keep) needT 90 (lp Try.f90 1) [2, 5, 8, 9] [5] Q [(2, .bptr (H.length, 2) 0), (5, .bptr (H.length, 5) 0), (8, litF H.length), (9, .pure (.bool false))] (lfr cs ts e H.length m :: H) 58 := by
  apply WPL_step
  conv => arg 4; whnf
  simp [hH, lfr, litF]
  simpa [lfr] using h1
include hk in
theorem lit_loop1 (cs : List Coal) (ts : List Touch) {e : Nat} (he : e < 2) (hn : cs.length ≤ 1000) (hca : ∀ i, i < cs.length → 0 ≤ (caE e cs).getD i 0 ∧ (caE e cs).getD i 0 ≤ 300)
    (hts : ∀ x ∈ ts, 0 ≤ x.a ∧ x.a < cs.length ∧ 0 ≤ x.b ∧ x.b < cs.length) (htl : ts.length ≤ 1000) (Q : GX → GSt → Prop) (hH : 0 < H.length) : ∀ (k : Nat) (t : List Int) (m : List (Int × Int)), pot t < k → Good cs.length t → MRel m t →
    (∀ m', MRel m' (iter (caE e cs) (buE e cs) ts k t) → Q (.exit 2) ⟨[(5, .bptr (H.length, 5) 0)], lfr cs ts e H.length m' :: H, 58⟩) →
    WPL (KC keep) needT 90 (lp Try.f90 1) [2, 5, 8, 9] [5] Q [(2, .bptr (H.length, 2) 0), (5, .bptr (H.length, 5) 0), (8, litF H.length), (9, .pure (.bool true))] (lfr cs ts e H.length m :: H) 58 := by
  intro k
  induction k with
  | zero => intro t m h; omega
  | succ k ih =>
    intro t m hp hg hm h1
    obtain ⟨q1, q2, q3⟩ := rnd_ok (bu := buE e cs) hn hca ts t false hts hg
    simp only [iter] at h1
    have h2 := fun Q hq => lit_loop2 (keep := keep) hk cs ts he hn hca hts htl Q hH ts.length 0 t m false (by omega) hg hm hq
    simp only [List.drop_zero] at h2
    simp [lfr, litF] at h2
    apply WPL_step
    conv => arg 4; whnf
    simp [lfr, litF, hH]
    refine h2 _ (fun m' hm' => ?_)
    cases hv : (rnd (caE e cs) (buE e cs) ts t false).2 with
    | true =>
      have := q3 rfl hv
      rw [hv] at h1
      simp only [if_true] at h1
      have ih' := ih (rnd (caE e cs) (buE e cs) ts t false).1 m' (by omega) q1 hm' h1
      simpa [hH, lfr, litF] using ih'
    | false =>
      rw [hv] at h1
      simp only [Bool.false_eq_true, if_false] at h1
      have hd := lit_done (keep := keep) cs ts e m' Q hH (h1 m' hm')
      simpa [hH, lfr, litF] using hd

theorem gleave_keep {K : Ctx} {f : Nat} {c : Nat} {r : GV} {fr : Fr} (h : K.keep f = true) : gleave K f c r (fr :: H) = (match moveOut fr H c (dedup (refs H.length r)) H with | some H' => some (ren H.length c r, H') | none => none) := by
  unfold gleave; simp only [h, if_true]; rfl
theorem clean_ent (m : List (Int × Int)) (l : Nat) : (ent m).map (fun e => (e.1, clean2 [] l e.2)) = ent m := by
  unfold ent
  rw [List.map_map]
  rfl
def buT (e : Nat) (cs : List Coal) (ts : List Touch) : List Int := times (caE e cs) (buE e cs) ts cs
include hk in
theorem lit_ok (h90 : keep 90 = true) (cs : List Coal) (ts : List Touch) {e : Nat} (he : e < 2) (hn : cs.length ≤ 1000) (hca : ∀ i, i < cs.length → 0 ≤ (caE e cs).getD i 0 ∧ (caE e cs).getD i 0 ≤ 300)
    (hts : ∀ x ∈ ts, 0 ≤ x.a ∧ x.a < cs.length ∧ 0 ≤ x.b ∧ x.b < cs.length) (htl : ts.length ≤ 1000) (hH : 0 < H.length) (hfree : H.get (H.length - 1, newKey c 14) = none) :
    ∃ m, MRel m (times (caE e cs) (buE e cs) ts cs) ∧ gcall (KC keep) (geval (KC keep)) 90 [.pure (.agg [.slice (cs.map Coal.row), .slice (ts.map Touch.row)]), .pure (.int .i64 e)] c H = some (.map (H.length - 1, newKey c 14), H.set (H.length - 1, newKey c 14) (.map (ent m))) := by
  have key : WPv (gcall (KC keep) (geval (KC keep)) 90 [.pure (.agg [.slice (cs.map Coal.row), .slice (ts.map Touch.row)]), .pure (.int .i64 e)] c H) (fun x => ∃ m, MRel m (times (caE e cs) (buE e cs) ts cs) ∧ x = (.map (H.length - 1, newKey c 14), H.set (H.length - 1, newKey c 14) (.map (ent m)))) := by
    refine call_enter (KC keep) needT Try.func90 rfl rfl good90 rfl (by simp) hH ?_
    have h0 := fun Q hq => lit_loop0 (keep := keep) cs ts e hn Q hH cs.length 0 [] (by omega) (by
      intro i hi
      have e1 : i < cs.length := by simpa [lits] using hi
      have : (lits (cs.take 0) ++ List.replicate cs.length 1000000).getD i 0 = 1000000 := by
        simp [lits, List.getD_eq_getElem?_getD, e1]
      rw [this, if_pos rfl]; rfl) hq
    simp [lfr, ent] at h0
    simp
    refine h0 _ (fun m hm => ?_)
    simp
    have h1 := fun Q hq => lit_loop1 (keep := keep) hk cs ts he hn hca hts htl Q hH (1000000 * cs.length + 1) (lits cs) m (lits_pot cs) (lits_good cs) hm hq
    simp [lfr, ent, litF] at h1
    refine h1 _ (fun m' hm' => ?_)
    have hce := clean_ent m'
    simp only [ent] at hce
    simp [gleave_keep, h90, refs, refs2, refs1, dedup, moveOut, cleanBlk, hfree, ren, ren2, ren1, hce]
    exact ⟨m', hm', rfl⟩
  obtain ⟨r, e1, m, hm, e2⟩ := key
  exact ⟨m, hm, by rw [e1, e2]⟩
end Go.Gh


/- When coals begin: the program's begins, Begins. -/
namespace Go.Gh
open Go.Proofs
set_option linter.unusedSimpArgs false
set_option linter.unusedVariables false
set_option maxRecDepth 100000
set_option maxHeartbeats 4000000

variable {keep : Nat → Bool} (hk : ∀ f, kept f = false → keep f = false) {c : Nat} {H : Heap}

theorem clean2_apS {es key : Nat} {rows : List (List PV)} {fr : Fr} {l l0 : Nat} (hl : H.length = l) (h : l0 < l) : clean2 (apF key es rows fr :: H) l0 (apS (l, key) es rows) = if rows = [] then .nils else .pure (.slice rows) := by
  subst hl
  unfold apS
  by_cases hr : rows = []
  · subst hr; simp
  · have : ¬ H.length ≤ l0 := by omega
    simp [hr, this, apF_self hr]
theorem w64_2 : IntKind.i64.wrap 2 = 2 := rfl
def gfr (cs : List Coal) (ts : List Touch) (l : Nat) (m1 m2 : List (Int × Int)) : Fr :=
  [(1, .box [.pure (.slice (cs.map Coal.row)), .pure (.slice (ts.map Touch.row))]), (3, .box [.map (l, 49166), .map (l, 57358)]), (49166, .map (ent m1)), (57358, .map (ent m2))]

theorem gbegins_loop (cs : List Coal) (ts : List Touch) (lo hi : List Int) (m1 m2 : List (Int × Int)) (hl1 : lo.length = cs.length) (hl2 : hi.length = cs.length) (hm1 : MRel m1 lo) (hm2 : MRel m2 hi) (hn : cs.length ≤ 1000) (Q : GX → GSt → Prop) (hH : 0 < H.length) : ∀ k i : Nat, i + k = cs.length →
    Q (.exit 0) ⟨[(4, apS (H.length, 41) 2 ((List.zipWith mkSpan lo hi).map Span.row))], apF 41 2 ((List.zipWith mkSpan lo hi).map Span.row) (gfr cs ts H.length m1 m2) :: H, 44⟩ →
    WPL (KC keep) needT 68 (lp Try.f68 0) [3, 4, 17, 18] [4] Q [(3, .bptr (H.length, 3) 0), (4, apS (H.length, 41) 2 (((List.zipWith mkSpan lo hi).map Span.row).take i)), (17, .pure (.int .i64 cs.length)), (18, .pure (.int .i64 i))]
      (apF 41 2 (((List.zipWith mkSpan lo hi).map Span.row).take i) (gfr cs ts H.length m1 m2) :: H) 44 := by
  intro k
  have hzl : (List.zipWith mkSpan lo hi).length = cs.length := by simp [hl1, hl2]
  induction k with
  | zero =>
    intro i hi' h1
    have e : List.take i ((List.zipWith mkSpan lo hi).map Span.row) = (List.zipWith mkSpan lo hi).map Span.row := List.take_of_length_le (by simp [hl1, hl2]; omega)
    rw [e]
    have : ¬ i < cs.length := by omega
    generalize (List.zipWith mkSpan lo hi).map Span.row = rows at *
    apply WPL_step
    conv => arg 4; whnf
    simp [this, hH]
    exact h1
  | succ k ih =>
    intro i hi' h1
    have hia : i < cs.length := by omega
    have hib : i < lo.length := by omega
    have hic : i < hi.length := by omega
    have hw := w64 (x := (i : Int) + 1) (by omega) (by omega)
    have ih' := ih (i + 1) (by omega) h1
    have hiz : i < (List.zipWith mkSpan lo hi).length := by omega
    have e1 := tk Span.row (List.zipWith mkSpan lo hi) i hiz
    have e2 : (List.zipWith mkSpan lo hi)[i] = ⟨lo[i], hi[i]⟩ := by simp [mkSpan]
    rw [e2] at e1
    rw [← e1] at ih'
    have hrl : (((List.zipWith mkSpan lo hi).map Span.row).take i).length = i := by simp [hl1, hl2]; omega
    have hb : ((((List.zipWith mkSpan lo hi).map Span.row).take i).length + 1) * 16 ≤ 1099511627776 := by rw [hrl]; omega
    have g1 := hm1 i hib
    have g2 := hm2 i hic
    rw [getD_eq hib] at g1
    rw [getD_eq hic] at g2
    generalize ((List.zipWith mkSpan lo hi).map Span.row).take i = rows at *
    apply WPL_step
    conv => arg 4; whnf
    by_cases c1 : lo[i] = 1000000
    · rw [if_pos c1] at g1
      have f1 := mget_none g1
      by_cases c2 : hi[i] = 1000000
      · rw [if_pos c2] at g2
        have f2 := mget_none g2
        simp [hia, hib, hic, hH, irow, hw, hb, gfr, apF_get, apF_ins, findEntry_ent, f1, f2, c1, c2, w64_0, w64_1, w64_2]
        apply WPL_step
        conv => arg 4; whnf
        simp [hia, hib, hic, hH, irow, hw, hb, gfr, apF_get, apF_ins, findEntry_ent, f1, f2, c1, c2, w64_0, w64_1, w64_2]
        apply WPL_step
        conv => arg 4; whnf
        simp [hia, hib, hic, hH, irow, hw, hb, gfr, apF_get, apF_ins, findEntry_ent, f1, f2, c1, c2, w64_0, w64_1, w64_2]
        apply WPL_step
        conv => arg 4; whnf
        simp [hia, hib, hic, hH, irow, hw, hb, gfr, apF_get, apF_ins, findEntry_ent, f1, f2, c1, c2, w64_0, w64_1, w64_2]
        simp [Span.row, gfr, c1, c2] at ih'
        exact ih'
      · rw [if_neg c2] at g2
        obtain ⟨j2, f2⟩ := mget_some g2
        simp [hia, hib, hic, hH, irow, hw, hb, gfr, apF_get, apF_ins, findEntry_ent, f1, f2, c1, c2, w64_0, w64_1, w64_2]
        apply WPL_step
        conv => arg 4; whnf
        simp [hia, hib, hic, hH, irow, hw, hb, gfr, apF_get, apF_ins, findEntry_ent, f1, f2, c1, c2, w64_0, w64_1, w64_2]
        apply WPL_step
        conv => arg 4; whnf
        simp [hia, hib, hic, hH, irow, hw, hb, gfr, apF_get, apF_ins, findEntry_ent, f1, f2, c1, c2, w64_0, w64_1, w64_2]
        apply WPL_step
        conv => arg 4; whnf
        simp [hia, hib, hic, hH, irow, hw, hb, gfr, apF_get, apF_ins, findEntry_ent, f1, f2, c1, c2, w64_0, w64_1, w64_2]
        simp [Span.row, gfr, c1, c2] at ih'
        exact ih'
    · rw [if_neg c1] at g1
      obtain ⟨j1, f1⟩ := mget_some g1
      by_cases c2 : hi[i] = 1000000
      · rw [if_pos c2] at g2
        have f2 := mget_none g2
        simp [hia, hib, hic, hH, irow, hw, hb, gfr, apF_get, apF_ins, findEntry_ent, f1, f2, c1, c2, w64_0, w64_1, w64_2]
        apply WPL_step
        conv => arg 4; whnf
        simp [hia, hib, hic, hH, irow, hw, hb, gfr, apF_get, apF_ins, findEntry_ent, f1, f2, c1, c2, w64_0, w64_1, w64_2]
        apply WPL_step
        conv => arg 4; whnf
        simp [hia, hib, hic, hH, irow, hw, hb, gfr, apF_get, apF_ins, findEntry_ent, f1, f2, c1, c2, w64_0, w64_1, w64_2]
        apply WPL_step
        conv => arg 4; whnf
        simp [hia, hib, hic, hH, irow, hw, hb, gfr, apF_get, apF_ins, findEntry_ent, f1, f2, c1, c2, w64_0, w64_1, w64_2]
        simp [Span.row, gfr, c1, c2] at ih'
        exact ih'
      · rw [if_neg c2] at g2
        obtain ⟨j2, f2⟩ := mget_some g2
        simp [hia, hib, hic, hH, irow, hw, hb, gfr, apF_get, apF_ins, findEntry_ent, f1, f2, c1, c2, w64_0, w64_1, w64_2]
        apply WPL_step
        conv => arg 4; whnf
        simp [hia, hib, hic, hH, irow, hw, hb, gfr, apF_get, apF_ins, findEntry_ent, f1, f2, c1, c2, w64_0, w64_1, w64_2]
        apply WPL_step
        conv => arg 4; whnf
        simp [hia, hib, hic, hH, irow, hw, hb, gfr, apF_get, apF_ins, findEntry_ent, f1, f2, c1, c2, w64_0, w64_1, w64_2]
        apply WPL_step
        conv => arg 4; whnf
        simp [hia, hib, hic, hH, irow, hw, hb, gfr, apF_get, apF_ins, findEntry_ent, f1, f2, c1, c2, w64_0, w64_1, w64_2]
        simp [Span.row, gfr, c1, c2] at ih'
        exact ih'

include hk in
theorem gbegins_ok (h90 : keep 90 = true) (cs : List Coal) (ts : List Touch) (hf : FireOk cs ts) (hH : 0 < H.length) : gcall (KC keep) (geval (KC keep)) 68 [.pure (.agg [.slice (cs.map Coal.row), .slice (ts.map Touch.row)])] c H = some (.pure (.slice ((beginsL cs ts).map Span.row)), H) := by
  have hlt : H.length - 1 < H.length := by omega
  have hn : cs.length ≤ 1000 := by have := hf.n; omega
  have htl : ts.length ≤ 1000 := by have := hf.m; omega
  have hc1 : ∀ i, i < cs.length → 0 ≤ (soonC cs).getD i 0 ∧ (soonC cs).getD i 0 ≤ 300 := fun i hi => by
    have := hf.coal cs[i] (List.getElem_mem hi)
    rw [soonC, getD_map_of hi]; omega
  have hc2 : ∀ i, i < cs.length → 0 ≤ (lateC cs).getD i 0 ∧ (lateC cs).getD i 0 ≤ 300 := fun i hi => by
    have := hf.coal cs[i] (List.getElem_mem hi)
    rw [lateC, getD_map_of hi]; omega
  have hL1 := times_len (bu := soonB cs) hn hc1 hf.touch
  have hL2 := times_len (bu := lateB cs) hn hc2 hf.touch
  rw [beginsL_def]
  obtain ⟨m1, hm1, E1⟩ := lit_ok (c := 11) (H := [(1, .box [.pure (.slice (cs.map Coal.row)), .pure (.slice (ts.map Touch.row))])] :: H) hk h90 cs ts (e := 0) (by omega) hn (by simpa [caE] using hc1) hf.touch htl (by simp) (by simp [newKey])
  obtain ⟨m2, hm2, E2⟩ := lit_ok (c := 13) (H := [(1, .box [.pure (.slice (cs.map Coal.row)), .pure (.slice (ts.map Touch.row))]), (49166, .map (ent m1))] :: H) hk h90 cs ts (e := 1) (by omega) hn (by simpa [caE] using hc2) hf.touch htl (by simp) (by simp [newKey])
  have e0 : caE 0 cs = soonC cs := rfl
  have e1 : caE 1 cs = lateC cs := rfl
  have e2 : buE 0 cs = soonB cs := rfl
  have e3 : buE 1 cs = lateB cs := rfl
  rw [e0, e2] at hm1
  rw [e1, e3] at hm2
  simp [newKey] at E1 E2
  have h1' := fun (Q : GX → GSt → Prop) hq => gbegins_loop (keep := keep) cs ts _ _ m1 m2 hL1 hL2 hm1 hm2 hn Q hH cs.length 0 (by omega) hq
  simp [apS_nil, apF_nil, gfr] at h1'
  refine WPv_eq (call_enter (KC keep) needT Try.func68 rfl rfl good68 rfl (by simp) hH ?_)
  simp [E1, E2]
  refine h1' _ ?_
  simp [gleave_free, hk, kept, cc_apS, hlt]

include hk in
theorem gBegins_loop (l : List Span) (hn : l.length ≤ 1000) (F : Fr) (hF : F.get 24 = none) (Q : GX → GSt → Prop) (hH : 0 < H.length) : ∀ k i : Nat, i + k = l.length →
    Q (.exit 0) ⟨[(5, apS (H.length, 24) 2 (l.map Span.row))], apF 24 2 (l.map Span.row) F :: H, 27⟩ →
    WPL (KC keep) needT 23 (lp Try.f23 0) [5, 14, 15, 16] [5] Q [(5, apS (H.length, 24) 2 ((l.map Span.row).take i)), (14, .pure (.slice (l.map Span.row))), (15, .pure (.int .i64 l.length)), (16, .pure (.int .i64 i))]
      (apF 24 2 ((l.map Span.row).take i) F :: H) 27 := by
  intro k
  induction k with
  | zero =>
    intro i hi' h1
    have e : List.take i (l.map Span.row) = l.map Span.row := List.take_of_length_le (by simp; omega)
    rw [e]
    have hia : ¬ i < l.length := by omega
    generalize ha : l.map Span.row = rows at *
    apply WPL_step
    conv => arg 4; whnf
    simp [hia, hH]
    exact h1
  | succ k ih =>
    intro i hi' h1
    have hia : i < l.length := by omega
    have hw := w64 (x := (i : Int) + 1) (by omega) (by omega)
    have ih' := ih (i + 1) (by omega) h1
    have e1 := tk Span.row l i hia
    rw [← e1] at ih'
    have hrl : ((l.map Span.row).take i).length = i := by simp; omega
    have hb : (((l.map Span.row).take i).length + 1) * 16 ≤ 1099511627776 := by rw [hrl]; omega
    generalize ((l.map Span.row).take i) = rows at *
    apply WPL_step
    conv => arg 4; whnf
    simp [hia, hH, irow, hw, hF, hb, Span.row, spanE_ok hk]
    simp [Span.row] at ih'
    exact ih'

include hk in
theorem Begins_ok (h90 : keep 90 = true) (cs : List Coal) (ts : List Touch) (hH : 0 < H.length) : gcall (KC keep) (geval (KC keep)) 23 [.pure (.agg [.slice (cs.map Coal.row), .slice (ts.map Touch.row)])] c H =
    some (.pure (.tuple [.slice (if checkF cs ts = 0 then (beginsL cs ts).map Span.row else []), .int .i64 (checkF cs ts)]), H) := by
  refine WPv_eq (call_enter (KC keep) needT Try.func23 rfl rfl good23 rfl (by simp) hH ?_)
  by_cases h : checkF cs ts = 0
  · have hf := fireOk_of h
    have hn := hf.n
    have hl : (beginsL cs ts).length ≤ 1000 := by
      rw [beginsL_def]
      have hc1 : ∀ i, i < cs.length → 0 ≤ (soonC cs).getD i 0 ∧ (soonC cs).getD i 0 ≤ 300 := fun i hi => by
        have := hf.coal cs[i] (List.getElem_mem hi)
        rw [soonC, getD_map_of hi]; omega
      have hL1 := times_len (bu := soonB cs) (ts := ts) (by omega) hc1 hf.touch
      simp [hL1]; omega
    have h1' := fun (F : Fr) hF (Q : GX → GSt → Prop) hq => gBegins_loop (keep := keep) hk (beginsL cs ts) hl F hF Q hH (beginsL cs ts).length 0 (by omega) hq
    simp [apS_nil, apF_nil] at h1'
    simp [check_ok hk, h, gbegins_ok hk h90 cs ts hf]
    refine h1' _ (by simp) _ ?_
    have hlt : H.length - 1 < H.length := by omega
    by_cases hr : (beginsL cs ts).map Span.row = []
    · simp [gleave_free, hk, kept, clean2_apS, h, hlt, hr]
    · simp [gleave_free, hk, kept, clean2_apS, h, hlt, hr]
  · have h' : (checkF cs ts != 0) = true := by simpa using h
    simp [check_ok hk, h, h', gleave_free, hk, kept]
end Go.Gh


/- The heat of a fire. -/
namespace Go.Gh
open Go.Proofs
set_option linter.unusedSimpArgs false
set_option linter.unusedVariables false
set_option maxRecDepth 100000
set_option maxHeartbeats 4000000

variable {keep : Nat → Bool} (hk : ∀ f, kept f = false → keep f = false) {c : Nat} {H : Heap}

noncomputable def hlo : Int → Span → Coal → Int := hid fun m b x => if b.hi ≤ m ∧ m < b.lo + x.burn.lo then x.heat.lo else 0
theorem hlo_def (m : Int) (b : Span) (x : Coal) : hlo m b x = if b.hi ≤ m ∧ m < b.lo + x.burn.lo then x.heat.lo else 0 := by rw [hlo, hid_eq]
noncomputable def hhi : Int → Span → Coal → Int := hid fun m b x => if b.lo ≤ m ∧ (b.hi = 1000000 ∨ m < b.hi + x.burn.hi) then x.heat.hi else 0
theorem hhi_def (m : Int) (b : Span) (x : Coal) : hhi m b x = if b.lo ≤ m ∧ (b.hi = 1000000 ∨ m < b.hi + x.burn.hi) then x.heat.hi else 0 := by rw [hhi, hid_eq]
noncomputable def hp (m : Int) (b : Span) (x : Coal) : Span := ⟨hlo m b x, hhi m b x⟩
def sumsF : Span → List Span → Span
  | a, [] => a
  | a, x :: r => sumsF ⟨a.lo + x.lo, a.hi + x.hi⟩ r
/-- The heat at a minute. -/
noncomputable def heatL (cs : List Coal) (bs : List Span) (m : Int) : Span := sumsF ⟨0, 0⟩ (List.zipWith (hp m) bs cs)
structure BOk (cs : List Coal) (bs : List Span) : Prop where
  len : bs.length = cs.length
  val : ∀ x ∈ bs, 0 ≤ x.lo ∧ x.lo ≤ 1000000 ∧ 0 ≤ x.hi ∧ x.hi ≤ 1000000
theorem hp_bnd {cs : List Coal} {ts : List Touch} (hf : FireOk cs ts) (m : Int) (b : Span) {x : Coal} (hx : x ∈ cs) : 0 ≤ hlo m b x ∧ hlo m b x ≤ 1000 ∧ 0 ≤ hhi m b x ∧ hhi m b x ≤ 1000 := by
  have := hf.coal x hx
  rw [hlo_def, hhi_def]
  split <;> split <;> omega

theorem heatR_loop (cs : List Coal) (ts : List Touch) (bs : List Span) (m : Int) (hf : FireOk cs ts) (hb : BOk cs bs) (Q : GX → GSt → Prop) (hH : 0 < H.length) : ∀ (k i : Nat) (a : Span), i + k = cs.length → 0 ≤ a.lo ∧ a.lo ≤ 1000 * i ∧ 0 ≤ a.hi ∧ a.hi ≤ 1000 * i →
    (∀ r : Span, r = sumsF a ((List.zipWith (hp m) bs cs).drop i) → Q (.exit 0) ⟨[(6, .bptr (H.length, 6) 0), (7, .bptr (H.length, 7) 0)], [(3, .box [.pure (.slice (cs.map Coal.row)), .pure (.slice (ts.map Touch.row))]), (6, .box [.pure (.int .i64 0), .pure (.int .i64 0)]), (7, .box [.pure (.int .i64 r.lo), .pure (.int .i64 r.hi)])] :: H, 85⟩) →
    WPL (KC keep) needT 74 (lp Try.f74 0) [1, 2, 3, 6, 7, 8] [6, 7] Q [(1, .pure (.slice (bs.map Span.row))), (2, .pure (.int .i64 m)), (3, .bptr (H.length, 3) 0), (6, .bptr (H.length, 6) 0), (7, .bptr (H.length, 7) 0), (8, .pure (.int .i64 i))]
      ([(3, .box [.pure (.slice (cs.map Coal.row)), .pure (.slice (ts.map Touch.row))]), (6, .box [.pure (.int .i64 0), .pure (.int .i64 0)]), (7, .box [.pure (.int .i64 a.lo), .pure (.int .i64 a.hi)])] :: H) 85 := by
  intro k
  have hzl : (List.zipWith (hp m) bs cs).length = cs.length := by simp [hb.len]
  have hn := hf.n
  induction k with
  | zero =>
    intro i a hi' ha h1
    have e : (List.zipWith (hp m) bs cs).drop i = [] := List.drop_of_length_le (by omega)
    rw [e] at h1
    have h1' := h1 a rfl
    have : ¬ i < cs.length := by omega
    apply WPL_step
    conv => arg 4; whnf
    simp [this, hH]
    exact h1'
  | succ k ih =>
    intro i a hi' ha h1
    have hia : i < cs.length := by omega
    have hib : i < bs.length := by rw [hb.len]; exact hia
    have hw := w64 (x := (i : Int) + 1) (by omega) (by omega)
    have hbv := hb.val bs[i] (List.getElem_mem hib)
    have hcv := hf.coal cs[i] (List.getElem_mem hia)
    have hpb := hp_bnd hf m bs[i] (List.getElem_mem hia)
    have hw1 := w64 (x := bs[i].lo + cs[i].burn.lo) (by omega) (by omega)
    have hw2 := w64 (x := bs[i].hi + cs[i].burn.hi) (by omega) (by omega)
    have hw3 := w64 (x := a.lo + cs[i].heat.lo) (by omega) (by omega)
    have hw4 := w64 (x := a.hi + cs[i].heat.hi) (by omega) (by omega)
    have e2 : (List.zipWith (hp m) bs cs).drop i = ⟨hlo m bs[i] cs[i], hhi m bs[i] cs[i]⟩ :: (List.zipWith (hp m) bs cs).drop (i + 1) := by
      rw [List.drop_eq_getElem_cons (by omega)]; simp [hp]
    rw [e2] at h1
    have ih' := ih (i + 1) ⟨a.lo + hlo m bs[i] cs[i], a.hi + hhi m bs[i] cs[i]⟩ (by omega) (by simp only; omega) h1
    apply WPL_step
    conv => arg 4; whnf
    by_cases p1 : bs[i].hi ≤ m
    · by_cases p2 : m < bs[i].lo + cs[i].burn.lo
      · skip
        by_cases q1 : bs[i].lo ≤ m
        · by_cases q2 : bs[i].hi = 1000000
          · have q2' := eq_true q2
            have hl : hlo m bs[i] cs[i] = cs[i].heat.lo := by rw [hlo_def]; exact if_pos ⟨p1, p2⟩
            have hh : hhi m bs[i] cs[i] = cs[i].heat.hi := by rw [hhi_def]; exact if_pos ⟨q1, .inl q2⟩
            rw [hl, hh] at ih'
            clear h1 ih hl hh
            simp (maxSteps := 2000000) [hia, hib, hH, Coal.row, Span.row, hw, hw1, hw2, hw3, hw4, eq_true p1, eq_true p2, eq_true q1, q2']
            simp at ih'
            exact ih'
          · by_cases q3 : m < bs[i].hi + cs[i].burn.hi
            · skip
              have hl : hlo m bs[i] cs[i] = cs[i].heat.lo := by rw [hlo_def]; exact if_pos ⟨p1, p2⟩
              have hh : hhi m bs[i] cs[i] = cs[i].heat.hi := by rw [hhi_def]; exact if_pos ⟨q1, .inr q3⟩
              rw [hl, hh] at ih'
              clear h1 ih hl hh
              simp (maxSteps := 2000000) [hia, hib, hH, Coal.row, Span.row, hw, hw1, hw2, hw3, hw4, eq_true p1, eq_true p2, eq_true q1, eq_false q2, eq_true q3]
              simp at ih'
              exact ih'
            · skip
              have hl : hlo m bs[i] cs[i] = cs[i].heat.lo := by rw [hlo_def]; exact if_pos ⟨p1, p2⟩
              have hh : hhi m bs[i] cs[i] = 0 := by rw [hhi_def]; exact if_neg (fun h => h.2.elim q2 q3)
              rw [hl, hh] at ih'
              clear h1 ih hl hh
              simp (maxSteps := 2000000) [hia, hib, hH, Coal.row, Span.row, hw, hw1, hw2, hw3, hw4, eq_true p1, eq_true p2, eq_true q1, eq_false q2, eq_false q3]
              simp at ih'
              exact ih'
        · skip
          have hl : hlo m bs[i] cs[i] = cs[i].heat.lo := by rw [hlo_def]; exact if_pos ⟨p1, p2⟩
          have hh : hhi m bs[i] cs[i] = 0 := by rw [hhi_def]; exact if_neg (fun h => q1 h.1)
          rw [hl, hh] at ih'
          clear h1 ih hl hh
          simp (maxSteps := 2000000) [hia, hib, hH, Coal.row, Span.row, hw, hw1, hw2, hw3, hw4, eq_true p1, eq_true p2, eq_false q1]
          simp at ih'
          exact ih'
      · skip
        by_cases q1 : bs[i].lo ≤ m
        · by_cases q2 : bs[i].hi = 1000000
          · have q2' := eq_true q2
            have hl : hlo m bs[i] cs[i] = 0 := by rw [hlo_def]; exact if_neg (fun h => p2 h.2)
            have hh : hhi m bs[i] cs[i] = cs[i].heat.hi := by rw [hhi_def]; exact if_pos ⟨q1, .inl q2⟩
            rw [hl, hh] at ih'
            clear h1 ih hl hh
            simp (maxSteps := 2000000) [hia, hib, hH, Coal.row, Span.row, hw, hw1, hw2, hw3, hw4, eq_true p1, eq_false p2, eq_true q1, q2']
            simp at ih'
            exact ih'
          · by_cases q3 : m < bs[i].hi + cs[i].burn.hi
            · skip
              have hl : hlo m bs[i] cs[i] = 0 := by rw [hlo_def]; exact if_neg (fun h => p2 h.2)
              have hh : hhi m bs[i] cs[i] = cs[i].heat.hi := by rw [hhi_def]; exact if_pos ⟨q1, .inr q3⟩
              rw [hl, hh] at ih'
              clear h1 ih hl hh
              simp (maxSteps := 2000000) [hia, hib, hH, Coal.row, Span.row, hw, hw1, hw2, hw3, hw4, eq_true p1, eq_false p2, eq_true q1, eq_false q2, eq_true q3]
              simp at ih'
              exact ih'
            · skip
              have hl : hlo m bs[i] cs[i] = 0 := by rw [hlo_def]; exact if_neg (fun h => p2 h.2)
              have hh : hhi m bs[i] cs[i] = 0 := by rw [hhi_def]; exact if_neg (fun h => h.2.elim q2 q3)
              rw [hl, hh] at ih'
              clear h1 ih hl hh
              simp (maxSteps := 2000000) [hia, hib, hH, Coal.row, Span.row, hw, hw1, hw2, hw3, hw4, eq_true p1, eq_false p2, eq_true q1, eq_false q2, eq_false q3]
              simp at ih'
              exact ih'
        · skip
          have hl : hlo m bs[i] cs[i] = 0 := by rw [hlo_def]; exact if_neg (fun h => p2 h.2)
          have hh : hhi m bs[i] cs[i] = 0 := by rw [hhi_def]; exact if_neg (fun h => q1 h.1)
          rw [hl, hh] at ih'
          clear h1 ih hl hh
          simp (maxSteps := 2000000) [hia, hib, hH, Coal.row, Span.row, hw, hw1, hw2, hw3, hw4, eq_true p1, eq_false p2, eq_false q1]
          simp at ih'
          exact ih'
    · skip
      by_cases q1 : bs[i].lo ≤ m
      · by_cases q2 : bs[i].hi = 1000000
        · have q2' := eq_true q2
          have hl : hlo m bs[i] cs[i] = 0 := by rw [hlo_def]; exact if_neg (fun h => p1 h.1)
          have hh : hhi m bs[i] cs[i] = cs[i].heat.hi := by rw [hhi_def]; exact if_pos ⟨q1, .inl q2⟩
          rw [hl, hh] at ih'
          clear h1 ih hl hh
          simp (maxSteps := 2000000) [hia, hib, hH, Coal.row, Span.row, hw, hw1, hw2, hw3, hw4, eq_false p1, eq_true q1, q2']
          simp at ih'
          exact ih'
        · by_cases q3 : m < bs[i].hi + cs[i].burn.hi
          · skip
            have hl : hlo m bs[i] cs[i] = 0 := by rw [hlo_def]; exact if_neg (fun h => p1 h.1)
            have hh : hhi m bs[i] cs[i] = cs[i].heat.hi := by rw [hhi_def]; exact if_pos ⟨q1, .inr q3⟩
            rw [hl, hh] at ih'
            clear h1 ih hl hh
            simp (maxSteps := 2000000) [hia, hib, hH, Coal.row, Span.row, hw, hw1, hw2, hw3, hw4, eq_false p1, eq_true q1, eq_false q2, eq_true q3]
            simp at ih'
            exact ih'
          · skip
            have hl : hlo m bs[i] cs[i] = 0 := by rw [hlo_def]; exact if_neg (fun h => p1 h.1)
            have hh : hhi m bs[i] cs[i] = 0 := by rw [hhi_def]; exact if_neg (fun h => h.2.elim q2 q3)
            rw [hl, hh] at ih'
            clear h1 ih hl hh
            simp (maxSteps := 2000000) [hia, hib, hH, Coal.row, Span.row, hw, hw1, hw2, hw3, hw4, eq_false p1, eq_true q1, eq_false q2, eq_false q3]
            simp at ih'
            exact ih'
      · skip
        have hl : hlo m bs[i] cs[i] = 0 := by rw [hlo_def]; exact if_neg (fun h => p1 h.1)
        have hh : hhi m bs[i] cs[i] = 0 := by rw [hhi_def]; exact if_neg (fun h => q1 h.1)
        rw [hl, hh] at ih'
        clear h1 ih hl hh
        simp (maxSteps := 2000000) [hia, hib, hH, Coal.row, Span.row, hw, hw1, hw2, hw3, hw4, eq_false p1, eq_false q1]
        simp at ih'
        exact ih'

include hk in
theorem heatR_ok (cs : List Coal) (ts : List Touch) (bs : List Span) (m : Int) (hf : FireOk cs ts) (hb : BOk cs bs) (hH : 0 < H.length) :
    gcall (KC keep) (geval (KC keep)) 74 [.pure (.agg [.slice (cs.map Coal.row), .slice (ts.map Touch.row)]), .pure (.slice (bs.map Span.row)), .pure (.int .i64 m)] c H = some (.pure (.agg (heatL cs bs m).row), H) := by
  refine WPv_eq (call_enter (KC keep) needT Try.func74 rfl rfl good74 rfl (by simp) hH ?_)
  have h0 := fun Q hq => heatR_loop (keep := keep) cs ts bs m hf hb Q hH cs.length 0 ⟨0, 0⟩ (by omega) (by simp) hq
  simp at h0
  simp
  refine h0 _ ?_
  simp [heatL, Span.row, gleave_free, hk, kept]
end Go.Gh


/- The heat of a fire: the program. -/
namespace Go.Gh
open Go.Proofs
set_option linter.unusedSimpArgs false
set_option linter.unusedVariables false
set_option maxRecDepth 100000
set_option maxHeartbeats 4000000

variable {keep : Nat → Bool} (hk : ∀ f, kept f = false → keep f = false) {c : Nat} {H : Heap}

theorem total_loop (l : List Span) (hn : l.length ≤ 1000) (hv : ∀ x ∈ l, 0 ≤ x.lo ∧ x.lo ≤ 1000000 ∧ 0 ≤ x.hi ∧ x.hi ≤ 1000000) (Q : GX → GSt → Prop) (hH : 0 < H.length) : ∀ (k i : Nat) (a : Span), i + k = l.length → 0 ≤ a.lo ∧ a.lo ≤ 1000000 * i ∧ 0 ≤ a.hi ∧ a.hi ≤ 1000000 * i →
    (∀ r : Span, r = sumsF a (l.drop i) → Q (.exit 0) ⟨[(2, .bptr (H.length, 2) 0), (3, .bptr (H.length, 3) 0)], [(2, .box [.pure (.int .i64 0), .pure (.int .i64 0)]), (3, .box [.pure (.int .i64 r.lo), .pure (.int .i64 r.hi)])] :: H, 28⟩) →
    WPL (KC keep) needT 92 (lp Try.f92 0) [2, 3, 8, 9, 10] [2, 3] Q [(2, .bptr (H.length, 2) 0), (3, .bptr (H.length, 3) 0), (8, .pure (.slice (l.map Span.row))), (9, .pure (.int .i64 l.length)), (10, .pure (.int .i64 i))]
      ([(2, .box [.pure (.int .i64 0), .pure (.int .i64 0)]), (3, .box [.pure (.int .i64 a.lo), .pure (.int .i64 a.hi)])] :: H) 28 := by
  intro k
  induction k with
  | zero =>
    intro i a hi' ha h1
    have e : l.drop i = [] := List.drop_of_length_le (by omega)
    rw [e] at h1
    have h1' := h1 a rfl
    have : ¬ i < l.length := by omega
    apply WPL_step
    conv => arg 4; whnf
    simp [this, hH]
    exact h1'
  | succ k ih =>
    intro i a hi' ha h1
    have hia : i < l.length := by omega
    have hw := w64 (x := (i : Int) + 1) (by omega) (by omega)
    have hbv := hv l[i] (List.getElem_mem hia)
    have hw3 := w64 (x := a.lo + l[i].lo) (by omega) (by omega)
    have hw4 := w64 (x := a.hi + l[i].hi) (by omega) (by omega)
    have e2 : l.drop i = l[i] :: l.drop (i + 1) := by rw [List.drop_eq_getElem_cons (by omega)]
    rw [e2] at h1
    have ih' := ih (i + 1) ⟨a.lo + l[i].lo, a.hi + l[i].hi⟩ (by omega) (by simp only; omega) h1
    simp at ih'
    clear h1 ih
    apply WPL_step
    conv => arg 4; whnf
    simp [hia, hH, Span.row, hw, hw3, hw4, w64_0, w64_1, w64_2]
    apply WPL_step
    conv => arg 4; whnf
    simp [hia, hH, Span.row, hw, hw3, hw4, w64_0, w64_1, w64_2]
    apply WPL_step
    conv => arg 4; whnf
    simp [hia, hH, Span.row, hw, hw3, hw4, w64_0, w64_1, w64_2]
    apply WPL_step
    conv => arg 4; whnf
    simp [hia, hH, Span.row, hw, hw3, hw4, w64_0, w64_1, w64_2]
    exact ih'
include hk in
theorem total_ok (l : List Span) (hn : l.length ≤ 1000) (hv : ∀ x ∈ l, 0 ≤ x.lo ∧ x.lo ≤ 1000000 ∧ 0 ≤ x.hi ∧ x.hi ≤ 1000000) (hH : 0 < H.length) :
    gcall (KC keep) (geval (KC keep)) 92 [.pure (.slice (l.map Span.row))] c H = some (.pure (.agg (sumsF ⟨0, 0⟩ l).row), H) := by
  refine WPv_eq (call_enter (KC keep) needT Try.func92 rfl rfl good92 rfl (by simp) hH ?_)
  have h0 := fun Q hq => total_loop (keep := keep) l hn hv Q hH l.length 0 ⟨0, 0⟩ (by omega) (by simp) hq
  simp at h0
  simp
  refine h0 _ ?_
  simp [Span.row, gleave_free, hk, kept]

theorem heat_loop (cs : List Coal) (ts : List Touch) (bs : List Span) (m : Int) (hf : FireOk cs ts) (hb : BOk cs bs) (Q : GX → GSt → Prop) (hH : 0 < H.length) : ∀ (k i : Nat), i + k = cs.length →
    Q (.exit 0) ⟨[(6, .bptr (H.length, 6) 0), (7, apS (H.length, 78) 2 ((List.zipWith (hp m) bs cs).map Span.row))], apF 78 2 ((List.zipWith (hp m) bs cs).map Span.row) [(3, .box [.pure (.slice (cs.map Coal.row)), .pure (.slice (ts.map Touch.row))]), (6, .box [.pure (.int .i64 0), .pure (.int .i64 0)])] :: H, 82⟩ →
    WPL (KC keep) needT 72 (lp Try.f72 0) [1, 2, 6, 7, 12, 13, 14] [6, 7] Q [(1, .pure (.slice (bs.map Span.row))), (2, .pure (.int .i64 m)), (6, .bptr (H.length, 6) 0), (7, apS (H.length, 78) 2 (((List.zipWith (hp m) bs cs).map Span.row).take i)), (12, .pure (.slice (cs.map Coal.row))), (13, .pure (.int .i64 cs.length)), (14, .pure (.int .i64 i))]
      (apF 78 2 (((List.zipWith (hp m) bs cs).map Span.row).take i) [(3, .box [.pure (.slice (cs.map Coal.row)), .pure (.slice (ts.map Touch.row))]), (6, .box [.pure (.int .i64 0), .pure (.int .i64 0)])] :: H) 82 := by
  intro k
  have hzl : (List.zipWith (hp m) bs cs).length = cs.length := by simp [hb.len]
  have hn := hf.n
  induction k with
  | zero =>
    intro i hi' h1
    have e : List.take i ((List.zipWith (hp m) bs cs).map Span.row) = (List.zipWith (hp m) bs cs).map Span.row := List.take_of_length_le (by rw [List.length_map, hzl]; omega)
    rw [e]
    have hia : ¬ i < cs.length := by omega
    generalize (List.zipWith (hp m) bs cs).map Span.row = rows at *
    apply WPL_step
    conv => arg 4; whnf
    simp [hia, hH]
    exact h1
  | succ k ih =>
    intro i hi' h1
    have hia : i < cs.length := by omega
    have hib : i < bs.length := by rw [hb.len]; exact hia
    have hw := w64 (x := (i : Int) + 1) (by omega) (by omega)
    have hbv := hb.val bs[i] (List.getElem_mem hib)
    have hcv := hf.coal cs[i] (List.getElem_mem hia)
    have hw1 := w64 (x := bs[i].lo + cs[i].burn.lo) (by omega) (by omega)
    have hw2 := w64 (x := bs[i].hi + cs[i].burn.hi) (by omega) (by omega)
    have ih' := ih (i + 1) (by omega) h1
    have e1 := tk Span.row (List.zipWith (hp m) bs cs) i (by omega)
    have e2 : (List.zipWith (hp m) bs cs)[i]'(by omega) = ⟨hlo m bs[i] cs[i], hhi m bs[i] cs[i]⟩ := by simp [hp]
    rw [e2] at e1
    rw [← e1] at ih'
    have hrl : (((List.zipWith (hp m) bs cs).map Span.row).take i).length = i := by rw [List.length_take, List.length_map, hzl]; omega
    have hbb : ((((List.zipWith (hp m) bs cs).map Span.row).take i).length + 1) * 16 ≤ 1099511627776 := by rw [hrl]; omega
    generalize ((List.zipWith (hp m) bs cs).map Span.row).take i = rows at *
    apply WPL_step
    conv => arg 4; whnf
    by_cases p1 : bs[i].hi ≤ m
    · by_cases p2 : m < bs[i].lo + cs[i].burn.lo
      · skip
        by_cases q1 : bs[i].lo ≤ m
        · by_cases q2 : bs[i].hi = 1000000
          · have q2' := eq_true q2
            have hl : hlo m bs[i] cs[i] = cs[i].heat.lo := by rw [hlo_def]; exact if_pos ⟨p1, p2⟩
            have hh : hhi m bs[i] cs[i] = cs[i].heat.hi := by rw [hhi_def]; exact if_pos ⟨q1, .inl q2⟩
            rw [hl, hh] at ih'
            clear h1 ih hl hh e1 e2
            simp (maxSteps := 2000000) [hia, hib, hH, Coal.row, Span.row, hw, hw1, hw2, hbb, w64_0, w64_1, eq_true p1, eq_true p2, eq_true q1, q2']
            simp [Span.row] at ih'
            exact ih'
          · by_cases q3 : m < bs[i].hi + cs[i].burn.hi
            · skip
              have hl : hlo m bs[i] cs[i] = cs[i].heat.lo := by rw [hlo_def]; exact if_pos ⟨p1, p2⟩
              have hh : hhi m bs[i] cs[i] = cs[i].heat.hi := by rw [hhi_def]; exact if_pos ⟨q1, .inr q3⟩
              rw [hl, hh] at ih'
              clear h1 ih hl hh e1 e2
              simp (maxSteps := 2000000) [hia, hib, hH, Coal.row, Span.row, hw, hw1, hw2, hbb, w64_0, w64_1, eq_true p1, eq_true p2, eq_true q1, eq_false q2, eq_true q3]
              simp [Span.row] at ih'
              exact ih'
            · skip
              have hl : hlo m bs[i] cs[i] = cs[i].heat.lo := by rw [hlo_def]; exact if_pos ⟨p1, p2⟩
              have hh : hhi m bs[i] cs[i] = 0 := by rw [hhi_def]; exact if_neg (fun h => h.2.elim q2 q3)
              rw [hl, hh] at ih'
              clear h1 ih hl hh e1 e2
              simp (maxSteps := 2000000) [hia, hib, hH, Coal.row, Span.row, hw, hw1, hw2, hbb, w64_0, w64_1, eq_true p1, eq_true p2, eq_true q1, eq_false q2, eq_false q3]
              simp [Span.row] at ih'
              exact ih'
        · skip
          have hl : hlo m bs[i] cs[i] = cs[i].heat.lo := by rw [hlo_def]; exact if_pos ⟨p1, p2⟩
          have hh : hhi m bs[i] cs[i] = 0 := by rw [hhi_def]; exact if_neg (fun h => q1 h.1)
          rw [hl, hh] at ih'
          clear h1 ih hl hh e1 e2
          simp (maxSteps := 2000000) [hia, hib, hH, Coal.row, Span.row, hw, hw1, hw2, hbb, w64_0, w64_1, eq_true p1, eq_true p2, eq_false q1]
          simp [Span.row] at ih'
          exact ih'
      · skip
        by_cases q1 : bs[i].lo ≤ m
        · by_cases q2 : bs[i].hi = 1000000
          · have q2' := eq_true q2
            have hl : hlo m bs[i] cs[i] = 0 := by rw [hlo_def]; exact if_neg (fun h => p2 h.2)
            have hh : hhi m bs[i] cs[i] = cs[i].heat.hi := by rw [hhi_def]; exact if_pos ⟨q1, .inl q2⟩
            rw [hl, hh] at ih'
            clear h1 ih hl hh e1 e2
            simp (maxSteps := 2000000) [hia, hib, hH, Coal.row, Span.row, hw, hw1, hw2, hbb, w64_0, w64_1, eq_true p1, eq_false p2, eq_true q1, q2']
            simp [Span.row] at ih'
            exact ih'
          · by_cases q3 : m < bs[i].hi + cs[i].burn.hi
            · skip
              have hl : hlo m bs[i] cs[i] = 0 := by rw [hlo_def]; exact if_neg (fun h => p2 h.2)
              have hh : hhi m bs[i] cs[i] = cs[i].heat.hi := by rw [hhi_def]; exact if_pos ⟨q1, .inr q3⟩
              rw [hl, hh] at ih'
              clear h1 ih hl hh e1 e2
              simp (maxSteps := 2000000) [hia, hib, hH, Coal.row, Span.row, hw, hw1, hw2, hbb, w64_0, w64_1, eq_true p1, eq_false p2, eq_true q1, eq_false q2, eq_true q3]
              simp [Span.row] at ih'
              exact ih'
            · skip
              have hl : hlo m bs[i] cs[i] = 0 := by rw [hlo_def]; exact if_neg (fun h => p2 h.2)
              have hh : hhi m bs[i] cs[i] = 0 := by rw [hhi_def]; exact if_neg (fun h => h.2.elim q2 q3)
              rw [hl, hh] at ih'
              clear h1 ih hl hh e1 e2
              simp (maxSteps := 2000000) [hia, hib, hH, Coal.row, Span.row, hw, hw1, hw2, hbb, w64_0, w64_1, eq_true p1, eq_false p2, eq_true q1, eq_false q2, eq_false q3]
              simp [Span.row] at ih'
              exact ih'
        · skip
          have hl : hlo m bs[i] cs[i] = 0 := by rw [hlo_def]; exact if_neg (fun h => p2 h.2)
          have hh : hhi m bs[i] cs[i] = 0 := by rw [hhi_def]; exact if_neg (fun h => q1 h.1)
          rw [hl, hh] at ih'
          clear h1 ih hl hh e1 e2
          simp (maxSteps := 2000000) [hia, hib, hH, Coal.row, Span.row, hw, hw1, hw2, hbb, w64_0, w64_1, eq_true p1, eq_false p2, eq_false q1]
          simp [Span.row] at ih'
          exact ih'
    · skip
      by_cases q1 : bs[i].lo ≤ m
      · by_cases q2 : bs[i].hi = 1000000
        · have q2' := eq_true q2
          have hl : hlo m bs[i] cs[i] = 0 := by rw [hlo_def]; exact if_neg (fun h => p1 h.1)
          have hh : hhi m bs[i] cs[i] = cs[i].heat.hi := by rw [hhi_def]; exact if_pos ⟨q1, .inl q2⟩
          rw [hl, hh] at ih'
          clear h1 ih hl hh e1 e2
          simp (maxSteps := 2000000) [hia, hib, hH, Coal.row, Span.row, hw, hw1, hw2, hbb, w64_0, w64_1, eq_false p1, eq_true q1, q2']
          simp [Span.row] at ih'
          exact ih'
        · by_cases q3 : m < bs[i].hi + cs[i].burn.hi
          · skip
            have hl : hlo m bs[i] cs[i] = 0 := by rw [hlo_def]; exact if_neg (fun h => p1 h.1)
            have hh : hhi m bs[i] cs[i] = cs[i].heat.hi := by rw [hhi_def]; exact if_pos ⟨q1, .inr q3⟩
            rw [hl, hh] at ih'
            clear h1 ih hl hh e1 e2
            simp (maxSteps := 2000000) [hia, hib, hH, Coal.row, Span.row, hw, hw1, hw2, hbb, w64_0, w64_1, eq_false p1, eq_true q1, eq_false q2, eq_true q3]
            simp [Span.row] at ih'
            exact ih'
          · skip
            have hl : hlo m bs[i] cs[i] = 0 := by rw [hlo_def]; exact if_neg (fun h => p1 h.1)
            have hh : hhi m bs[i] cs[i] = 0 := by rw [hhi_def]; exact if_neg (fun h => h.2.elim q2 q3)
            rw [hl, hh] at ih'
            clear h1 ih hl hh e1 e2
            simp (maxSteps := 2000000) [hia, hib, hH, Coal.row, Span.row, hw, hw1, hw2, hbb, w64_0, w64_1, eq_false p1, eq_true q1, eq_false q2, eq_false q3]
            simp [Span.row] at ih'
            exact ih'
      · skip
        have hl : hlo m bs[i] cs[i] = 0 := by rw [hlo_def]; exact if_neg (fun h => p1 h.1)
        have hh : hhi m bs[i] cs[i] = 0 := by rw [hhi_def]; exact if_neg (fun h => q1 h.1)
        rw [hl, hh] at ih'
        clear h1 ih hl hh e1 e2
        simp (maxSteps := 2000000) [hia, hib, hH, Coal.row, Span.row, hw, hw1, hw2, hbb, w64_0, w64_1, eq_false p1, eq_false q1]
        simp [Span.row] at ih'
        exact ih'
end Go.Gh


/- The heat of a fire: heat, Heat. -/
namespace Go.Gh
open Go.Proofs
set_option linter.unusedSimpArgs false
set_option linter.unusedVariables false
set_option maxRecDepth 100000
set_option maxHeartbeats 4000000

variable {keep : Nat → Bool} (hk : ∀ f, kept f = false → keep f = false) {c : Nat} {H : Heap}

include hk in
theorem total_hdr (l : List Span) (hn : l.length ≤ 1000) (hv : ∀ x ∈ l, 0 ≤ x.lo ∧ x.lo ≤ 1000000 ∧ 0 ≤ x.hi ∧ x.hi ≤ 1000000) {nm : Nm} {n : Nat} {r : Bool} (hnl : n = l.length) (h : H.get nm = some (.arr 2 (l.map Span.row) 0 r)) :
    gcall (KC keep) (geval (KC keep)) 92 [.hdr nm 2 n 0 n] c H = some (.pure (.agg (sumsF ⟨0, 0⟩ l).row), H.set nm (.arr 2 (l.map Span.row) 0 true)) := by
  have hl := Heap.get_lt h
  subst hnl
  have t1 : List.take l.length (l.map Span.row) = l.map Span.row := List.take_of_length_le (by simp)
  rw [gcall_frz (f := 92) (args' := [.pure (.slice (l.map Span.row))]) (H' := H.set nm (.arr 2 (l.map Span.row) 0 true)) rfl ?_ rfl]
  · exact total_ok hk l hn hv (by simp; omega)
  · simp [frzVals, frzVal, frzCells, frzCell, h, t1]
include hk in
theorem total_nils (hH : 0 < H.length) : gcall (KC keep) (geval (KC keep)) 92 [.nils] c H = some (.pure (.agg [.int .i64 0, .int .i64 0]), H) := by
  have T := total_ok (c := c) (H := H) hk [] (by simp) (by simp) hH
  simp only [List.map_nil] at T
  have e : (sumsF ⟨0, 0⟩ []).row = [.int .i64 0, .int .i64 0] := rfl
  rw [e] at T
  rw [← T]
  unfold gcall
  have hz : (KC keep).frz 92 = true := rfl
  rw [if_pos hz, if_pos hz]
  unfold gcall0
  rfl
include hk in
theorem heat_ok (cs : List Coal) (ts : List Touch) (bs : List Span) (m : Int) (hf : FireOk cs ts) (hb : BOk cs bs) (hH : 0 < H.length) :
    gcall (KC keep) (geval (KC keep)) 72 [.pure (.agg [.slice (cs.map Coal.row), .slice (ts.map Touch.row)]), .pure (.slice (bs.map Span.row)), .pure (.int .i64 m)] c H = some (.pure (.agg (heatL cs bs m).row), H) := by
  have hn := hf.n
  have hzl : (List.zipWith (hp m) bs cs).length = cs.length := by simp [hb.len]
  have hv : ∀ x ∈ List.zipWith (hp m) bs cs, 0 ≤ x.lo ∧ x.lo ≤ 1000000 ∧ 0 ≤ x.hi ∧ x.hi ≤ 1000000 := by
    intro x hx
    obtain ⟨i, hi, e⟩ := List.getElem_of_mem hx
    rw [hzl] at hi
    have hib : i < bs.length := by rw [hb.len]; exact hi
    have e2 : x = ⟨hlo m bs[i] cs[i], hhi m bs[i] cs[i]⟩ := by rw [← e]; simp [hp]
    have := hp_bnd hf m bs[i] (List.getElem_mem hi)
    subst e2
    simp only; omega
  refine WPv_eq (call_enter (KC keep) needT Try.func72 rfl rfl good72 rfl (by simp) hH ?_)
  have h0 := fun Q hq => heat_loop (keep := keep) cs ts bs m hf hb Q hH cs.length 0 (by omega) hq
  have hln : (List.zipWith (hp m) bs cs).length ≤ 1000 := by omega
  unfold heatL
  generalize List.zipWith (hp m) bs cs = l at *
  simp [apS_nil, apF_nil] at h0
  simp
  refine h0 _ ?_
  clear h0
  by_cases hl : l = []
  · subst hl
    simp [apS_nil, apF_nil, total_nils hk, gleave_free, hk, kept, sumsF, Span.row]
  · have T := fun (H : Heap) (nm : Nm) (n : Nat) (c : Nat) h1 h2 => total_hdr (H := H) (nm := nm) (n := n) (c := c) (r := false) hk l hln hv h1 h2
    simp [apS, apF, hl, T, gleave_free, hk, kept]
    simp [Span.row, gleave_free, hk, kept]

/-! ### Heat -/
theorem iter_good {n : Nat} {ca bu : List Int} {ts : List Touch} (hn : n ≤ 1000) (hca : ∀ i, i < n → 0 ≤ ca.getD i 0 ∧ ca.getD i 0 ≤ 300) (hts : ∀ x ∈ ts, 0 ≤ x.a ∧ x.a < n ∧ 0 ≤ x.b ∧ x.b < n) : ∀ (k : Nat) (t : List Int), Good n t → Good n (iter ca bu ts k t)
  | 0, t, hg => hg
  | k + 1, t, hg => by
    have q1 := (rnd_ok (bu := bu) hn hca ts t false hts hg).1
    simp only [iter]
    split
    · exact iter_good hn hca hts k _ q1
    · exact q1
theorem good_bnd {n : Nat} {t : List Int} (hn : n ≤ 1000) (h : Good n t) {i : Nat} (hi : i < t.length) : 0 ≤ t[i] ∧ t[i] ≤ 1000000 := by
  have hv := h.val i (by rw [← h.len]; exact hi)
  have hkn := known_le t
  rw [h.len] at hkn
  rw [getD_eq hi] at hv
  omega
theorem beginsL_bok {cs : List Coal} {ts : List Touch} (hf : FireOk cs ts) : BOk cs (beginsL cs ts) := by
  have hn : cs.length ≤ 1000 := by have := hf.n; omega
  have hc1 : ∀ i, i < cs.length → 0 ≤ (soonC cs).getD i 0 ∧ (soonC cs).getD i 0 ≤ 300 := fun i hi => by
    have := hf.coal cs[i] (List.getElem_mem hi)
    rw [soonC, getD_map_of hi]; omega
  have hc2 : ∀ i, i < cs.length → 0 ≤ (lateC cs).getD i 0 ∧ (lateC cs).getD i 0 ≤ 300 := fun i hi => by
    have := hf.coal cs[i] (List.getElem_mem hi)
    rw [lateC, getD_map_of hi]; omega
  have g1 := iter_good (bu := soonB cs) hn hc1 hf.touch (1000000 * cs.length + 1) _ (lits_good cs)
  have g2 := iter_good (bu := lateB cs) hn hc2 hf.touch (1000000 * cs.length + 1) _ (lits_good cs)
  rw [beginsL_def]
  unfold times
  generalize iter (soonC cs) (soonB cs) ts (1000000 * cs.length + 1) (lits cs) = a at *
  generalize iter (lateC cs) (lateB cs) ts (1000000 * cs.length + 1) (lits cs) = b at *
  refine ⟨by simp [g1.len, g2.len], fun x hx => ?_⟩
  obtain ⟨i, hi, e⟩ := List.getElem_of_mem hx
  have hl := hi
  simp [g1.len, g2.len] at hl
  have e1 : x = ⟨a[i]'(by rw [g1.len]; exact hl), b[i]'(by rw [g2.len]; exact hl)⟩ := by rw [← e]; simp [mkSpan]
  have b1 := good_bnd hn g1 (i := i) (by rw [g1.len]; exact hl)
  have b2 := good_bnd hn g2 (i := i) (by rw [g2.len]; exact hl)
  subst e1
  simp only; omega
/-- What Heat answers: its span and its fault. -/
noncomputable def heatA : List Coal → List Touch → Int → Span × Int := hid fun cs ts m => if checkF cs ts = 0 then (if 0 ≤ m ∧ m ≤ 300 then (heatL cs (beginsL cs ts) m, 0) else (⟨0, 0⟩, 2)) else (⟨0, 0⟩, checkF cs ts)
theorem heatA_def (cs : List Coal) (ts : List Touch) (m : Int) : heatA cs ts m = if checkF cs ts = 0 then (if 0 ≤ m ∧ m ≤ 300 then (heatL cs (beginsL cs ts) m, 0) else (⟨0, 0⟩, 2)) else (⟨0, 0⟩, checkF cs ts) := by rw [heatA, hid_eq]
include hk in
theorem Heat_ok (h90 : keep 90 = true) (cs : List Coal) (ts : List Touch) (m : Int) (hH : 0 < H.length) : gcall (KC keep) (geval (KC keep)) 25 [.pure (.agg [.slice (cs.map Coal.row), .slice (ts.map Touch.row)]), .pure (.int .i64 m)] c H =
    some (.pure (.tuple [.agg (heatA cs ts m).1.row, .int .i64 (heatA cs ts m).2]), H) := by
  refine WPv_eq (call_enter (KC keep) needT Try.func25 rfl rfl good25 rfl (by simp) hH ?_)
  rw [heatA_def]
  by_cases h : checkF cs ts = 0
  · have hf := fireOk_of h
    have hb := beginsL_bok hf
    by_cases h2 : 0 ≤ m ∧ m ≤ 300
    · have h3 : inB m 0 300 = true := by simp [inB, h2]
      simp [check_ok hk, within_ok hk, h, h2, h3, gbegins_ok hk h90 cs ts hf, heat_ok hk cs ts _ m hf hb, Span.row, spanE_ok hk, gleave_free, hk, kept]
    · have h3 : inB m 0 300 = false := by
        simp [inB]; intro h4; exact Classical.byContradiction fun h5 => h2 ⟨h4, by omega⟩
      simp [check_ok hk, within_ok hk, h, h2, h3, Span.row, gleave_free, hk, kept]
  · have h' : (checkF cs ts != 0) = true := by simpa using h
    simp [check_ok hk, h, h', Span.row, gleave_free, hk, kept]
include hk in
theorem HeatR_ok (cs : List Coal) (ts : List Touch) (m : Int) (hH : 0 < H.length) : gcall (KC keep) (geval (KC keep)) 26 [.pure (.agg [.slice (cs.map Coal.row), .slice (ts.map Touch.row)]), .pure (.int .i64 m)] c H =
    some (.pure (.tuple [.agg (heatA cs ts m).1.row, .int .i64 (heatA cs ts m).2]), H) := by
  refine WPv_eq (call_enter (KC keep) needT Try.func26 rfl rfl good26 rfl (by simp) hH ?_)
  rw [heatA_def]
  by_cases h : checkF cs ts = 0
  · have hf := fireOk_of h
    have hb := beginsL_bok hf
    by_cases h2 : 0 ≤ m ∧ m ≤ 300
    · have h3 : inB m 0 300 = true := by simp [inB, h2]
      simp [checkR_ok hk, withinR_ok hk, h, h2, h3, beginsR_ok hk cs ts hf, heatR_ok hk cs ts _ m hf hb, Span.row, gleave_free, hk, kept]
    · have h3 : inB m 0 300 = false := by
        simp [inB]; intro h4; exact Classical.byContradiction fun h5 => h2 ⟨h4, by omega⟩
      simp [checkR_ok hk, withinR_ok hk, h, h2, h3, Span.row, gleave_free, hk, kept]
  · have h' : (checkF cs ts != 0) = true := by simpa using h
    simp [checkR_ok hk, h, h', Span.row, gleave_free, hk, kept]
end Go.Gh


/- The sample pot and fire. -/
namespace Go.Gh
open Go.Proofs
set_option linter.unusedSimpArgs false
set_option linter.unusedVariables false
set_option maxRecDepth 100000
set_option maxHeartbeats 4000000

variable {keep : Nat → Bool} (hk : ∀ f, kept f = false → keep f = false) {c : Nat} {H : Heap}
include hk in
theorem pot_ok (hH : 0 < H.length) : gcall (KC keep) (geval (KC keep)) 64 [] c H = some (.pure (.agg [.int .i64 10, .int .i64 200, .int .i64 200, .int .i64 200, .int .i64 100, .int .i64 100000, .int .i64 400, .int .i64 900]), H) := by
  refine WPv_eq (call_enter (KC keep) needT Try.func64 rfl rfl good64 rfl (by simp) hH ?_)
  simp [onec_ok hk, spanc_ok hk, gleave_free, hk, kept]

/-! ### closed calls: the kernel runs them -/
theorem gcall0_geval {K : Ctx} {n : Nat} {f : FuncId} {args : List GV} {c : Nat} {H : Heap} {r : GV × Heap} (h : gcall0 K (gexec K n) f args c H = some r) : gcall0 K (geval K) f args c H = some r := by
  unfold gcall0 at h
  split at h
  · cases h
  · rename_i fn hfn
    split at h
    · cases h
    · rename_i code hcode
      split at h
      · cases h
      · rename_i hc
        cases hr : gexec K n f code ⟨slotsOf 0 (args.map canon), [] :: H, fn.ntmps⟩ with
        | none => rw [hr] at h; cases h
        | some x =>
          rw [hr] at h
          have hN := (geval_iff K).2 (gexec_stable K n _ _ _ _ hr)
          simp only [gcall0, hfn, hcode, hc, if_false, hN]
          exact h
theorem gcall_geval {K : Ctx} {n : Nat} {f : FuncId} {args : List GV} {c : Nat} {H : Heap} {r : GV × Heap} (h : gcall K (gexec K n) f args c H = some r) : gcall K (geval K) f args c H = some r := by
  unfold gcall at h ⊢
  split at h
  · rename_i hf
    simp only [hf, if_true]
    exact gcall0_geval h
  · rename_i hf
    simp only [hf, if_false]
    exact gcall0_geval h
noncomputable def kp0 : Nat → Bool := fun f => ([15, 79, 90] : List Nat).contains f
theorem awake_run (fr : Fr) (c : Nat) : gcall (KC kp0) (gexec (KC kp0) 3000) 14 [] c [fr, []] = some (.pure (.bool true), [fr, []]) := by
  kernel_rfl
theorem awake_ok (fr : Fr) (c : Nat) : gcall (KC kp0) (geval (KC kp0)) 14 [] c [fr, []] = some (.pure (.bool true), [fr, []]) := gcall_geval (awake_run fr c)
end Go.Gh


/- A box of draws. -/
namespace Go.Gh
open Go.Proofs
set_option linter.unusedSimpArgs false
set_option linter.unusedVariables false
set_option maxRecDepth 100000
set_option maxHeartbeats 4000000

variable {keep : Nat → Bool} (hk : ∀ f, kept f = false → keep f = false) {c : Nat} {H : Heap}

include hk in
theorem box_loop (l : List Int) (hn : l.length ≤ 9223372036854775807) (Q : GX → GSt → Prop) (hH : 0 < H.length) : ∀ (k i : Nat) (w : Int), i + k = l.length →
    (∀ w', Q (.exit 0) ⟨[(3, .bptr (H.length, 6) 0)], [(6, wbox w')] :: H, 30⟩) →
    WPL (KC keep) needT 15 (lp Try.f15 0) [0, 3, 4] [3] Q [(0, .pure (.slice (l.map irow))), (3, .bptr (H.length, 6) 0), (4, .pure (.int .i64 i))] ([(6, wbox w)] :: H) 30 := by
  intro k
  induction k with
  | zero =>
    intro i w hi h1
    have hia : ¬ i < l.length := by omega
    apply WPL_step
    conv => arg 4; whnf
    simp [hia, hH]
    exact h1 w
  | succ k ih =>
    intro i w hi h1
    have hia : i < l.length := by omega
    have hw := w64 (x := (i : Int) + 1) (by omega) (by omega)
    have ih' := fun w => ih (i + 1) w (by omega) h1
    apply WPL_step
    conv => arg 4; whnf
    have T := fun (v : Int) (c : Nat) => turn_ok (c := c) (H := [] :: [(6, wbox v)] :: H) (nm := (H.length, 6)) hk ⟨v, by simp, by simp⟩
    simp [wordAt, wbox] at T
    simp [hia, hH, irow, hw, wbox, T]
    simpa [wbox] using ih' _
include hk in
theorem BoxOf_ok (h15 : keep 15 = true) (l : List Int) (hn : l.length ≤ 9223372036854775807) (hH : 0 < H.length) (hfree : H.get (H.length - 1, newKey c 6) = none) :
    ∃ w, gcall (KC keep) (geval (KC keep)) 15 [.pure (.slice (l.map irow))] c H = some (.bptr (H.length - 1, newKey c 6) 0, H.set (H.length - 1, newKey c 6) (wbox w)) := by
  have key : WPv (gcall (KC keep) (geval (KC keep)) 15 [.pure (.slice (l.map irow))] c H) (fun x => ∃ w, x = (.bptr (H.length - 1, newKey c 6) 0, H.set (H.length - 1, newKey c 6) (wbox w))) := by
    refine call_enter (KC keep) needT Try.func15 rfl rfl good15 rfl (by simp) hH ?_
    have h0 := fun Q hq => box_loop (keep := keep) hk l hn Q hH l.length 0 2685821657736338717 (by omega) hq
    simp [wbox] at h0
    simp
    refine h0 _ (fun w => ?_)
    simp [gleave_keep, h15, refs, refs2, refs1, dedup, moveOut, cleanBlk, hfree, ren, ren2, ren1]
    exact ⟨w, rfl⟩
  obtain ⟨r, e1, w, e2⟩ := key
  exact ⟨w, by rw [e1, e2]⟩
end Go.Gh
