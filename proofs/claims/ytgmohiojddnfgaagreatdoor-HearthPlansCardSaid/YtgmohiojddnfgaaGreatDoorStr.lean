/- Strings in plain Lean: numerals, parts between separators. -/
import Derived.Lib.ItoaNum
import Derived.Lib.AtoiAll
import Derived.Lib.SplitLaws
namespace Go.Gh

/-- The digits of a number, 'f' at most. -/
def digs : Nat → Nat → List UInt8
  | 0, _ => []
  | f + 1, u => if u < 10 then [UInt8.ofNat (48 + u)] else digs f (u / 10) ++ [UInt8.ofNat (48 + u % 10)]

theorem digs_eq : ∀ (f u : Nat), u < 10 ^ f → 0 < f → digs f u = Lib.decDigits u
  | 0, u, _, h => absurd h (Nat.lt_irrefl _)
  | f + 1, u, hu, _ => by
    rw [digs, Lib.decDigits]
    split
    · rfl
    · rename_i h
      have hf : 0 < f := by
        rcases Nat.eq_zero_or_pos f with e | e
        · subst e; simp at hu; omega
        · exact e
      rw [digs_eq f (u / 10) (by rw [Nat.pow_succ] at hu; omega) hf]

/-- A number's numeral. -/
def itoaL (n : Int) : List UInt8 := if n < 0 then 45 :: digs 20 n.natAbs else digs 20 n.toNat

theorem itoaL_eq (n : Int) (h0 : -9223372036854775808 ≤ n) (h1 : n ≤ 9223372036854775807) : itoaL n = Lib.itoa n := by
  unfold itoaL Lib.itoa
  split
  · rw [digs_eq 20 _ (by omega) (by omega)]
  · rw [digs_eq 20 _ (by omega) (by omega)]

/-- The parts between separators of one byte. -/
def splitL (c : UInt8) : List UInt8 → List (List UInt8)
  | [] => [[]]
  | b :: r => if b = c then [] :: splitL c r else match splitL c r with | x :: l => (b :: x) :: l | [] => [[b]]

theorem index_eq (c : UInt8) (l : List UInt8) : Lib.index (c :: l) [c] = 0 := by simp [Lib.index]
theorem index_ne {b c : UInt8} (h : b ≠ c) (l : List UInt8) : Lib.index (b :: l) [c] = if Lib.index l [c] == -1 then -1 else Lib.index l [c] + 1 := by
  have hp : ([c] : List UInt8).isPrefixOf (b :: l) = false := by simp [List.isPrefixOf, Ne.symm h]
  rw [Lib.index, hp]; simp

theorem splitL_ne (c : UInt8) : ∀ l, splitL c l ≠ []
  | [] => by simp [splitL]
  | b :: r => by
    unfold splitL
    split
    · simp
    · split <;> simp

theorem splitK_eq (c : UInt8) : ∀ l : List UInt8, Lib.splitK [c] 0 (Lib.count l [c]) l = splitL c l
  | [] => by rw [Lib.count_one]; rfl
  | b :: l => by
    have ih := splitK_eq c l
    by_cases h : b = c
    · subst h
      have e : Lib.count (b :: l) [b] = Lib.count l [b] + 1 := by simp [Lib.count_one]
      rw [e, Lib.splitK, index_eq, splitL, if_pos rfl, ← ih]
      simp
    · have e : Lib.count (b :: l) [c] = Lib.count l [c] := by simp [Lib.count_one, h]
      rw [e, splitL, if_neg h, ← ih]
      cases hk : Lib.count l [c] with
      | zero => rfl
      | succ k =>
        have hm : Lib.index l [c] ≠ -1 := fun e => by rw [Lib.count_miss e] at hk; omega
        have hge := Lib.index_ge l [c]
        obtain ⟨j, hj⟩ : ∃ j : Nat, Lib.index l [c] = j := ⟨(Lib.index l [c]).toNat, by omega⟩
        have h1 : (Lib.index l [c] == -1) = false := by simpa using hm
        have h2 : ¬ (((j : Int) + 1) == -1) = true := by simp; omega
        rw [Lib.splitK, Lib.splitK, index_ne h, h1]
        simp only [Bool.false_eq_true, if_false, hj]
        rw [if_neg h2]
        have h3 : ((j : Int) + 1).toNat = j + 1 := by omega
        simp [h3]

theorem splitB_eq {s sep : ByteArray} {c : UInt8} (h : sep.data.toList = [c]) : (Lib.splitB sep 0 (Lib.countB s sep) s).map (·.data.toList) = splitL c s.data.toList := by
  rw [Lib.splitB_data, h]
  have : Lib.countB s sep = Lib.count s.data.toList [c] := by unfold Lib.countB; rw [h]
  rw [this, splitK_eq]

end Go.Gh
