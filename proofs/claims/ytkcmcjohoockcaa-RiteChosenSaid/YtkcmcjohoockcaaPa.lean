/- Scenes, plainly: what an act keeps. -/
import Derived.Test.YtkcmcjohoockcaaRc
namespace Go.Gh
open Go.Proofs
set_option linter.unusedSimpArgs false
set_option linter.unusedVariables false
def handAt (hs : List Hands) (w : Nat) (hand : Int) : Int := if hand = 0 then (hs.getD w hands0).l else (hs.getD w hands0).r
theorem heldV_eq (s : Scene) (w : Nat) (hand : Int) : heldV s w hand = handAt s.hands w hand := rfl
def oneH (h : Hands) (t : Int) : Nat := (if h.l = t then 1 else 0) + (if h.r = t then 1 else 0)
def cntH : List Hands → Int → Nat
  | [], _ => 0
  | h :: l, t => oneH h t + cntH l t
theorem cntH_set : ∀ (l : List Hands) (w : Nat) (h : Hands) (t : Int), w < l.length → cntH (l.set w h) t + oneH (l.getD w hands0) t = cntH l t + oneH h t
  | [], w, h, t, hw => by simp at hw
  | x :: l, 0, h, t, hw => by simp [cntH]; omega
  | x :: l, w + 1, h, t, hw => by
    have := cntH_set l w h t (by simpa using hw)
    simp only [List.set_cons_succ, cntH, List.getD_cons_succ] at this ⊢
    omega
theorem cntH_put (l : List Hands) (w : Nat) (hand v t : Int) (hw : w < l.length) : cntH (putHand l w hand v) t + (if handAt l w hand = t then 1 else 0) = cntH l t + (if v = t then 1 else 0) := by
  unfold putHand
  have := cntH_set l w (if hand = 0 then ⟨v, (l.getD w hands0).r⟩ else ⟨(l.getD w hands0).l, v⟩) t hw
  unfold handAt
  by_cases h : hand = 0
  · simp only [h, if_true, oneH] at this ⊢
    omega
  · simp only [h, if_false, oneH] at this ⊢
    omega
theorem cntH_get : ∀ (l : List Hands) (w : Nat) (t : Int), w < l.length → oneH (l.getD w hands0) t ≤ cntH l t
  | [], w, t, hw => by simp at hw
  | x :: l, 0, t, hw => by simp [cntH]
  | x :: l, w + 1, t, hw => by
    have := cntH_get l w t (by simpa using hw)
    simp only [cntH, List.getD_cons_succ] at this ⊢
    omega
theorem cntH_at (l : List Hands) (w : Nat) (hand t : Int) (hw : w < l.length) (h : handAt l w hand = t) : 1 ≤ cntH l t := by
  have := cntH_get l w t hw
  unfold handAt at h
  unfold oneH at this
  split at h
  · rw [if_pos h] at this; omega
  · rw [if_pos h] at this; omega
theorem put_len (l : List Hands) (w : Nat) (hand v : Int) : (putHand l w hand v).length = l.length := by simp [putHand]
theorem put_get {l : List Hands} {w : Nat} {hand v : Int} (p : Nat) (hw : w < l.length) : (putHand l w hand v).getD p hands0 = if p = w then (if hand = 0 then ⟨v, (l.getD w hands0).r⟩ else ⟨(l.getD w hands0).l, v⟩) else l.getD p hands0 := by
  unfold putHand
  by_cases h : p = w
  · subst h
    simp [List.getD_eq_getElem?_getD, hw]
  · have h' : ¬ w = p := fun e => h e.symm
    simp [List.getD_eq_getElem?_getD, List.getElem?_set, h, h']
theorem put_at {l : List Hands} {w : Nat} {hand v : Int} (p : Nat) (hd : Int) (hw : w < l.length) (h0 : hand = 0 ∨ hand = 1) (h1 : hd = 0 ∨ hd = 1) : handAt (putHand l w hand v) p hd = if p = w ∧ hd = hand then v else handAt l p hd := by
  unfold handAt
  rw [put_get p hw]
  by_cases h : p = w
  · subst h
    rcases h0 with rfl | rfl <;> rcases h1 with rfl | rfl <;> simp
  · simp [h]
theorem getD_lt {α : Type} {l : List α} {i : Nat} {d : α} (h : i < l.length) : l.getD i d = l[i] := by simp [List.getD_eq_getElem?_getD, h]
theorem set_self {α : Type} (l : List α) (i : Nat) (d : α) : l.set i (l.getD i d) = l := by
  by_cases h : i < l.length
  · rw [getD_lt h]; simp
  · exact List.set_eq_of_length_le (by omega)
theorem bits16 : ∀ q : Fin 16, ∀ b ∈ [(1 : Int), 2, 4], (if ((IntKind.i64.wrap (((q.1 : Nat) : Int).tdiv b)).tmod 2 == 1) then 0 ≤ IntKind.i64.wrap (((q.1 : Nat) : Int) - b) ∧ IntKind.i64.wrap (((q.1 : Nat) : Int) - b) < 16 else 0 ≤ IntKind.i64.wrap (((q.1 : Nat) : Int) + b) ∧ IntKind.i64.wrap (((q.1 : Nat) : Int) + b) < 16) := by decide
theorem setV_get {ts : List Spot} {t : Nat} {bit : Int} {on : Bool} (ht : t < ts.length) (hs : 0 ≤ (ts.getD t spot0).state ∧ (ts.getD t spot0).state < 16) (hb : bit = 1 ∨ bit = 2 ∨ bit = 4) :
    ∃ st, 0 ≤ st ∧ st < 16 ∧ setV ts t bit on = ts.set t ⟨(ts.getD t spot0).cell, st⟩ := by
  rw [setV_def]
  by_cases h : hasV ts t bit = on
  · rw [if_pos h]
    refine ⟨_, hs.1, hs.2, ?_⟩
    exact (set_self ts t spot0).symm
  · rw [if_neg h]
    have hm : bit ∈ [(1 : Int), 2, 4] := by simp; exact hb
    have h0 : decide ((0 : Int) ≤ t) = true := by simp
    rw [hasV_def, h0, Bool.true_and] at h
    simp only [Int.toNat_natCast] at h
    obtain ⟨q, hq⟩ := Int.eq_ofNat_of_zero_le hs.1
    have hq16 : q < 16 := by omega
    have B := bits16 ⟨q, hq16⟩ bit hm
    simp only [← hq] at B
    cases on
    · have h' : ((IntKind.i64.wrap ((ts.getD t spot0).state.tdiv bit)).tmod 2 == 1) = true := by simpa using h
      rw [if_pos h'] at B
      exact ⟨_, B.1, B.2, by simp⟩
    · have h' : ¬ ((IntKind.i64.wrap ((ts.getD t spot0).state.tdiv bit)).tmod 2 == 1) = true := by simpa using h
      rw [if_neg h'] at B
      exact ⟨_, B.1, B.2, by simp⟩
structure Snd (r : Rite) (s : Scene) : Prop extends ScB r s where
  pr : ∀ x ∈ s.people, 0 ≤ x ∧ x < r.wide * r.deep
  pn : s.people.Nodup
  th : ∀ t : Nat, t < s.things.length → (cntH s.hands t = 1 ∧ (s.things.getD t spot0).cell = -1) ∨ (cntH s.hands t = 0 ∧ 0 ≤ (s.things.getD t spot0).cell ∧ (s.things.getD t spot0).cell < r.wide * r.deep)
  st : ∀ t : Nat, t < s.things.length → 0 ≤ (s.things.getD t spot0).state ∧ (s.things.getD t spot0).state < 16
/-- An act that is formed well. -/
structure AB (r : Rite) (w : Nat) (a : RAct) : Prop where
  who : a.who = w
  wl : w < r.people.length
  hand : a.hand = 0 ∨ a.hand = 1
  kind : 1 ≤ a.kind ∧ a.kind ≤ 8
  take : a.kind = 2 → ∃ t : Nat, a.thing = t ∧ t < r.things.length
  give : a.kind = 4 → ∃ o : Nat, a.other = o ∧ o < r.people.length ∧ o ≠ w
  step : a.kind = 1 → 0 ≤ a.cell ∧ a.cell < r.wide * r.deep
  form : formB a = true
theorem handAt_rng {r : Rite} {s : Scene} (h : ScB r s) {w : Nat} {hand : Int} (hw : w < r.people.length) : handAt s.hands w hand < s.things.length ∧ -1 ≤ handAt s.hands w hand := by
  have hl : w < s.hands.length := by rw [h.hl]; exact hw
  have := h.hr w hl
  unfold handAt
  rw [getD_lt hl]
  split
  · exact ⟨this.1, this.2.2.1⟩
  · exact ⟨this.2.1, this.2.2.2⟩
theorem people_set {l : List Int} (hn : l.Nodup) {w : Nat} {c : Int} (hc : c ∉ l) : (l.set w c).Nodup := by
  induction l generalizing w with
  | nil => simp
  | cons x l ih =>
    simp only [List.mem_cons, not_or] at hc
    rw [List.nodup_cons] at hn
    cases w with
    | zero => simp [hc.2, hn.2]
    | succ w =>
      rw [List.set_cons_succ, List.nodup_cons]
      refine ⟨fun h => ?_, ih hn.2 hc.2⟩
      rcases List.mem_or_eq_of_mem_set h with h | h
      · exact hn.1 h
      · exact hc.1 h.symm
section
variable {r : Rite} {s : Scene} {w : Nat} {a : RAct}
theorem doV_1 (h : a.kind = 1) : doV s w a = { s with people := s.people.set w a.cell } := by rw [doV_def, if_pos h]
theorem doV_2 (h : a.kind = 2) : doV s w a = { s with hands := putHand s.hands w a.hand a.thing, things := s.things.set a.thing.toNat ⟨-1, (s.things.getD a.thing.toNat spot0).state⟩ } := by rw [doV_def, if_neg (by omega), if_pos h]
theorem doV_3 (h : a.kind = 3) : doV s w a = { s with hands := putHand s.hands w a.hand (-1), things := s.things.set (handAt s.hands w a.hand).toNat ⟨s.people.getD w 0, (s.things.getD (handAt s.hands w a.hand).toNat spot0).state⟩ } := by rw [doV_def, if_neg (by omega), if_neg (by omega), if_pos h]; rfl
theorem doV_4 (h : a.kind = 4) : doV s w a = { s with hands := putHand (putHand s.hands a.other.toNat (takerV s.hands a.other.toNat) (handAt s.hands w a.hand)) w a.hand (-1) } := by rw [doV_def, if_neg (by omega), if_neg (by omega), if_neg (by omega), if_pos h]; rfl
theorem doV_5 (h : a.kind = 5) : doV s w a = { s with things := setV s.things (handAt s.hands w (1 - a.hand)).toNat 1 true } := by rw [doV_def, if_neg (by omega), if_neg (by omega), if_neg (by omega), if_neg (by omega), if_pos h]; rfl
theorem doV_6 (h : a.kind = 6) : doV s w a = { s with things := setV (setV (setV s.things (handAt s.hands w a.hand).toNat 2 false) (handAt s.hands w a.hand).toNat 1 false) (handAt s.hands w (1 - a.hand)).toNat 2 true } := by rw [doV_def, if_neg (by omega), if_neg (by omega), if_neg (by omega), if_neg (by omega), if_neg (by omega), if_pos h]; rfl
theorem doV_7 (h : a.kind = 7) : doV s w a = { s with things := setV s.things (handAt s.hands w a.hand).toNat 4 true } := by rw [doV_def, if_neg (by omega), if_neg (by omega), if_neg (by omega), if_neg (by omega), if_neg (by omega), if_neg (by omega), if_pos h]; rfl
theorem doV_8 (h : a.kind = 8) : doV s w a = { s with things := setV s.things (handAt s.hands w a.hand).toNat 4 false } := by rw [doV_def, if_neg (by omega), if_neg (by omega), if_neg (by omega), if_neg (by omega), if_neg (by omega), if_neg (by omega), if_neg (by omega)]; rfl
theorem posV_1 (h : a.kind = 1) : posV r s w a = (!(s.people.contains a.cell) && nearV r.wide (s.people.getD w 0) a.cell) := by rw [posV_def, if_pos h]
theorem posV_2 (h : a.kind = 2) : posV r s w a = (handAt s.hands w a.hand == -1 && (s.things.getD a.thing.toNat spot0).cell == s.people.getD w 0) := by rw [posV_def, if_neg (by omega), if_pos h]; rfl
theorem posV_3 (h : a.kind = 3) : posV r s w a = decide (0 ≤ handAt s.hands w a.hand) := by rw [posV_def, if_neg (by omega), if_neg (by omega), if_pos h]; rfl
theorem posV_4 (h : a.kind = 4) : posV r s w a = (decide (0 ≤ handAt s.hands w a.hand) && nearV r.wide (s.people.getD w 0) (s.people.getD a.other.toNat 0) && decide (0 ≤ takerV s.hands a.other.toNat)) := by rw [posV_def, if_neg (by omega), if_neg (by omega), if_neg (by omega), if_pos h]; rfl
theorem posV_5 (h : a.kind = 5) : posV r s w a = (decide (0 ≤ handAt s.hands w a.hand) && (r.things.getD (handAt s.hands w a.hand).toNat thing0).cloth && decide (0 ≤ handAt s.hands w (1 - a.hand))) := by rw [posV_def, if_neg (by omega), if_neg (by omega), if_neg (by omega), if_neg (by omega), if_pos h]; rfl
theorem posV_6 (h : a.kind = 6) : posV r s w a = (hasV s.things (handAt s.hands w a.hand) 2 && !hasV s.things (handAt s.hands w a.hand) 4 && decide (0 ≤ handAt s.hands w (1 - a.hand)) && !hasV s.things (handAt s.hands w (1 - a.hand)) 2 && !hasV s.things (handAt s.hands w (1 - a.hand)) 4) := by rw [posV_def, if_neg (by omega), if_neg (by omega), if_neg (by omega), if_neg (by omega), if_neg (by omega), if_pos h]; rfl
theorem posV_7 (h : a.kind = 7) : posV r s w a = (decide (0 ≤ handAt s.hands w a.hand) && !hasV s.things (handAt s.hands w a.hand) 4) := by rw [posV_def, if_neg (by omega), if_neg (by omega), if_neg (by omega), if_neg (by omega), if_neg (by omega), if_neg (by omega), if_pos h]; rfl
theorem posV_8 (h : a.kind = 8) : posV r s w a = hasV s.things (handAt s.hands w a.hand) 4 := by rw [posV_def, if_neg (by omega), if_neg (by omega), if_neg (by omega), if_neg (by omega), if_neg (by omega), if_neg (by omega), if_neg (by omega)]; rfl
theorem kinds8 (h : 1 ≤ a.kind ∧ a.kind ≤ 8) : a.kind = 1 ∨ a.kind = 2 ∨ a.kind = 3 ∨ a.kind = 4 ∨ a.kind = 5 ∨ a.kind = 6 ∨ a.kind = 7 ∨ a.kind = 8 := by omega
theorem hasV_pos {ts : List Spot} {x b : Int} (h : hasV ts x b = true) : 0 ≤ x := by
  rw [hasV_def] at h; simp at h; exact h.1
end
/-- What an act needs, and 'Do' of it. -/
theorem DoB_of {r : Rite} {s : Scene} {w : Nat} {a : RAct} (hS : Snd r s) (hA : AB r w a) (hp : posV r s w a = true) : DoB s w a := by
  have e1 := hS.pl
  have e2 := hS.hl
  have e3 := hS.tl
  have wl := hA.wl
  have R0 := fun (hd : Int) => handAt_rng hS.toScB (w := w) (hand := hd) wl
  have nat : ∀ x : Int, 0 ≤ x → x < s.things.length → ∃ t : Nat, x = t ∧ t < s.things.length := fun x h1 h2 => ⟨x.toNat, by omega, by omega⟩
  have held : 3 ≤ a.kind → 0 ≤ handAt s.hands w a.hand := fun h3 => by
    rcases kinds8 hA.kind with k | k | k | k | k | k | k | k
    · omega
    · omega
    · rw [posV_3 k] at hp; simpa using hp
    · rw [posV_4 k] at hp; simp at hp; exact hp.1.1
    · rw [posV_5 k] at hp; simp at hp; exact hp.1.1
    · rw [posV_6 k] at hp; simp at hp; exact hasV_pos hp.1.1.1.1
    · rw [posV_7 k] at hp; simp at hp; exact hp.1
    · rw [posV_8 k] at hp; exact hasV_pos hp
  refine ⟨by omega, by omega, hA.who, hA.hand, hA.kind, fun h => ?_, fun h => nat _ (held h) (R0 _).1, fun h => ?_, fun h => nat _ ?_ (R0 _).1⟩
  · obtain ⟨t, h1, h2⟩ := hA.take h
    exact ⟨t, h1, by omega⟩
  · obtain ⟨o, h1, h2, h3⟩ := hA.give h
    rw [posV_4 h, h1] at hp
    simp at hp
    refine ⟨o, h1, by omega, h3, ?_⟩
    have := hp.2
    unfold takerV at this ⊢
    split
    · exact .inl rfl
    · rename_i hh
      rw [if_neg hh] at this
      split
      · exact .inr rfl
      · rename_i hh2
        rw [if_neg hh2] at this
        omega
  · show 0 ≤ handAt s.hands w (1 - a.hand)
    rcases h with h | h
    · rw [posV_5 h] at hp; simp at hp; exact hp.2
    · rw [posV_6 h] at hp; simp at hp; exact hp.1.1.2
theorem cell_of {r : Rite} {s : Scene} (hS : Snd r s) {w : Nat} (hw : w < r.people.length) : 0 ≤ s.people.getD w 0 ∧ s.people.getD w 0 < r.wide * r.deep := by
  have hl : w < s.people.length := by rw [hS.pl]; exact hw
  rw [getD_lt hl]
  exact hS.pr _ (List.getElem_mem hl)
/-- Things whose states alone change. -/
theorem Snd.states {r : Rite} {s : Scene} (hS : Snd r s) (ts : List Spot) (hl : ts.length = s.things.length) (hc : ∀ t : Nat, t < s.things.length → (ts.getD t spot0).cell = (s.things.getD t spot0).cell ∧ 0 ≤ (ts.getD t spot0).state ∧ (ts.getD t spot0).state < 16) : Snd r { s with things := ts } where
  pl := hS.pl
  hl := hS.hl
  tl := hl.trans hS.tl
  hr := fun i h => by have := hS.hr i h; rw [← hl] at this; exact this
  pr := hS.pr
  pn := hS.pn
  th := fun t h => by
    have h' : t < s.things.length := by rw [← hl]; exact h
    rw [(hc t h').1]
    exact hS.th t h'
  st := fun t h => (hc t (by rw [← hl]; exact h)).2
theorem getDs {α : Type} {l : List α} {i j : Nat} {x d : α} (hj : j < l.length) : (l.set i x).getD j d = if i = j then x else l.getD j d := by
  simp only [List.getD_eq_getElem?_getD, List.getElem?_set]
  split
  · rename_i h; subst h; simp [hj]
  · rfl
theorem states_set {ts : List Spot} {t : Nat} {bit : Int} {on : Bool} (hst : ∀ t : Nat, t < ts.length → 0 ≤ (ts.getD t spot0).state ∧ (ts.getD t spot0).state < 16) (ht : t < ts.length) (hb : bit = 1 ∨ bit = 2 ∨ bit = 4) :
    (setV ts t bit on).length = ts.length ∧ ∀ u : Nat, u < ts.length → ((setV ts t bit on).getD u spot0).cell = (ts.getD u spot0).cell ∧ 0 ≤ ((setV ts t bit on).getD u spot0).state ∧ ((setV ts t bit on).getD u spot0).state < 16 := by
  obtain ⟨st, h1, h2, h3⟩ := setV_get (on := on) ht (hst t ht) hb
  rw [h3]
  refine ⟨by simp, fun u hu => ?_⟩
  rw [getDs hu]
  split
  · rename_i e; subst e; exact ⟨rfl, h1, h2⟩
  · exact ⟨rfl, hst u hu⟩
theorem Snd.set {r : Rite} {s : Scene} (hS : Snd r s) {t : Nat} {bit : Int} {on : Bool} (ht : t < s.things.length) (hb : bit = 1 ∨ bit = 2 ∨ bit = 4) : Snd r { s with things := setV s.things t bit on } := by
  obtain ⟨a, b⟩ := states_set (on := on) hS.st ht hb
  exact hS.states _ a b
theorem Snd.doA {r : Rite} {s : Scene} {w : Nat} {a : RAct} (hS : Snd r s) (hA : AB r w a) (hp : posV r s w a = true) : Snd r (doV s w a) := by
  have D := DoB_of hS hA hp
  have e1 := hS.pl
  have e2 := hS.hl
  have e3 := hS.tl
  have wl := hA.wl
  have hh := hA.hand
  have hk := hA.kind
  have hwh : w < s.hands.length := by omega
  have hrp : ∀ v : Int, -1 ≤ v → v < s.things.length → ∀ i (h : i < (putHand s.hands w a.hand v).length), (putHand s.hands w a.hand v)[i].l < s.things.length ∧ (putHand s.hands w a.hand v)[i].r < s.things.length ∧ -1 ≤ (putHand s.hands w a.hand v)[i].l ∧ -1 ≤ (putHand s.hands w a.hand v)[i].r := fun v h1 h2 i hi => by
    rw [← getD_lt (d := hands0) hi, put_get i hwh]
    have hi' : i < s.hands.length := by simpa [putHand] using hi
    have q := hS.hr i hi'
    split
    · rename_i e; subst e
      rw [getD_lt hi']
      split
      · exact ⟨h2, q.2.1, h1, q.2.2.2⟩
      · exact ⟨q.1, h2, q.2.2.1, h1⟩
    · rw [getD_lt hi']; exact q
  rcases kinds8 hA.kind with k1 | k2 | k3 | k4 | k5 | k6 | k7 | k8
  · rw [doV_1 k1]
    rw [posV_1 k1] at hp
    obtain ⟨c1, c2⟩ := hA.step k1
    simp only [Bool.and_eq_true, Bool.not_eq_true', List.contains_eq_mem] at hp
    have hnc : a.cell ∉ s.people := by simpa using hp.1
    exact { pl := by simpa using hS.pl, hl := hS.hl, tl := hS.tl, hr := hS.hr, pr := fun x hx => by
              rcases List.mem_or_eq_of_mem_set hx with h | h
              · exact hS.pr x h
              · subst h; exact ⟨c1, c2⟩
            pn := people_set hS.pn hnc, th := hS.th, st := hS.st }
  · obtain ⟨t, ht1, ht2⟩ := D.take k2
    have C := cell_of hS wl
    rw [posV_2 k2] at hp
    rw [doV_2 k2]
    simp only [ht1, Int.toNat_natCast, Bool.and_eq_true, beq_iff_eq] at hp ⊢
    obtain ⟨p1, p2⟩ := hp
    have cnt := fun u => cntH_put s.hands w a.hand t u hwh
    have tt := hS.th t ht2
    have hrt := hrp t (by omega) (by omega)
    refine { pl := hS.pl, hl := by simpa [put_len] using hS.hl, tl := by simpa using hS.tl, hr := fun i h => by rw [List.length_set]; exact hrt i h, pr := hS.pr, pn := hS.pn, th := fun u hu => ?_, st := fun u hu => ?_ }
    · have hu' : u < s.things.length := by simpa using hu
      have q := hS.th u hu'
      have := cnt u
      rw [p1] at this
      rw [getDs hu']
      by_cases e : t = u
      · subst e
        have e1 : ¬ ((-1 : Int) = (t : Int)) := by omega
        simp only [e1, if_true, if_false, eq_self] at this ⊢
        exact .inl ⟨by omega, trivial⟩
      · have e1 : ¬ ((-1 : Int) = (u : Int)) := by omega
        have e2 : ¬ ((t : Int) = (u : Int)) := by omega
        simp only [e, e1, e2, if_false] at this ⊢
        rw [show cntH (putHand s.hands w a.hand t) u = cntH s.hands u by omega]
        exact q
    · have hu' : u < s.things.length := by simpa using hu
      rw [getDs hu']
      split
      · exact hS.st t ht2
      · exact hS.st u hu'
  · obtain ⟨t, ht1', ht2⟩ := D.held (by omega)
    rw [heldV_eq] at ht1'
    have C := cell_of hS wl
    rw [doV_3 k3]
    simp only [ht1', Int.toNat_natCast]
    have cnt := fun u => cntH_put s.hands w a.hand (-1) u hwh
    have tt := hS.th t ht2
    have hrt := hrp (-1) (by omega) (by omega)
    have ca := cntH_at s.hands w a.hand t hwh ht1'
    refine { pl := hS.pl, hl := by simpa [put_len] using hS.hl, tl := by simpa using hS.tl, hr := fun i h => by rw [List.length_set]; exact hrt i h, pr := hS.pr, pn := hS.pn, th := fun u hu => ?_, st := fun u hu => ?_ }
    · have hu' : u < s.things.length := by simpa using hu
      have q := hS.th u hu'
      have := cnt u
      rw [ht1'] at this
      have e1 : ¬ ((-1 : Int) = (u : Int)) := by omega
      rw [getDs hu']
      by_cases e : t = u
      · subst e
        simp only [e1, if_true, if_false] at this ⊢
        omega
      · have e2 : ¬ ((t : Int) = (u : Int)) := by omega
        simp only [e, e1, e2, if_false] at this ⊢
        rw [show cntH (putHand s.hands w a.hand (-1)) u = cntH s.hands u by omega]
        exact q
    · have hu' : u < s.things.length := by simpa using hu
      rw [getDs hu']
      split
      · exact hS.st t ht2
      · exact hS.st u hu'
  · obtain ⟨t, ht1', ht2⟩ := D.held (by omega)
    rw [heldV_eq] at ht1'
    obtain ⟨o, o1, o2, o3, o4⟩ := D.give k4
    rw [doV_4 k4]
    simp only [ht1', o1, Int.toNat_natCast]
    obtain ⟨tk, etk⟩ : ∃ tk, takerV s.hands o = tk := ⟨_, rfl⟩
    rw [etk] at o4 ⊢
    have tkf : handAt s.hands o tk = -1 := by
      unfold takerV at etk
      unfold handAt
      split at etk
      · subst etk; simpa using ‹_›
      · split at etk
        · subst etk; simpa using ‹_›
        · omega
    have hl1 : w < (putHand s.hands o tk t).length := by rw [put_len]; exact hwh
    have c1 := fun u => cntH_put s.hands o tk t u o2
    have c2 := fun u => cntH_put (putHand s.hands o tk t) w a.hand (-1) u hl1
    have hw2 : handAt (putHand s.hands o tk t) w a.hand = t := by
      rw [put_at w a.hand o2 o4 hh, if_neg (fun e => o3 e.1.symm)]; exact ht1'
    refine { pl := hS.pl, hl := by simpa [put_len] using hS.hl, tl := hS.tl, hr := fun i h => ?_, pr := hS.pr, pn := hS.pn, th := fun u hu => ?_, st := hS.st }
    · rw [← getD_lt (d := hands0) h, put_get i hl1]
      have hi' : i < s.hands.length := by simpa [putHand] using h
      have q := hS.hr i hi'
      have qw := hS.hr w hwh
      have ne : ¬ w = o := fun e => o3 e.symm
      have two : ((putHand s.hands o tk t).getD i hands0).l < s.things.length ∧ ((putHand s.hands o tk t).getD i hands0).r < s.things.length ∧ -1 ≤ ((putHand s.hands o tk t).getD i hands0).l ∧ -1 ≤ ((putHand s.hands o tk t).getD i hands0).r := by
        rw [put_get i o2]
        split
        · rename_i e; subst e
          rw [getD_lt hi']
          split
          · exact ⟨by show (t : Int) < _; omega, q.2.1, by show (-1 : Int) ≤ t; omega, q.2.2.2⟩
          · exact ⟨q.1, by show (t : Int) < _; omega, q.2.2.1, by show (-1 : Int) ≤ t; omega⟩
        · rw [getD_lt hi']; exact q
      split
      · rename_i e; subst e
        split
        · exact ⟨by show (-1 : Int) < _; omega, two.2.1, by show (-1 : Int) ≤ -1; omega, two.2.2.2⟩
        · exact ⟨two.1, by show (-1 : Int) < _; omega, two.2.2.1, by show (-1 : Int) ≤ -1; omega⟩
      · exact two
    · have q := hS.th u hu
      have d1 := c1 u
      have d2 := c2 u
      rw [hw2] at d2
      rw [tkf] at d1
      have e1 : ¬ ((-1 : Int) = (u : Int)) := by omega
      simp only [e1, if_false] at d1 d2
      show (cntH (putHand (putHand s.hands o tk t) w a.hand (-1)) u = 1 ∧ _) ∨ (cntH (putHand (putHand s.hands o tk t) w a.hand (-1)) u = 0 ∧ _)
      rw [show cntH (putHand (putHand s.hands o tk t) w a.hand (-1)) u = cntH s.hands u by omega]
      exact q
  · obtain ⟨q, q1, q2⟩ := D.oth (.inl k5)
    rw [heldV_eq] at q1
    rw [doV_5 k5]
    simp only [q1, Int.toNat_natCast]
    exact hS.set q2 (.inl rfl)
  · obtain ⟨t, ht1', ht2⟩ := D.held (by omega)
    rw [heldV_eq] at ht1'
    obtain ⟨q, q1, q2⟩ := D.oth (.inr k6)
    rw [heldV_eq] at q1
    rw [doV_6 k6]
    simp only [q1, ht1', Int.toNat_natCast]
    have S1 := hS.set (on := false) ht2 (.inr (.inl rfl) : (2 : Int) = 1 ∨ (2 : Int) = 2 ∨ (2 : Int) = 4)
    have S2 := S1.set (t := t) (on := false) (by simpa [setV_len] using ht2) (.inl rfl : (1 : Int) = 1 ∨ (1 : Int) = 2 ∨ (1 : Int) = 4)
    exact S2.set (t := q) (on := true) (by simpa [setV_len] using q2) (.inr (.inl rfl))
  · obtain ⟨t, ht1', ht2⟩ := D.held (by omega)
    rw [heldV_eq] at ht1'
    rw [doV_7 k7]
    simp only [ht1', Int.toNat_natCast]
    exact hS.set ht2 (.inr (.inr rfl))
  · obtain ⟨t, ht1', ht2⟩ := D.held (by omega)
    rw [heldV_eq] at ht1'
    rw [doV_8 k8]
    simp only [ht1', Int.toNat_natCast]
    exact hS.set ht2 (.inr (.inr rfl))
end Go.Gh


/- Acts of one minute, plainly. -/
namespace Go.Gh
open Go.Proofs
set_option linter.unusedSimpArgs false
set_option linter.unusedVariables false
theorem commonV_iff {l m : List Int} : commonV l m = true ↔ ∃ x, x ∈ l ∧ x ∈ m := by
  rw [commonV_def]
  simp
theorem commonV_false {l m : List Int} : commonV l m = false ↔ ∀ x, x ∈ l → x ∉ m := by
  rw [← Bool.not_eq_true, commonV_iff]
  constructor
  · intro h x h1 h2; exact h ⟨x, h1, h2⟩
  · rintro h ⟨x, h1, h2⟩; exact h x h1 h2
structure Apa (t u : Touch) : Prop where
  ap : ∀ x, x ∈ t.people → x ∉ u.people
  at' : ∀ x, x ∈ t.things → x ∉ u.things
  ac : ∀ x, x ∈ t.cells → x ∉ u.cells
theorem Apa.symm {t u : Touch} (h : Apa t u) : Apa u t := ⟨fun x a b => h.ap x b a, fun x a b => h.at' x b a, fun x a b => h.ac x b a⟩
theorem bothV_iff {t u : Touch} : bothV t u = false ↔ Apa t u := by
  rw [bothV_def]
  simp only [Bool.or_eq_false_iff, commonV_false]
  exact ⟨fun h => ⟨h.1, h.2.1, h.2.2⟩, fun h => ⟨h.ap, h.at', h.ac⟩⟩
theorem apart_iff {s : Scene} {w v : Nat} {a b : RAct} : apartV s w a v b = true ↔ Apa (touchV s w a) (touchV s v b) := by
  rw [apartV_def, ← bothV_iff]; simp
theorem touchV_1 {s : Scene} {w : Nat} {a : RAct} (h : a.kind = 1) : touchV s w a = ⟨[a.who], [], [s.people.getD w 0, a.cell]⟩ := by rw [touchV_def, if_pos h]
theorem touchV_2 {s : Scene} {w : Nat} {a : RAct} (h : a.kind = 2) : touchV s w a = ⟨[a.who], [a.thing], []⟩ := by rw [touchV_def, if_neg (by omega), if_pos h]
theorem touchV_4 {s : Scene} {w : Nat} {a : RAct} (h : a.kind = 4) : touchV s w a = ⟨[a.who, a.other], [handAt s.hands w a.hand], []⟩ := by rw [touchV_def, if_neg (by omega), if_neg (by omega), if_pos h]; rfl
theorem touchV_56 {s : Scene} {w : Nat} {a : RAct} (h : a.kind = 5 ∨ a.kind = 6) : touchV s w a = ⟨[a.who], [handAt s.hands w a.hand, handAt s.hands w (1 - a.hand)], []⟩ := by rw [touchV_def, if_neg (by omega), if_neg (by omega), if_neg (by omega), if_pos h]; rfl
theorem touchV_378 {s : Scene} {w : Nat} {a : RAct} (h : a.kind = 3 ∨ a.kind = 7 ∨ a.kind = 8) : touchV s w a = ⟨[a.who], [handAt s.hands w a.hand], []⟩ := by rw [touchV_def, if_neg (by omega), if_neg (by omega), if_neg (by omega), if_neg (by omega)]; rfl
theorem getDset {α : Type} {l : List α} {i j : Nat} {x d : α} : (l.set i x).getD j d = if i = j ∧ j < l.length then x else l.getD j d := by
  simp only [List.getD_eq_getElem?_getD, List.getElem?_set]
  by_cases h : i = j
  · subst h
    by_cases h2 : i < l.length
    · simp [h2]
    · simp [h2]
  · simp [h]
theorem setV_at {ts : List Spot} {t u : Nat} {bit : Int} {on : Bool} : (setV ts t bit on).getD u spot0 = if u = t ∧ u < ts.length then (setV ts t bit on).getD t spot0 else ts.getD u spot0 := by
  rw [setV_def]
  by_cases h : hasV ts t bit = on
  · rw [if_pos h]
    split
    · rename_i e; rw [e.1]
    · rfl
  · rw [if_neg h, getDset, getDset]
    by_cases e : u = t
    · subst e
      by_cases h2 : u < ts.length <;> simp [h2]
    · have : ¬ t = u := fun x => e x.symm
      simp [e, this]
theorem hasV_local {ts us : List Spot} {t : Nat} {b : Int} (h : us.getD t spot0 = ts.getD t spot0) : hasV us t b = hasV ts t b := by
  rw [hasV_def, hasV_def]
  simp only [Int.toNat_natCast, h]
theorem setV_local {ts us : List Spot} {t : Nat} {b : Int} {on : Bool} (hl : us.length = ts.length) (h : us.getD t spot0 = ts.getD t spot0) : (setV us t b on).getD t spot0 = (setV ts t b on).getD t spot0 := by
  rw [setV_def, setV_def, hasV_local h]
  split
  · exact h
  · rw [getDset, getDset, h, hl]
/-- Two scenes that agree on some people and things. -/
structure Ag (s s' : Scene) (P T : List Int) : Prop where
  pl : s'.people.length = s.people.length
  hl : s'.hands.length = s.hands.length
  tl : s'.things.length = s.things.length
  pp : ∀ i : Nat, (i : Int) ∈ P → s'.people.getD i 0 = s.people.getD i 0
  ph : ∀ i : Nat, (i : Int) ∈ P → s'.hands.getD i hands0 = s.hands.getD i hands0
  tt : ∀ i : Nat, (i : Int) ∈ T → s'.things.getD i spot0 = s.things.getD i spot0
theorem doV_len {s : Scene} {w : Nat} {a : RAct} (hk : 1 ≤ a.kind ∧ a.kind ≤ 8) : (doV s w a).people.length = s.people.length ∧ (doV s w a).hands.length = s.hands.length ∧ (doV s w a).things.length = s.things.length := by
  rcases kinds8 hk with k | k | k | k | k | k | k | k
  · rw [doV_1 k]; simp
  · rw [doV_2 k]; simp [put_len]
  · rw [doV_3 k]; simp [put_len]
  · rw [doV_4 k]; simp [put_len]
  · rw [doV_5 k]; simp [setV_len]
  · rw [doV_6 k]; simp [setV_len]
  · rw [doV_7 k]; simp [setV_len]
  · rw [doV_8 k]; simp [setV_len]
/-- What an act does not touch stays. -/
theorem doV_frame {s : Scene} {w : Nat} {a : RAct} (D : DoB s w a) :
    (∀ i : Nat, (i : Int) ∉ (touchV s w a).people → (doV s w a).people.getD i 0 = s.people.getD i 0 ∧ (doV s w a).hands.getD i hands0 = s.hands.getD i hands0) ∧
    (∀ i : Nat, (i : Int) ∉ (touchV s w a).things → (doV s w a).things.getD i spot0 = s.things.getD i spot0) := by
  have hw := D.who
  have hh := D.hh
  have ne : ∀ i : Nat, ¬ (i : Int) = a.who → ¬ i = w := fun i h e => h (by rw [hw, e])
  have ne' : ∀ i : Nat, ¬ (i : Int) = a.who → ¬ w = i := fun i h e => h (by rw [hw, e])
  rcases kinds8 D.kind with k | k | k | k | k | k | k | k
  · rw [doV_1 k, touchV_1 k]
    refine ⟨fun i hi => ?_, fun i hi => rfl⟩
    simp only [List.mem_singleton] at hi
    exact ⟨by show (s.people.set w a.cell).getD i 0 = _; rw [getDset, if_neg (fun h => ne' i hi h.1)], rfl⟩
  · obtain ⟨t, e, _⟩ := D.take k
    rw [doV_2 k, touchV_2 k]
    refine ⟨fun i hi => ?_, fun i hi => ?_⟩
    · simp only [List.mem_singleton] at hi
      exact ⟨rfl, by show (putHand s.hands w a.hand a.thing).getD i hands0 = _; rw [put_get i hh, if_neg (ne i hi)]⟩
    · simp only [List.mem_singleton, e] at hi
      show (s.things.set a.thing.toNat _).getD i spot0 = _
      rw [getDset, e, if_neg (fun h => hi (by have := h.1; omega))]
  · obtain ⟨t, e, _⟩ := D.held (by omega)
    rw [heldV_eq] at e
    rw [doV_3 k, touchV_378 (.inl k)]
    refine ⟨fun i hi => ?_, fun i hi => ?_⟩
    · simp only [List.mem_singleton] at hi
      exact ⟨rfl, by show (putHand s.hands w a.hand (-1)).getD i hands0 = _; rw [put_get i hh, if_neg (ne i hi)]⟩
    · simp only [List.mem_singleton, e] at hi
      show (s.things.set (handAt s.hands w a.hand).toNat _).getD i spot0 = _
      rw [getDset, e, if_neg (fun h => hi (by have := h.1; omega))]
  · obtain ⟨o, e, o2, o3, o4⟩ := D.give k
    rw [doV_4 k, touchV_4 k]
    refine ⟨fun i hi => ?_, fun i hi => rfl⟩
    simp only [List.mem_cons, List.not_mem_nil, or_false, not_or] at hi
    refine ⟨rfl, ?_⟩
    show (putHand (putHand s.hands a.other.toNat _ _) w a.hand (-1)).getD i hands0 = _
    have : ¬ i = a.other.toNat := fun h => hi.2 (by rw [h, e]; simp)
    rw [put_get i (by rw [put_len]; exact hh), if_neg (ne i hi.1), put_get i (by rw [e]; simpa using o2), if_neg this]
  · obtain ⟨t, e, _⟩ := D.oth (.inl k)
    rw [heldV_eq] at e
    rw [doV_5 k, touchV_56 (.inl k)]
    refine ⟨fun i hi => ⟨rfl, rfl⟩, fun i hi => ?_⟩
    simp only [List.mem_cons, List.not_mem_nil, or_false, not_or, e] at hi
    show (setV s.things (handAt s.hands w (1 - a.hand)).toNat 1 true).getD i spot0 = _
    rw [setV_at, e, if_neg (fun h => hi.2 (by rw [h.1]; simp))]
  · obtain ⟨t, e, _⟩ := D.held (by omega)
    obtain ⟨q, f, _⟩ := D.oth (.inr k)
    rw [heldV_eq] at e f
    rw [doV_6 k, touchV_56 (.inr k)]
    refine ⟨fun i hi => ⟨rfl, rfl⟩, fun i hi => ?_⟩
    simp only [List.mem_cons, List.not_mem_nil, or_false, not_or, e, f] at hi
    have h1 : ¬ i = t := fun h => hi.1 (by rw [h])
    have h2 : ¬ i = q := fun h => hi.2 (by rw [h])
    simp only [e, f, Int.toNat_natCast]
    rw [setV_at, if_neg (fun h => h2 h.1), setV_at, if_neg (fun h => h1 h.1), setV_at, if_neg (fun h => h1 h.1)]
  · obtain ⟨t, e, _⟩ := D.held (by omega)
    rw [heldV_eq] at e
    rw [doV_7 k, touchV_378 (.inr (.inl k))]
    refine ⟨fun i hi => ⟨rfl, rfl⟩, fun i hi => ?_⟩
    simp only [List.mem_singleton, e] at hi
    have h1 : ¬ i = t := fun h => hi (by rw [h])
    simp only [e, Int.toNat_natCast]
    rw [setV_at, if_neg (fun h => h1 h.1)]
  · obtain ⟨t, e, _⟩ := D.held (by omega)
    rw [heldV_eq] at e
    rw [doV_8 k, touchV_378 (.inr (.inr k))]
    refine ⟨fun i hi => ⟨rfl, rfl⟩, fun i hi => ?_⟩
    simp only [List.mem_singleton, e] at hi
    have h1 : ¬ i = t := fun h => hi (by rw [h])
    simp only [e, Int.toNat_natCast]
    rw [setV_at, if_neg (fun h => h1 h.1)]
theorem handAt_local {hs hs' : List Hands} {w : Nat} {hand : Int} (h : hs'.getD w hands0 = hs.getD w hands0) : handAt hs' w hand = handAt hs w hand := by
  unfold handAt; rw [h]
theorem takerV_local {hs hs' : List Hands} {w : Nat} (h : hs'.getD w hands0 = hs.getD w hands0) : takerV hs' w = takerV hs w := by
  unfold takerV; rw [h]
/-- What an act does depends on what it touches alone. -/
theorem doV_local {r : Rite} {s s' : Scene} {w : Nat} {a : RAct} (D : DoB s w a) (h : Ag s s' (touchV s w a).people (touchV s w a).things) (hw : w < r.people.length) :
    touchV s' w a = touchV s w a ∧ ((a.kind = 1 → a.cell ∉ s'.people) → posV r s w a = true → posV r s' w a = true) ∧
    Ag (doV s w a) (doV s' w a) (touchV s w a).people (touchV s w a).things := by
  have hwho := D.who
  have hh := D.hh
  have hh' : w < s'.hands.length := by rw [h.hl]; exact hh
  have wp : (w : Int) ∈ (touchV s w a).people → s'.people.getD w 0 = s.people.getD w 0 ∧ s'.hands.getD w hands0 = s.hands.getD w hands0 := fun x => ⟨h.pp w x, h.ph w x⟩
  have L := doV_len (s := s) (w := w) D.kind
  have L' := doV_len (s := s') (w := w) D.kind
  have e1 := L'.1.trans (h.pl.trans L.1.symm)
  have e2 := L'.2.1.trans (h.hl.trans L.2.1.symm)
  have e3 := L'.2.2.trans (h.tl.trans L.2.2.symm)
  rcases kinds8 D.kind with k | k | k | k | k | k | k | k
  · rw [touchV_1 (s := s) k] at wp h ⊢
    obtain ⟨wp, wh⟩ := wp (by simp [hwho])
    refine ⟨by rw [touchV_1 k, wp], fun hc hp => ?_, ⟨e1, e2, e3, fun i hi => ?_, fun i hi => ?_, fun i hi => ?_⟩⟩
    · rw [posV_1 k] at hp ⊢
      rw [wp]
      simp only [Bool.and_eq_true] at hp ⊢
      exact ⟨by simpa using hc k, hp.2⟩
    · rw [doV_1 k, doV_1 k]
      show (s'.people.set w a.cell).getD i 0 = (s.people.set w a.cell).getD i 0
      rw [getDset, getDset, h.pl, h.pp i hi]
    · rw [doV_1 k, doV_1 k]; exact h.ph i hi
    · rw [doV_1 k, doV_1 k]; exact h.tt i hi
  · obtain ⟨t, e, _⟩ := D.take k
    rw [touchV_2 (s := s) k] at wp h ⊢
    obtain ⟨wp, wh⟩ := wp (by simp [hwho])
    have ht : s'.things.getD t spot0 = s.things.getD t spot0 := h.tt t (by simp [e])
    refine ⟨by rw [touchV_2 k], fun hc hp => ?_, ⟨e1, e2, e3, fun i hi => ?_, fun i hi => ?_, fun i hi => ?_⟩⟩
    · rw [posV_2 k, e, Int.toNat_natCast] at hp ⊢
      rw [wp, handAt_local wh, ht]; exact hp
    · rw [doV_2 k, doV_2 k]; exact h.pp i hi
    · rw [doV_2 k, doV_2 k]
      show (putHand s'.hands w a.hand a.thing).getD i hands0 = (putHand s.hands w a.hand a.thing).getD i hands0
      rw [put_get i hh', put_get i hh, wh, h.ph i hi]
    · rw [doV_2 k, doV_2 k]
      show (s'.things.set a.thing.toNat _).getD i spot0 = (s.things.set a.thing.toNat _).getD i spot0
      rw [getDset, getDset, h.tl, h.tt i hi, e, Int.toNat_natCast, ht]
  · obtain ⟨t, e, _⟩ := D.held (by omega)
    rw [heldV_eq] at e
    rw [touchV_378 (s := s) (.inl k)] at wp h ⊢
    obtain ⟨wp, wh⟩ := wp (by simp [hwho])
    have ht : s'.things.getD t spot0 = s.things.getD t spot0 := h.tt t (by simp [e])
    have e' : handAt s'.hands w a.hand = t := (handAt_local wh).trans e
    refine ⟨by rw [touchV_378 (.inl k), e, e'], fun hc hp => ?_, ⟨e1, e2, e3, fun i hi => ?_, fun i hi => ?_, fun i hi => ?_⟩⟩
    · rw [posV_3 k] at hp ⊢
      rw [handAt_local wh]; exact hp
    · rw [doV_3 k, doV_3 k]; exact h.pp i hi
    · rw [doV_3 k, doV_3 k]
      show (putHand s'.hands w a.hand (-1)).getD i hands0 = (putHand s.hands w a.hand (-1)).getD i hands0
      rw [put_get i hh', put_get i hh, wh, h.ph i hi]
    · rw [doV_3 k, doV_3 k]
      show (s'.things.set (handAt s'.hands w a.hand).toNat _).getD i spot0 = (s.things.set (handAt s.hands w a.hand).toNat _).getD i spot0
      rw [getDset, getDset, h.tl, h.tt i hi, e, e', Int.toNat_natCast, ht, wp]
  · obtain ⟨o, e, o2, o3, o4⟩ := D.give k
    rw [touchV_4 (s := s) k] at wp h ⊢
    obtain ⟨wp, wh⟩ := wp (by simp [hwho])
    have op : s'.people.getD o 0 = s.people.getD o 0 := h.pp o (by simp [e])
    have oh : s'.hands.getD o hands0 = s.hands.getD o hands0 := h.ph o (by simp [e])
    refine ⟨by rw [touchV_4 k, handAt_local wh], fun hc hp => ?_, ⟨e1, e2, e3, fun i hi => ?_, fun i hi => ?_, fun i hi => ?_⟩⟩
    · rw [posV_4 k, e, Int.toNat_natCast] at hp ⊢
      rw [handAt_local wh, wp, op, takerV_local oh]; exact hp
    · rw [doV_4 k, doV_4 k]; exact h.pp i hi
    · rw [doV_4 k, doV_4 k]
      simp only [e, Int.toNat_natCast]
      have o2' : o < s'.hands.length := by rw [h.hl]; exact o2
      have a1 : w < (putHand s'.hands o (takerV s'.hands o) (handAt s'.hands w a.hand)).length := by rw [put_len]; exact hh'
      have a2 : w < (putHand s.hands o (takerV s.hands o) (handAt s.hands w a.hand)).length := by rw [put_len]; exact hh
      rw [put_get i a1, put_get i a2, put_get i o2', put_get i o2, put_get w o2', put_get w o2, wh, oh, takerV_local oh, handAt_local wh, h.ph i hi]
    · rw [doV_4 k, doV_4 k]; exact h.tt i hi
  · obtain ⟨t, e, _⟩ := D.oth (.inl k)
    rw [heldV_eq] at e
    rw [touchV_56 (s := s) (.inl k)] at wp h ⊢
    obtain ⟨wp, wh⟩ := wp (by simp [hwho])
    have ht : s'.things.getD t spot0 = s.things.getD t spot0 := h.tt t (by simp [e])
    have e' : handAt s'.hands w (1 - a.hand) = t := (handAt_local wh).trans e
    refine ⟨by rw [touchV_56 (.inl k), handAt_local wh, e', e], fun hc hp => ?_, ⟨e1, e2, e3, fun i hi => ?_, fun i hi => ?_, fun i hi => ?_⟩⟩
    · rw [posV_5 k] at hp ⊢
      rw [handAt_local wh, handAt_local wh]; exact hp
    · rw [doV_5 k, doV_5 k]; exact h.pp i hi
    · rw [doV_5 k, doV_5 k]; exact h.ph i hi
    · rw [doV_5 k, doV_5 k]
      simp only [e, e', Int.toNat_natCast]
      rw [setV_at, setV_at (ts := s.things), h.tl, setV_local h.tl ht, h.tt i hi]
  · obtain ⟨t, e, _⟩ := D.held (by omega)
    obtain ⟨q, f, _⟩ := D.oth (.inr k)
    rw [heldV_eq] at e f
    rw [touchV_56 (s := s) (.inr k)] at wp h ⊢
    obtain ⟨wp, wh⟩ := wp (by simp [hwho])
    have ht : s'.things.getD t spot0 = s.things.getD t spot0 := h.tt t (by simp [e])
    have hq : s'.things.getD q spot0 = s.things.getD q spot0 := h.tt q (by simp [f])
    have e' : handAt s'.hands w a.hand = t := (handAt_local wh).trans e
    have f' : handAt s'.hands w (1 - a.hand) = q := (handAt_local wh).trans f
    refine ⟨by rw [touchV_56 (.inr k), e, e', f, f'], fun hc hp => ?_, ⟨e1, e2, e3, fun i hi => ?_, fun i hi => ?_, fun i hi => ?_⟩⟩
    · rw [posV_6 k, e, f] at hp
      rw [posV_6 k, e', f', hasV_local ht, hasV_local ht, hasV_local hq, hasV_local hq]; exact hp
    · rw [doV_6 k, doV_6 k]; exact h.pp i hi
    · rw [doV_6 k, doV_6 k]; exact h.ph i hi
    · rw [doV_6 k, doV_6 k]
      simp only [e, e', f, f', Int.toNat_natCast]
      have one : ∀ (us ts : List Spot), us.length = ts.length → ∀ (p : Nat) (b : Int) (on : Bool) (j : Nat), us.getD p spot0 = ts.getD p spot0 → us.getD j spot0 = ts.getD j spot0 → (setV us p b on).getD j spot0 = (setV ts p b on).getD j spot0 := fun us ts hl p b on j hp hj => by
        rw [setV_at, setV_at (ts := ts), hl, setV_local hl hp, hj]
      have l1 : (setV s'.things t 2 false).length = (setV s.things t 2 false).length := by simp only [setV_len, h.tl]
      have l2 : (setV (setV s'.things t 2 false) t 1 false).length = (setV (setV s.things t 2 false) t 1 false).length := by simp only [setV_len, h.tl]
      have all : ∀ j, s'.things.getD j spot0 = s.things.getD j spot0 → (setV (setV s'.things t 2 false) t 1 false).getD j spot0 = (setV (setV s.things t 2 false) t 1 false).getD j spot0 := fun j hj =>
        one _ _ l1 t 1 false j (one _ _ h.tl t 2 false t ht ht) (one _ _ h.tl t 2 false j ht hj)
      exact one _ _ l2 q 2 true i (all q hq) (all i (h.tt i hi))
  · obtain ⟨t, e, _⟩ := D.held (by omega)
    rw [heldV_eq] at e
    rw [touchV_378 (s := s) (.inr (.inl k))] at wp h ⊢
    obtain ⟨wp, wh⟩ := wp (by simp [hwho])
    have ht : s'.things.getD t spot0 = s.things.getD t spot0 := h.tt t (by simp [e])
    have e' : handAt s'.hands w a.hand = t := (handAt_local wh).trans e
    refine ⟨by rw [touchV_378 (.inr (.inl k)), e', e], fun hc hp => ?_, ⟨e1, e2, e3, fun i hi => ?_, fun i hi => ?_, fun i hi => ?_⟩⟩
    · rw [posV_7 k, e] at hp
      rw [posV_7 k, e', hasV_local ht]; exact hp
    · rw [doV_7 k, doV_7 k]; exact h.pp i hi
    · rw [doV_7 k, doV_7 k]; exact h.ph i hi
    · rw [doV_7 k, doV_7 k]
      simp only [e, e', Int.toNat_natCast]
      rw [setV_at, setV_at (ts := s.things), h.tl, setV_local h.tl ht, h.tt i hi]
  · obtain ⟨t, e, _⟩ := D.held (by omega)
    rw [heldV_eq] at e
    rw [touchV_378 (s := s) (.inr (.inr k))] at wp h ⊢
    obtain ⟨wp, wh⟩ := wp (by simp [hwho])
    have ht : s'.things.getD t spot0 = s.things.getD t spot0 := h.tt t (by simp [e])
    have e' : handAt s'.hands w a.hand = t := (handAt_local wh).trans e
    refine ⟨by rw [touchV_378 (.inr (.inr k)), e', e], fun hc hp => ?_, ⟨e1, e2, e3, fun i hi => ?_, fun i hi => ?_, fun i hi => ?_⟩⟩
    · rw [posV_8 k, e] at hp
      rw [posV_8 k, e', hasV_local ht]; exact hp
    · rw [doV_8 k, doV_8 k]; exact h.pp i hi
    · rw [doV_8 k, doV_8 k]; exact h.ph i hi
    · rw [doV_8 k, doV_8 k]
      simp only [e, e', Int.toNat_natCast]
      rw [setV_at, setV_at (ts := s.things), h.tl, setV_local h.tl ht, h.tt i hi]
end Go.Gh


/- Acts of one minute, in any order. -/
namespace Go.Gh
open Go.Proofs
set_option linter.unusedSimpArgs false
set_option linter.unusedVariables false
theorem doV_people {s : Scene} {w : Nat} {a : RAct} (hk : 1 ≤ a.kind ∧ a.kind ≤ 8) (h1 : a.kind ≠ 1) : (doV s w a).people = s.people := by
  rcases kinds8 hk with k | k | k | k | k | k | k | k
  · exact absurd k h1
  · rw [doV_2 k]
  · rw [doV_3 k]
  · rw [doV_4 k]
  · rw [doV_5 k]
  · rw [doV_6 k]
  · rw [doV_7 k]
  · rw [doV_8 k]
theorem ag_of {s : Scene} {v : Nat} {b : RAct} {t : Touch} (D : DoB s v b) (h : Apa t (touchV s v b)) : Ag s (doV s v b) t.people t.things := by
  have L := doV_len (s := s) (w := v) D.kind
  have F := doV_frame D
  exact ⟨L.1, L.2.1, L.2.2, fun i hi => (F.1 i (h.ap _ hi)).1, fun i hi => (F.1 i (h.ap _ hi)).2, fun i hi => F.2 i (h.at' _ hi)⟩
section
variable {r : Rite} {s : Scene} {w v : Nat} {a b : RAct}
/-- An act behind another one of the minute. -/
theorem after_one (hS : Snd r s) (hA : AB r w a) (hB : AB r v b) (pa : posV r s w a = true) (pb : posV r s v b = true) (h : Apa (touchV s w a) (touchV s v b)) :
    touchV (doV s w a) v b = touchV s v b ∧ posV r (doV s w a) v b = true ∧ Ag (doV s v b) (doV (doV s w a) v b) (touchV s v b).people (touchV s v b).things := by
  have DA := DoB_of hS hA pa
  have DB := DoB_of hS hB pb
  obtain ⟨l1, l2, l3⟩ := doV_local (r := r) DB (ag_of DA h.symm) hB.wl
  refine ⟨l1, l2 (fun k hin => ?_) pb, l3⟩
  rw [posV_1 k] at pb
  simp at pb
  by_cases k1 : a.kind = 1
  · rw [doV_1 k1] at hin
    rcases List.mem_or_eq_of_mem_set hin with x | x
    · exact pb.1 x
    · rw [touchV_1 k1, touchV_1 k] at h
      exact h.ac a.cell (by simp) (by simp [x])
  · rw [doV_people hA.kind k1] at hin
    exact pb.1 hin
end
noncomputable def doG (s : Scene) (g : List RAct) : Scene := g.foldl (fun s a => doV s a.who.toNat a) s
theorem doG_nil (s : Scene) : doG s [] = s := rfl
theorem doG_cons (s : Scene) (a : RAct) (g : List RAct) : doG s (a :: g) = doG (doV s a.who.toNat a) g := rfl
theorem doG_append (s : Scene) (g h : List RAct) : doG s (g ++ h) = doG (doG s g) h := List.foldl_append ..
noncomputable def tch (s : Scene) (a : RAct) : Touch := touchV s a.who.toNat a
structure GOk (r : Rite) (s : Scene) (g : List RAct) : Prop where
  ab : ∀ a ∈ g, AB r a.who.toNat a ∧ posV r s a.who.toNat a = true
  ap : g.Pairwise fun a b => Apa (tch s a) (tch s b)
theorem GOk.tail {r : Rite} {s : Scene} {a : RAct} {g : List RAct} (hS : Snd r s) (h : GOk r s (a :: g)) : Snd r (doV s a.who.toNat a) ∧ GOk r (doV s a.who.toNat a) g := by
  obtain ⟨hA, pa⟩ := h.ab a (List.mem_cons_self ..)
  have hp := List.pairwise_cons.1 h.ap
  have one := fun b (hb : b ∈ g) => after_one hS hA (h.ab b (List.mem_cons_of_mem _ hb)).1 pa (h.ab b (List.mem_cons_of_mem _ hb)).2 (hp.1 b hb)
  refine ⟨hS.doA hA pa, ⟨fun b hb => ⟨(h.ab b (List.mem_cons_of_mem _ hb)).1, (one b hb).2.1⟩, ?_⟩⟩
  refine hp.2.imp_of_mem fun {x y} hx hy q => ?_
  unfold tch at q ⊢
  rw [(one x hx).1, (one y hy).1]
  exact q
theorem GOk.snd {r : Rite} : ∀ {g : List RAct} {s : Scene}, Snd r s → GOk r s g → Snd r (doG s g)
  | [], s, hS, _ => hS
  | a :: g, s, hS, h => by
    obtain ⟨h1, h2⟩ := h.tail hS
    show Snd r (doG (doV s a.who.toNat a) g)
    exact GOk.snd h1 h2
end Go.Gh
