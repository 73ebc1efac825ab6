/- Texts joined: the evaluator over ghost values, its soundness, the walks. -/
import Derived.Test.YtkcmcjohoockcaaGreatGc3g
namespace Go.Gh
open Go.Proofs
set_option linter.unusedVariables false
set_option linter.unusedSimpArgs false
set_option linter.unnecessarySimpa false
set_option maxRecDepth 100000
set_option maxHeartbeats 8000000
theorem commonV_iff {l m : List Int} : commonV l m = true ↔ ∃ x, x ∈ l ∧ x ∈ m := by
 rw [commonV_def]
 simp
theorem commonV_false {l m : List Int} : commonV l m = false ↔ ∀ x, x ∈ l → x ∉ m := by
 rw [← Bool.not_eq_true, commonV_iff]
 constructor
 ·intro h x h1 h2; exact h ⟨x, h1, h2⟩
 ·rintro h ⟨x, h1, h2⟩; exact h x h1 h2
structure Apa (t u : Touch) : Prop where
 ap : ∀ x, x ∈ t.people → x ∉ u.people
 at' : ∀ x, x ∈ t.things → x ∉ u.things
 ac : ∀ x, x ∈ t.cells → x ∉ u.cells
theorem Apa.symm {t u : Touch} (h : Apa t u) : Apa u t := ⟨fun x a b => h.ap x b a, fun x a b => h.at' x b a, fun x a b => h.ac x b a⟩
theorem bothV_iff {t u : Touch} : bothV t u = false ↔ Apa t u := by
 rw [bothV_def]
 simp only [Bool.or_eq_false_iff, commonV_false]
 exact ⟨fun h => ⟨h.1, h.2.1, h.2.2⟩, fun h => ⟨h.ap, h.at', h.ac⟩⟩
theorem apart_iff {s : Scene} {w v : Nat} {a b : RAct} : apartV s w a v b = true ↔ Apa (touchV s w a) (touchV s v b) := by
 rw [apartV_def, ← bothV_iff]; simp
theorem touchV_1 {s : Scene} {w : Nat} {a : RAct} (h : a.kind = 1) : touchV s w a = ⟨[a.who], [], [s.people.getD w 0, a.cell]⟩ := by rw [touchV_def, if_pos h]
theorem touchV_2 {s : Scene} {w : Nat} {a : RAct} (h : a.kind = 2) : touchV s w a = ⟨[a.who], [a.thing], []⟩ := by rw [touchV_def, if_neg (by omega), if_pos h]
theorem touchV_4 {s : Scene} {w : Nat} {a : RAct} (h : a.kind = 4) : touchV s w a = ⟨[a.who, a.other], [handAt s.hands w a.hand], []⟩ := by rw [touchV_def, if_neg (by omega), if_neg (by omega), if_pos h]; rfl
theorem touchV_56 {s : Scene} {w : Nat} {a : RAct} (h : a.kind = 5 ∨ a.kind = 6) : touchV s w a = ⟨[a.who], [handAt s.hands w a.hand, handAt s.hands w (1 - a.hand)], []⟩ := by rw [touchV_def, if_neg (by omega), if_neg (by omega), if_neg (by omega), if_pos h]; rfl
theorem touchV_378 {s : Scene} {w : Nat} {a : RAct} (h : a.kind = 3 ∨ a.kind = 7 ∨ a.kind = 8) : touchV s w a = ⟨[a.who], [handAt s.hands w a.hand], []⟩ := by rw [touchV_def, if_neg (by omega), if_neg (by omega), if_neg (by omega), if_neg (by omega)]; rfl
theorem getDset {α : Type} {l : List α} {i j : Nat} {x d : α} : (l.set i x).getD j d = if i = j ∧ j < l.length then x else l.getD j d := by
 simp only [List.getD_eq_getElem?_getD, List.getElem?_set]
 by_cases h : i = j
 ·subst h
  by_cases h2 : i < l.length
  ·simp [h2]
  ·simp [h2]
 ·simp [h]
theorem setV_at {ts : List Spot} {t u : Nat} {bit : Int} {on : Bool} : (setV ts t bit on).getD u spot0 = if u = t ∧ u < ts.length then (setV ts t bit on).getD t spot0 else ts.getD u spot0 := by
 rw [setV_def]
 by_cases h : hasV ts t bit = on
 ·rw [if_pos h]
  split
  ·rename_i e; rw [e.1]
  ·rfl
 ·rw [if_neg h, getDset, getDset]
  by_cases e : u = t
  ·subst e
   by_cases h2 : u < ts.length <;> simp [h2]
  ·have : ¬ t = u := fun x => e x.symm
   simp [e, this]
theorem hasV_local {ts us : List Spot} {t : Nat} {b : Int} (h : us.getD t spot0 = ts.getD t spot0) : hasV us t b = hasV ts t b := by
 rw [hasV_def, hasV_def]
 simp only [Int.toNat_natCast, h]
theorem setV_local {ts us : List Spot} {t : Nat} {b : Int} {on : Bool} (hl : us.length = ts.length) (h : us.getD t spot0 = ts.getD t spot0) : (setV us t b on).getD t spot0 = (setV ts t b on).getD t spot0 := by
 rw [setV_def, setV_def, hasV_local h]
 split
 ·exact h
 ·rw [getDset, getDset, h, hl]
structure Ag (s s' : Scene) (P T : List Int) : Prop where
 pl : s'.people.length = s.people.length
 hl : s'.hands.length = s.hands.length
 tl : s'.things.length = s.things.length
 pp : ∀ i : Nat, (i : Int) ∈ P → s'.people.getD i 0 = s.people.getD i 0
 ph : ∀ i : Nat, (i : Int) ∈ P → s'.hands.getD i hands0 = s.hands.getD i hands0
 tt : ∀ i : Nat, (i : Int) ∈ T → s'.things.getD i spot0 = s.things.getD i spot0
theorem doV_len {s : Scene} {w : Nat} {a : RAct} (hk : 1 ≤ a.kind ∧ a.kind ≤ 8) : (doV s w a).people.length = s.people.length ∧ (doV s w a).hands.length = s.hands.length ∧ (doV s w a).things.length = s.things.length := by
 rcases kinds8 hk with k | k | k | k | k | k | k | k
 ·rw [doV_1 k]; simp
 ·rw [doV_2 k]; simp [put_len]
 ·rw [doV_3 k]; simp [put_len]
 ·rw [doV_4 k]; simp [put_len]
 ·rw [doV_5 k]; simp [setV_len]
 ·rw [doV_6 k]; simp [setV_len]
 ·rw [doV_7 k]; simp [setV_len]
 ·rw [doV_8 k]; simp [setV_len]
theorem doV_frame {s : Scene} {w : Nat} {a : RAct} (D : DoB s w a) :
  (∀ i : Nat, (i : Int) ∉ (touchV s w a).people → (doV s w a).people.getD i 0 = s.people.getD i 0 ∧ (doV s w a).hands.getD i hands0 = s.hands.getD i hands0) ∧
  (∀ i : Nat, (i : Int) ∉ (touchV s w a).things → (doV s w a).things.getD i spot0 = s.things.getD i spot0) := by
 have hw := D.who
 have hh := D.hh
 have ne : ∀ i : Nat, ¬ (i : Int) = a.who → ¬ i = w := fun i h e => h (by rw [hw, e])
 have ne' : ∀ i : Nat, ¬ (i : Int) = a.who → ¬ w = i := fun i h e => h (by rw [hw, e])
 rcases kinds8 D.kind with k | k | k | k | k | k | k | k
 ·rw [doV_1 k, touchV_1 k]
  refine ⟨fun i hi => ?_, fun i hi => rfl⟩
  simp only [List.mem_singleton] at hi
  exact ⟨by show (s.people.set w a.cell).getD i 0 = _; rw [getDset, if_neg (fun h => ne' i hi h.1)], rfl⟩
 ·obtain ⟨t, e, _⟩ := D.take k
  rw [doV_2 k, touchV_2 k]
  refine ⟨fun i hi => ?_, fun i hi => ?_⟩
  ·simp only [List.mem_singleton] at hi
   exact ⟨rfl, by show (putHand s.hands w a.hand a.thing).getD i hands0 = _; rw [put_get i hh, if_neg (ne i hi)]⟩
  ·simp only [List.mem_singleton, e] at hi
   show (s.things.set a.thing.toNat _).getD i spot0 = _
   rw [getDset, e, if_neg (fun h => hi (by have := h.1; omega))]
 ·obtain ⟨t, e, _⟩ := D.held (by omega)
  rw [heldV_eq] at e
  rw [doV_3 k, touchV_378 (.inl k)]
  refine ⟨fun i hi => ?_, fun i hi => ?_⟩
  ·simp only [List.mem_singleton] at hi
   exact ⟨rfl, by show (putHand s.hands w a.hand (-1)).getD i hands0 = _; rw [put_get i hh, if_neg (ne i hi)]⟩
  ·simp only [List.mem_singleton, e] at hi
   show (s.things.set (handAt s.hands w a.hand).toNat _).getD i spot0 = _
   rw [getDset, e, if_neg (fun h => hi (by have := h.1; omega))]
 ·obtain ⟨o, e, o2, o3, o4⟩ := D.give k
  rw [doV_4 k, touchV_4 k]
  refine ⟨fun i hi => ?_, fun i hi => rfl⟩
  simp only [List.mem_cons, List.not_mem_nil, or_false, not_or] at hi
  refine ⟨rfl, ?_⟩
  show (putHand (putHand s.hands a.other.toNat _ _) w a.hand (-1)).getD i hands0 = _
  have : ¬ i = a.other.toNat := fun h => hi.2 (by rw [h, e]; simp)
  rw [put_get i (by rw [put_len]; exact hh), if_neg (ne i hi.1), put_get i (by rw [e]; simpa using o2), if_neg this]
 ·obtain ⟨t, e, _⟩ := D.oth (.inl k)
  rw [heldV_eq] at e
  rw [doV_5 k, touchV_56 (.inl k)]
  refine ⟨fun i hi => ⟨rfl, rfl⟩, fun i hi => ?_⟩
  simp only [List.mem_cons, List.not_mem_nil, or_false, not_or, e] at hi
  show (setV s.things (handAt s.hands w (1 - a.hand)).toNat 1 true).getD i spot0 = _
  rw [setV_at, e, if_neg (fun h => hi.2 (by rw [h.1]; simp))]
 ·obtain ⟨t, e, _⟩ := D.held (by omega)
  obtain ⟨q, f, _⟩ := D.oth (.inr k)
  rw [heldV_eq] at e f
  rw [doV_6 k, touchV_56 (.inr k)]
  refine ⟨fun i hi => ⟨rfl, rfl⟩, fun i hi => ?_⟩
  simp only [List.mem_cons, List.not_mem_nil, or_false, not_or, e, f] at hi
  have h1 : ¬ i = t := fun h => hi.1 (by rw [h])
  have h2 : ¬ i = q := fun h => hi.2 (by rw [h])
  simp only [e, f, Int.toNat_natCast]
  rw [setV_at, if_neg (fun h => h2 h.1), setV_at, if_neg (fun h => h1 h.1), setV_at, if_neg (fun h => h1 h.1)]
 ·obtain ⟨t, e, _⟩ := D.held (by omega)
  rw [heldV_eq] at e
  rw [doV_7 k, touchV_378 (.inr (.inl k))]
  refine ⟨fun i hi => ⟨rfl, rfl⟩, fun i hi => ?_⟩
  simp only [List.mem_singleton, e] at hi
  have h1 : ¬ i = t := fun h => hi (by rw [h])
  simp only [e, Int.toNat_natCast]
  rw [setV_at, if_neg (fun h => h1 h.1)]
 ·obtain ⟨t, e, _⟩ := D.held (by omega)
  rw [heldV_eq] at e
  rw [doV_8 k, touchV_378 (.inr (.inr k))]
  refine ⟨fun i hi => ⟨rfl, rfl⟩, fun i hi => ?_⟩
  simp only [List.mem_singleton, e] at hi
  have h1 : ¬ i = t := fun h => hi (by rw [h])
  simp only [e, Int.toNat_natCast]
  rw [setV_at, if_neg (fun h => h1 h.1)]
theorem handAt_local {hs hs' : List Hands} {w : Nat} {hand : Int} (h : hs'.getD w hands0 = hs.getD w hands0) : handAt hs' w hand = handAt hs w hand := by
 unfold handAt; rw [h]
theorem takerV_local {hs hs' : List Hands} {w : Nat} (h : hs'.getD w hands0 = hs.getD w hands0) : takerV hs' w = takerV hs w := by
 unfold takerV; rw [h]
theorem doV_local {r : Rite} {s s' : Scene} {w : Nat} {a : RAct} (D : DoB s w a) (h : Ag s s' (touchV s w a).people (touchV s w a).things) (hw : w < r.people.length) :
  touchV s' w a = touchV s w a ∧ ((a.kind = 1 → a.cell ∉ s'.people) → posV r s w a = true → posV r s' w a = true) ∧
  Ag (doV s w a) (doV s' w a) (touchV s w a).people (touchV s w a).things := by
 have hwho := D.who
 have hh := D.hh
 have hh' : w < s'.hands.length := by rw [h.hl]; exact hh
 have wp : (w : Int) ∈ (touchV s w a).people → s'.people.getD w 0 = s.people.getD w 0 ∧ s'.hands.getD w hands0 = s.hands.getD w hands0 := fun x => ⟨h.pp w x, h.ph w x⟩
 have L := doV_len (s := s) (w := w) D.kind
 have L' := doV_len (s := s') (w := w) D.kind
 have e1 := L'.1.trans (h.pl.trans L.1.symm)
 have e2 := L'.2.1.trans (h.hl.trans L.2.1.symm)
 have e3 := L'.2.2.trans (h.tl.trans L.2.2.symm)
 rcases kinds8 D.kind with k | k | k | k | k | k | k | k
 ·rw [touchV_1 (s := s) k] at wp h ⊢
  obtain ⟨wp, wh⟩ := wp (by simp [hwho])
  refine ⟨by rw [touchV_1 k, wp], fun hc hp => ?_, ⟨e1, e2, e3, fun i hi => ?_, fun i hi => ?_, fun i hi => ?_⟩⟩
  ·rw [posV_1 k] at hp ⊢
   rw [wp]
   simp only [Bool.and_eq_true] at hp ⊢
   exact ⟨by simpa using hc k, hp.2⟩
  ·rw [doV_1 k, doV_1 k]
   show (s'.people.set w a.cell).getD i 0 = (s.people.set w a.cell).getD i 0
   rw [getDset, getDset, h.pl, h.pp i hi]
  ·rw [doV_1 k, doV_1 k]; exact h.ph i hi
  ·rw [doV_1 k, doV_1 k]; exact h.tt i hi
 ·obtain ⟨t, e, _⟩ := D.take k
  rw [touchV_2 (s := s) k] at wp h ⊢
  obtain ⟨wp, wh⟩ := wp (by simp [hwho])
  have ht : s'.things.getD t spot0 = s.things.getD t spot0 := h.tt t (by simp [e])
  refine ⟨by rw [touchV_2 k], fun hc hp => ?_, ⟨e1, e2, e3, fun i hi => ?_, fun i hi => ?_, fun i hi => ?_⟩⟩
  ·rw [posV_2 k, e, Int.toNat_natCast] at hp ⊢
   rw [wp, handAt_local wh, ht]; exact hp
  ·rw [doV_2 k, doV_2 k]; exact h.pp i hi
  ·rw [doV_2 k, doV_2 k]
   show (putHand s'.hands w a.hand a.thing).getD i hands0 = (putHand s.hands w a.hand a.thing).getD i hands0
   rw [put_get i hh', put_get i hh, wh, h.ph i hi]
  ·rw [doV_2 k, doV_2 k]
   show (s'.things.set a.thing.toNat _).getD i spot0 = (s.things.set a.thing.toNat _).getD i spot0
   rw [getDset, getDset, h.tl, h.tt i hi, e, Int.toNat_natCast, ht]
 ·obtain ⟨t, e, _⟩ := D.held (by omega)
  rw [heldV_eq] at e
  rw [touchV_378 (s := s) (.inl k)] at wp h ⊢
  obtain ⟨wp, wh⟩ := wp (by simp [hwho])
  have ht : s'.things.getD t spot0 = s.things.getD t spot0 := h.tt t (by simp [e])
  have e' : handAt s'.hands w a.hand = t := (handAt_local wh).trans e
  refine ⟨by rw [touchV_378 (.inl k), e, e'], fun hc hp => ?_, ⟨e1, e2, e3, fun i hi => ?_, fun i hi => ?_, fun i hi => ?_⟩⟩
  ·rw [posV_3 k] at hp ⊢
   rw [handAt_local wh]; exact hp
  ·rw [doV_3 k, doV_3 k]; exact h.pp i hi
  ·rw [doV_3 k, doV_3 k]
   show (putHand s'.hands w a.hand (-1)).getD i hands0 = (putHand s.hands w a.hand (-1)).getD i hands0
   rw [put_get i hh', put_get i hh, wh, h.ph i hi]
  ·rw [doV_3 k, doV_3 k]
   show (s'.things.set (handAt s'.hands w a.hand).toNat _).getD i spot0 = (s.things.set (handAt s.hands w a.hand).toNat _).getD i spot0
   rw [getDset, getDset, h.tl, h.tt i hi, e, e', Int.toNat_natCast, ht, wp]
 ·obtain ⟨o, e, o2, o3, o4⟩ := D.give k
  rw [touchV_4 (s := s) k] at wp h ⊢
  obtain ⟨wp, wh⟩ := wp (by simp [hwho])
  have op : s'.people.getD o 0 = s.people.getD o 0 := h.pp o (by simp [e])
  have oh : s'.hands.getD o hands0 = s.hands.getD o hands0 := h.ph o (by simp [e])
  refine ⟨by rw [touchV_4 k, handAt_local wh], fun hc hp => ?_, ⟨e1, e2, e3, fun i hi => ?_, fun i hi => ?_, fun i hi => ?_⟩⟩
  ·rw [posV_4 k, e, Int.toNat_natCast] at hp ⊢
   rw [handAt_local wh, wp, op, takerV_local oh]; exact hp
  ·rw [doV_4 k, doV_4 k]; exact h.pp i hi
  ·rw [doV_4 k, doV_4 k]
   simp only [e, Int.toNat_natCast]
   have o2' : o < s'.hands.length := by rw [h.hl]; exact o2
   have a1 : w < (putHand s'.hands o (takerV s'.hands o) (handAt s'.hands w a.hand)).length := by rw [put_len]; exact hh'
   have a2 : w < (putHand s.hands o (takerV s.hands o) (handAt s.hands w a.hand)).length := by rw [put_len]; exact hh
   rw [put_get i a1, put_get i a2, put_get i o2', put_get i o2, put_get w o2', put_get w o2, wh, oh, takerV_local oh, handAt_local wh, h.ph i hi]
  ·rw [doV_4 k, doV_4 k]; exact h.tt i hi
 ·obtain ⟨t, e, _⟩ := D.oth (.inl k)
  rw [heldV_eq] at e
  rw [touchV_56 (s := s) (.inl k)] at wp h ⊢
  obtain ⟨wp, wh⟩ := wp (by simp [hwho])
  have ht : s'.things.getD t spot0 = s.things.getD t spot0 := h.tt t (by simp [e])
  have e' : handAt s'.hands w (1 - a.hand) = t := (handAt_local wh).trans e
  refine ⟨by rw [touchV_56 (.inl k), handAt_local wh, e', e], fun hc hp => ?_, ⟨e1, e2, e3, fun i hi => ?_, fun i hi => ?_, fun i hi => ?_⟩⟩
  ·rw [posV_5 k] at hp ⊢
   rw [handAt_local wh, handAt_local wh]; exact hp
  ·rw [doV_5 k, doV_5 k]; exact h.pp i hi
  ·rw [doV_5 k, doV_5 k]; exact h.ph i hi
  ·rw [doV_5 k, doV_5 k]
   simp only [e, e', Int.toNat_natCast]
   rw [setV_at, setV_at (ts := s.things), h.tl, setV_local h.tl ht, h.tt i hi]
 ·obtain ⟨t, e, _⟩ := D.held (by omega)
  obtain ⟨q, f, _⟩ := D.oth (.inr k)
  rw [heldV_eq] at e f
  rw [touchV_56 (s := s) (.inr k)] at wp h ⊢
  obtain ⟨wp, wh⟩ := wp (by simp [hwho])
  have ht : s'.things.getD t spot0 = s.things.getD t spot0 := h.tt t (by simp [e])
  have hq : s'.things.getD q spot0 = s.things.getD q spot0 := h.tt q (by simp [f])
  have e' : handAt s'.hands w a.hand = t := (handAt_local wh).trans e
  have f' : handAt s'.hands w (1 - a.hand) = q := (handAt_local wh).trans f
  refine ⟨by rw [touchV_56 (.inr k), e, e', f, f'], fun hc hp => ?_, ⟨e1, e2, e3, fun i hi => ?_, fun i hi => ?_, fun i hi => ?_⟩⟩
  ·rw [posV_6 k, e, f] at hp
   rw [posV_6 k, e', f', hasV_local ht, hasV_local ht, hasV_local hq, hasV_local hq]; exact hp
  ·rw [doV_6 k, doV_6 k]; exact h.pp i hi
  ·rw [doV_6 k, doV_6 k]; exact h.ph i hi
  ·rw [doV_6 k, doV_6 k]
   simp only [e, e', f, f', Int.toNat_natCast]
   have one : ∀ (us ts : List Spot), us.length = ts.length → ∀ (p : Nat) (b : Int) (on : Bool) (j : Nat), us.getD p spot0 = ts.getD p spot0 → us.getD j spot0 = ts.getD j spot0 → (setV us p b on).getD j spot0 = (setV ts p b on).getD j spot0 := fun us ts hl p b on j hp hj => by
    rw [setV_at, setV_at (ts := ts), hl, setV_local hl hp, hj]
   have l1 : (setV s'.things t 2 false).length = (setV s.things t 2 false).length := by simp only [setV_len, h.tl]
   have l2 : (setV (setV s'.things t 2 false) t 1 false).length = (setV (setV s.things t 2 false) t 1 false).length := by simp only [setV_len, h.tl]
   have all : ∀ j, s'.things.getD j spot0 = s.things.getD j spot0 → (setV (setV s'.things t 2 false) t 1 false).getD j spot0 = (setV (setV s.things t 2 false) t 1 false).getD j spot0 := fun j hj =>
    one _ _ l1 t 1 false j (one _ _ h.tl t 2 false t ht ht) (one _ _ h.tl t 2 false j ht hj)
   exact one _ _ l2 q 2 true i (all q hq) (all i (h.tt i hi))
 ·obtain ⟨t, e, _⟩ := D.held (by omega)
  rw [heldV_eq] at e
  rw [touchV_378 (s := s) (.inr (.inl k))] at wp h ⊢
  obtain ⟨wp, wh⟩ := wp (by simp [hwho])
  have ht : s'.things.getD t spot0 = s.things.getD t spot0 := h.tt t (by simp [e])
  have e' : handAt s'.hands w a.hand = t := (handAt_local wh).trans e
  refine ⟨by rw [touchV_378 (.inr (.inl k)), e', e], fun hc hp => ?_, ⟨e1, e2, e3, fun i hi => ?_, fun i hi => ?_, fun i hi => ?_⟩⟩
  ·rw [posV_7 k, e] at hp
   rw [posV_7 k, e', hasV_local ht]; exact hp
  ·rw [doV_7 k, doV_7 k]; exact h.pp i hi
  ·rw [doV_7 k, doV_7 k]; exact h.ph i hi
  ·rw [doV_7 k, doV_7 k]
   simp only [e, e', Int.toNat_natCast]
   rw [setV_at, setV_at (ts := s.things), h.tl, setV_local h.tl ht, h.tt i hi]
 ·obtain ⟨t, e, _⟩ := D.held (by omega)
  rw [heldV_eq] at e
  rw [touchV_378 (s := s) (.inr (.inr k))] at wp h ⊢
  obtain ⟨wp, wh⟩ := wp (by simp [hwho])
  have ht : s'.things.getD t spot0 = s.things.getD t spot0 := h.tt t (by simp [e])
  have e' : handAt s'.hands w a.hand = t := (handAt_local wh).trans e
  refine ⟨by rw [touchV_378 (.inr (.inr k)), e', e], fun hc hp => ?_, ⟨e1, e2, e3, fun i hi => ?_, fun i hi => ?_, fun i hi => ?_⟩⟩
  ·rw [posV_8 k, e] at hp
   rw [posV_8 k, e', hasV_local ht]; exact hp
  ·rw [doV_8 k, doV_8 k]; exact h.pp i hi
  ·rw [doV_8 k, doV_8 k]; exact h.ph i hi
  ·rw [doV_8 k, doV_8 k]
   simp only [e, e', Int.toNat_natCast]
   rw [setV_at, setV_at (ts := s.things), h.tl, setV_local h.tl ht, h.tt i hi]
section
theorem doV_people {s : Scene} {w : Nat} {a : RAct} (hk : 1 ≤ a.kind ∧ a.kind ≤ 8) (h1 : a.kind ≠ 1) : (doV s w a).people = s.people := by
 rcases kinds8 hk with k | k | k | k | k | k | k | k
 ·exact absurd k h1
 ·rw [doV_2 k]
 ·rw [doV_3 k]
 ·rw [doV_4 k]
 ·rw [doV_5 k]
 ·rw [doV_6 k]
 ·rw [doV_7 k]
 ·rw [doV_8 k]
theorem ag_of {s : Scene} {v : Nat} {b : RAct} {t : Touch} (D : DoB s v b) (h : Apa t (touchV s v b)) : Ag s (doV s v b) t.people t.things := by
 have L := doV_len (s := s) (w := v) D.kind
 have F := doV_frame D
 exact ⟨L.1, L.2.1, L.2.2, fun i hi => (F.1 i (h.ap _ hi)).1, fun i hi => (F.1 i (h.ap _ hi)).2, fun i hi => F.2 i (h.at' _ hi)⟩
section
variable {r : Rite} {s : Scene} {w v : Nat} {a b : RAct}
theorem after_one (hS : Snd r s) (hA : AB r w a) (hB : AB r v b) (pa : posV r s w a = true) (pb : posV r s v b = true) (h : Apa (touchV s w a) (touchV s v b)) :
  touchV (doV s w a) v b = touchV s v b ∧ posV r (doV s w a) v b = true ∧ Ag (doV s v b) (doV (doV s w a) v b) (touchV s v b).people (touchV s v b).things := by
 have DA := DoB_of hS hA pa
 have DB := DoB_of hS hB pb
 obtain ⟨l1, l2, l3⟩ := doV_local (r := r) DB (ag_of DA h.symm) hB.wl
 refine ⟨l1, l2 (fun k hin => ?_) pb, l3⟩
 rw [posV_1 k] at pb
 simp at pb
 by_cases k1 : a.kind = 1
 ·rw [doV_1 k1] at hin
  rcases List.mem_or_eq_of_mem_set hin with x | x
  ·exact pb.1 x
  ·rw [touchV_1 k1, touchV_1 k] at h
   exact h.ac a.cell (by simp) (by simp [x])
 ·rw [doV_people hA.kind k1] at hin
  exact pb.1 hin
end
noncomputable def doG (s : Scene) (g : List RAct) : Scene := g.foldl (fun s a => doV s a.who.toNat a) s
theorem doG_nil (s : Scene) : doG s [] = s := rfl
theorem doG_cons (s : Scene) (a : RAct) (g : List RAct) : doG s (a :: g) = doG (doV s a.who.toNat a) g := rfl
theorem doG_append (s : Scene) (g h : List RAct) : doG s (g ++ h) = doG (doG s g) h := List.foldl_append ..
noncomputable def tch (s : Scene) (a : RAct) : Touch := touchV s a.who.toNat a
structure GOk (r : Rite) (s : Scene) (g : List RAct) : Prop where
 ab : ∀ a ∈ g, AB r a.who.toNat a ∧ posV r s a.who.toNat a = true
 ap : g.Pairwise fun a b => Apa (tch s a) (tch s b)
theorem GOk.tail {r : Rite} {s : Scene} {a : RAct} {g : List RAct} (hS : Snd r s) (h : GOk r s (a :: g)) : Snd r (doV s a.who.toNat a) ∧ GOk r (doV s a.who.toNat a) g := by
 obtain ⟨hA, pa⟩ := h.ab a (List.mem_cons_self ..)
 have hp := List.pairwise_cons.1 h.ap
 have one := fun b (hb : b ∈ g) => after_one hS hA (h.ab b (List.mem_cons_of_mem _ hb)).1 pa (h.ab b (List.mem_cons_of_mem _ hb)).2 (hp.1 b hb)
 refine ⟨hS.doA hA pa, ⟨fun b hb => ⟨(h.ab b (List.mem_cons_of_mem _ hb)).1, (one b hb).2.1⟩, ?_⟩⟩
 refine hp.2.imp_of_mem fun {x y} hx hy q => ?_
 unfold tch at q ⊢
 rw [(one x hx).1, (one y hy).1]
 exact q
theorem GOk.snd {r : Rite} : ∀ {g : List RAct} {s : Scene}, Snd r s → GOk r s g → Snd r (doG s g)
  | [], s, hS, _ => hS
  | a :: g, s, hS, h => by
    obtain ⟨h1, h2⟩ := h.tail hS
    show Snd r (doG (doV s a.who.toNat a) g)
    exact GOk.snd h1 h2
end
section
variable {c : Nat} {H : Heap}
section
variable {r : Rite} {s : Scene} {w : Nat} {a : RAct}
theorem may_ok (hS : Snd r s) (hW : WB r) (hA : AB r w a) (hH : 0 < H.length) :
  gcall KC (geval KC) 105 [.pure (.agg (stRow r s)), .pure (.agg a.row)] c H = some (.pure (.bool (posV r s w a)), H) := by
 refine bor_c rfl rfl rfl rfl rfl hH fun H hH => ?_
 refine WPv_eq (call_enter0 KC needT Tryz.func105 rfl rfl good105 (by simp) hH ?_)
 have W := fun (k : Nat) (hk : 1 ≤ k ∧ k ≤ 8) c (H : Heap) (hH : 0 < H.length) => way_ok (c := c) (H := H) hk hH
 have W1 := W 1 (by omega)
 have W2 := W 2 (by omega)
 have W3 := W 3 (by omega)
 have W4 := W 4 (by omega)
 have W5 := W 5 (by omega)
 have W6 := W 6 (by omega)
 have W7 := W 7 (by omega)
 have W8 := W 8 (by omega)
 simp at W1 W2 W3 W4 W5 W6 W7 W8
 rcases kinds8 hA.kind with k | k | k | k | k | k | k | k
 ·have M := fun c (H : Heap) (hH : 0 < H.length) => mayStep_ok (c := c) (H := H) hS hW hA k hH
  rw [actRow, k] at M ⊢
  unfold stRow at M ⊢
  simp [W1, M, gleave_free]
 ·have M := fun c (H : Heap) (hH : 0 < H.length) => mayTake_ok (c := c) (H := H) hS hA k hH
  rw [actRow, k] at M ⊢
  unfold stRow at M ⊢
  simp [W2, M, gleave_free]
 ·have M := fun c (H : Heap) (hH : 0 < H.length) => mayLay_ok (c := c) (H := H) hS hA k hH
  rw [actRow, k] at M ⊢
  unfold stRow at M ⊢
  simp [W3, M, gleave_free]
 ·have M := fun c (H : Heap) (hH : 0 < H.length) => mayGive_ok (c := c) (H := H) hS hW hA k hH
  rw [actRow, k] at M ⊢
  unfold stRow at M ⊢
  simp [W4, M, gleave_free]
 ·have M := fun c (H : Heap) (hH : 0 < H.length) => mayWipe_ok (c := c) (H := H) hS hA k hH
  rw [actRow, k] at M ⊢
  unfold stRow at M ⊢
  simp [W5, M, gleave_free]
 ·have M := fun c (H : Heap) (hH : 0 < H.length) => mayPour_ok (c := c) (H := H) hS hA k hH
  rw [actRow, k] at M ⊢
  unfold stRow at M ⊢
  simp [W6, M, gleave_free]
 ·have M := fun c (H : Heap) (hH : 0 < H.length) => mayCover_ok (c := c) (H := H) hS hA k hH
  rw [actRow, k] at M ⊢
  unfold stRow at M ⊢
  simp [W7, M, gleave_free]
 ·have M := fun c (H : Heap) (hH : 0 < H.length) => mayOpen_ok (c := c) (H := H) hS hA k hH
  rw [actRow, k] at M ⊢
  unfold stRow at M ⊢
  simp [W8, M, gleave_free]
def touchP (s : Scene) (w : Nat) (a : RAct) : List (Int × Int) :=
 if a.kind = 1 then [(0, a.who), (2, s.people.getD w 0), (2, a.cell)]
 else if a.kind = 2 then [(0, a.who), (1, a.thing)]
 else if a.kind = 4 then [(0, a.who), (0, a.other), (1, handAt s.hands w a.hand)]
 else if a.kind = 5 ∨ a.kind = 6 then [(0, a.who), (1, handAt s.hands w (1 - a.hand)), (1, handAt s.hands w a.hand)]
 else [(0, a.who), (1, handAt s.hands w a.hand)]
def pairRow (x : Int × Int) : List PV := [.int .i64 x.1, .int .i64 x.2]
theorem touchesP_ok (hS : Snd r s) (hA : AB r w a) (hH : 0 < H.length) :
  gcall KC (geval KC) 134 [.pure (.agg (stRow r s)), .pure (.agg a.row)] c H = some (.pure (.slice ((touchP s w a).map pairRow)), H) := by
 refine WPv_eq (call_enter KC needT Tryz.func134 rfl rfl good134 rfl rfl rfl (by simp) hH ?_)
 have hwp : w < s.people.length := by rw [hS.pl]; exact hA.wl
 have E := fun c (H : Heap) (hH : 0 < H.length) => held_ok (c := c) (H := H) hS.toScB hA hH
 have G := fun c (H : Heap) (hH : 0 < H.length) => beside_ok (c := c) (H := H) hS.toScB hA hH
 have hnl : ¬ H.length ≤ H.length - 1 := by omega
 have hp := getD_lt (d := 0) hwp
 unfold touchP
 rcases kinds8 hA.kind with k | k | k | k | k | k | k | k
 ·rw [actRow, k] at E G ⊢
  unfold stRow at E G ⊢
  simp [hA.who] at E G
  simp [hA.who, hwp, irow, E, G, pairRow, hp, gleave_free, hnl]
 ·rw [actRow, k] at E G ⊢
  unfold stRow at E G ⊢
  simp [hA.who] at E G
  simp [hA.who, hwp, irow, E, G, pairRow, hp, gleave_free, hnl]
 ·rw [actRow, k] at E G ⊢
  unfold stRow at E G ⊢
  simp [hA.who] at E G
  simp [hA.who, hwp, irow, E, G, pairRow, hp, gleave_free, hnl]
 ·rw [actRow, k] at E G ⊢
  unfold stRow at E G ⊢
  simp [hA.who] at E G
  simp [hA.who, hwp, irow, E, G, pairRow, hp, gleave_free, hnl]
 ·rw [actRow, k] at E G ⊢
  unfold stRow at E G ⊢
  simp [hA.who] at E G
  simp [hA.who, hwp, irow, E, G, pairRow, hp, gleave_free, hnl]
 ·rw [actRow, k] at E G ⊢
  unfold stRow at E G ⊢
  simp [hA.who] at E G
  simp [hA.who, hwp, irow, E, G, pairRow, hp, gleave_free, hnl]
 ·rw [actRow, k] at E G ⊢
  unfold stRow at E G ⊢
  simp [hA.who] at E G
  simp [hA.who, hwp, irow, E, G, pairRow, hp, gleave_free, hnl]
 ·rw [actRow, k] at E G ⊢
  unfold stRow at E G ⊢
  simp [hA.who] at E G
  simp [hA.who, hwp, irow, E, G, pairRow, hp, gleave_free, hnl]
theorem touchP_apa {s : Scene} {w v : Nat} {a b : RAct} : Apa (touchV s w a) (touchV s v b) ↔ ∀ x ∈ touchP s w a, x ∉ touchP s v b := by
 have mem : ∀ (w : Nat) (a : RAct) (x : Int × Int), x ∈ touchP s w a ↔ (x.1 = 0 ∧ x.2 ∈ (touchV s w a).people) ∨ (x.1 = 1 ∧ x.2 ∈ (touchV s w a).things) ∨ (x.1 = 2 ∧ x.2 ∈ (touchV s w a).cells) := fun w a x => by
  obtain ⟨p, q⟩ := x
  unfold touchP
  rw [touchV_def]
  simp only [heldV_eq]
  repeat' split
  all_goals simp only [List.mem_cons, List.not_mem_nil, or_false, Prod.mk.injEq]
  all_goals grind
 constructor
 ·intro h x hx hy
  rw [mem] at hx hy
  rcases hx with ⟨e, hx⟩ | ⟨e, hx⟩ | ⟨e, hx⟩
  ·rcases hy with ⟨_, hy⟩ | ⟨e', hy⟩ | ⟨e', hy⟩
   ·exact h.ap _ hx hy
   ·omega
   ·omega
  ·rcases hy with ⟨e', hy⟩ | ⟨_, hy⟩ | ⟨e', hy⟩
   ·omega
   ·exact h.at' _ hx hy
   ·omega
  ·rcases hy with ⟨e', hy⟩ | ⟨e', hy⟩ | ⟨_, hy⟩
   ·omega
   ·omega
   ·exact h.ac _ hx hy
 ·intro h
  refine ⟨fun x h1 h2 => h (0, x) ((mem _ _ _).2 (.inl ⟨rfl, h1⟩)) ((mem _ _ _).2 (.inl ⟨rfl, h2⟩)), fun x h1 h2 => h (1, x) ((mem _ _ _).2 (.inr (.inl ⟨rfl, h1⟩))) ((mem _ _ _).2 (.inr (.inl ⟨rfl, h2⟩))), fun x h1 h2 => h (2, x) ((mem _ _ _).2 (.inr (.inr ⟨rfl, h1⟩))) ((mem _ _ _).2 (.inr (.inr ⟨rfl, h2⟩)))⟩
end
end
section
variable {c : Nat} {H : Heap}
theorem bits_or : ∀ q : Fin 16, ∀ b ∈ [(1 : Int), 2, 4], bor .i64 ((q.1 : Nat) : Int) b = if ((IntKind.i64.wrap (((q.1 : Nat) : Int).tdiv b)).tmod 2 == 1) then ((q.1 : Nat) : Int) else IntKind.i64.wrap (((q.1 : Nat) : Int) + b) := by decide +kernel
theorem bits_andn : ∀ q : Fin 16, ∀ b ∈ [(1 : Int), 2, 4], bandn ((q.1 : Nat) : Int) b = if ((IntKind.i64.wrap (((q.1 : Nat) : Int).tdiv b)).tmod 2 == 1) then IntKind.i64.wrap (((q.1 : Nat) : Int) - b) else ((q.1 : Nat) : Int) := by decide +kernel
theorem bits_3 : ∀ q : Fin 16, bandn ((q.1 : Nat) : Int) 3 = bandn (bandn ((q.1 : Nat) : Int) 2) 1 ∧ 0 ≤ bandn ((q.1 : Nat) : Int) 2 ∧ bandn ((q.1 : Nat) : Int) 2 < 16 := by decide +kernel
section
variable {ts : List Spot} {t : Nat} {b : Int}
theorem setV_on (ht : t < ts.length) (hs : 0 ≤ (ts.getD t spot0).state ∧ (ts.getD t spot0).state < 16) (hb : b = 1 ∨ b = 2 ∨ b = 4) :
  setV ts t b true = ts.set t ⟨(ts.getD t spot0).cell, bor .i64 (ts.getD t spot0).state b⟩ := by
 obtain ⟨q, hq⟩ := Int.eq_ofNat_of_zero_le hs.1
 have B := bits_or ⟨q, by omega⟩ b (by simp; exact hb)
 simp only [← hq] at B
 have h0 : decide ((0 : Int) ≤ t) = true := by simp
 rw [setV_def, hasV_def, h0, Bool.true_and]
 simp only [Int.toNat_natCast]
 rw [B]
 by_cases h : ((IntKind.i64.wrap ((ts.getD t spot0).state.tdiv b)).tmod 2 == 1) = true
 ·rw [if_pos h, if_pos h]
  exact (set_self ts t spot0).symm
 ·rw [if_neg h, if_neg h]; simp
theorem setV_off (ht : t < ts.length) (hs : 0 ≤ (ts.getD t spot0).state ∧ (ts.getD t spot0).state < 16) (hb : b = 1 ∨ b = 2 ∨ b = 4) :
  setV ts t b false = ts.set t ⟨(ts.getD t spot0).cell, bandn (ts.getD t spot0).state b⟩ := by
 obtain ⟨q, hq⟩ := Int.eq_ofNat_of_zero_le hs.1
 have B := bits_andn ⟨q, by omega⟩ b (by simp; exact hb)
 simp only [← hq] at B
 have h0 : decide ((0 : Int) ≤ t) = true := by simp
 rw [setV_def, hasV_def, h0, Bool.true_and]
 simp only [Int.toNat_natCast]
 rw [B]
 split
 ·rename_i h
  have h' : ¬ ((IntKind.i64.wrap ((ts.getD t spot0).state.tdiv b)).tmod 2 == 1) = true := by rw [h]; simp
  rw [if_neg h']
  exact (set_self ts t spot0).symm
 ·rename_i h
  have h' : ((IntKind.i64.wrap ((ts.getD t spot0).state.tdiv b)).tmod 2 == 1) = true := by simpa using h
  rw [if_pos h']; rfl
theorem setV_off3 (ht : t < ts.length) (hs : 0 ≤ (ts.getD t spot0).state ∧ (ts.getD t spot0).state < 16) :
  setV (setV ts t 2 false) t 1 false = ts.set t ⟨(ts.getD t spot0).cell, bandn (ts.getD t spot0).state 3⟩ := by
 obtain ⟨q, hq⟩ := Int.eq_ofNat_of_zero_le hs.1
 obtain ⟨b1, b2, b3⟩ := bits_3 ⟨q, by omega⟩
 simp only [← hq] at b1 b2 b3
 rw [setV_off ht hs (.inr (.inl rfl))]
 have e : (ts.set t ⟨(ts.getD t spot0).cell, bandn (ts.getD t spot0).state 2⟩).getD t spot0 = ⟨(ts.getD t spot0).cell, bandn (ts.getD t spot0).state 2⟩ := by rw [getDs ht, if_pos rfl]
 rw [setV_off (by simpa using ht) (by rw [e]; exact ⟨b2, b3⟩) (.inl rfl), e, b1]
 simp
end
def stG (r : Rite) (n1 n2 n3 : Nm) (s : Scene) : GV := .agg [.pure (.int .i64 r.wide), .pure (.int .i64 r.deep), .pure (.slice (r.people.map Person.row)), .pure (.slice (r.things.map Thing.row)), .pure (.slice (r.seen.map irow)), .pure (.slice (r.lapses.map irow)), .pure (.slice (r.acts.map RAct.row)), .hdr n1 1 s.people.length 0 s.people.length, .hdr n2 2 s.hands.length 0 s.hands.length, .hdr n3 2 s.things.length 0 s.things.length]
section
variable {r : Rite} {s : Scene} {w : Nat} {a : RAct} {n1 n2 n3 : Nm} {v1 v2 v3 : Nat}
theorem stG_rd (h : ScAt H n1 n2 n3 v1 v2 v3 s) : rdG H (stG r n1 n2 n3 s) (.agg (stRow r s)) := by
 unfold stG stRow
 rw [rdG_agg]
 simp only [rdL_cons, rdL_nil, rdC_pure, and_true, true_and]
 exact ⟨⟨_, v1, false, h.g1, h.e1, by simp, rfl, rfl, rfl⟩, ⟨_, v2, false, h.g2, h.e2, by simp, rfl, rfl, rfl⟩, ⟨_, v3, false, h.g3, h.e3, by simp, rfl, rfl, rfl⟩⟩
theorem heldB_ok (h : ScAt H n1 n2 n3 v1 v2 v3 s) (hw : w < s.hands.length) (h1 : a.who = w) (h2 : a.hand = 0 ∨ a.hand = 1) (hH : 0 < H.length) :
  gcall KC (geval KC) 154 [stG r n1 n2 n3 s, .pure (.agg a.row)] c H = some (.pure (.int .i64 (handAt s.hands w a.hand)), H) :=
 bor_flat KC rfl rfl (frz2 (stG_rd h) (show rdG H (.pure (.agg a.row)) (.agg a.row) from rfl)) rfl hH (fun H hH => held_ok0 (c := c) hw h1 h2 hH) rfl
theorem besideB_ok (h : ScAt H n1 n2 n3 v1 v2 v3 s) (hw : w < s.hands.length) (h1 : a.who = w) (h2 : a.hand = 0 ∨ a.hand = 1) (hH : 0 < H.length) :
  gcall KC (geval KC) 153 [stG r n1 n2 n3 s, .pure (.agg a.row)] c H = some (.pure (.int .i64 (handAt s.hands w (1 - a.hand))), H) :=
 bor_flat KC rfl rfl (frz2 (stG_rd h) (show rdG H (.pure (.agg a.row)) (.agg a.row) from rfl)) rfl hH (fun H hH => beside_ok0 (c := c) hw h1 h2 hH) rfl
theorem freeB_ok (h : ScAt H n1 n2 n3 v1 v2 v3 s) {o : Nat} (ho : o < s.hands.length) (hH : 0 < H.length) :
  gcall KC (geval KC) 156 [stG r n1 n2 n3 s, .pure (.int .i64 o)] c H = some (.pure (.int .i64 (takerV s.hands o)), H) :=
 bor_flat KC rfl rfl (frz2 (stG_rd h) (show rdG H (.pure (.int .i64 o)) (.int .i64 o) from rfl)) rfl hH (fun H hH => free_ok0 (c := c) ho hH) rfl
def DoR (H : Heap) (f : Nat) (r : Rite) (n1 n2 n3 : Nm) (s : Scene) (w : Nat) (a : RAct) (c : Nat) : Prop :=
 ∃ v1' v2' v3', v1' ≤ s.people.length ∧ v2' ≤ s.hands.length ∧ v3' ≤ s.things.length ∧
  gcall KC (geval KC) f [stG r n1 n2 n3 s, .pure (.agg a.row)] c H = some (.pure (.tuple []), scSet H n1 n2 n3 v1' v2' v3' (doV s w a))
theorem doP_ok (h : ScSelf H n1 n2 n3 v1 v2 v3 s) (hb : DoB s w a) (hst : ∀ t : Nat, t < s.things.length → 0 ≤ (s.things.getD t spot0).state ∧ (s.things.getD t spot0).state < 16) (hH : 0 < H.length) :
  (a.kind = 1 → DoR H 136 r n1 n2 n3 s w a c) ∧ (a.kind = 2 → DoR H 138 r n1 n2 n3 s w a c) ∧ (a.kind = 3 → DoR H 140 r n1 n2 n3 s w a c) ∧ (a.kind = 4 → DoR H 142 r n1 n2 n3 s w a c) ∧
  (a.kind = 5 → DoR H 144 r n1 n2 n3 s w a c) ∧ (a.kind = 6 → DoR H 146 r n1 n2 n3 s w a c) ∧ (a.kind = 7 → DoR H 148 r n1 n2 n3 s w a c) ∧ (a.kind = 8 → DoR H 150 r n1 n2 n3 s w a c) := by
 have l1 := Heap.get_lt h.g1
 have l2 := Heap.get_lt h.g2
 have l3 := Heap.get_lt h.g3
 have d1 : ¬ n1.1 = H.length := by omega
 have d2 : ¬ n2.1 = H.length := by omega
 have d3 : ¬ n3.1 = H.length := by omega
 have hp := hb.hp
 have hh := hb.hh
 have hwho := hb.who
 have hg : s.hands.getD w hands0 = s.hands[w] := getD_lt hh
 have hgp : s.people.getD w 0 = s.people[w] := getD_lt hp
 have G23 : ∀ b, (H.set n2 b).get n3 = H.get n3 := fun b => Heap.get_set_other b h.n23.symm
 have G32 : ∀ b, (H.set n3 b).get n2 = H.get n2 := fun b => Heap.get_set_other b h.n23
 have C32 : ∀ x y, (H.set n3 x).set n2 y = (H.set n2 y).set n3 x := fun x y => Heap.set_comm h.n23.symm
 have G31 : ∀ b, (H.set n3 b).get n1 = H.get n1 := fun b => Heap.get_set_other b h.n13
 have S2 : ∀ x, (H.set n1 x).set n2 (.arr 2 (s.hands.map Hands.row) v2 false) = H.set n1 x := fun x => by rw [Heap.set_comm h.n12, h.s2]
 have S3 : ∀ x, (H.set n1 x).set n3 (.arr 2 (s.things.map Spot.row) v3 false) = H.set n1 x := fun x => by rw [Heap.set_comm h.n13, h.s3]
 have S4 : ∀ x, (H.set n2 x).set n3 (.arr 2 (s.things.map Spot.row) v3 false) = H.set n2 x := fun x => by rw [Heap.set_comm h.n23, h.s3]
 have s1 := h.s1
 have s2 := h.s2
 have s3 := h.s3
 have G22 : ∀ b, (H.set n2 b).get n2 = some b := fun b => Heap.get_set' l2
 have G33 : ∀ b, (H.set n3 b).get n3 = some b := fun b => Heap.get_set' l3
 have E := fun c (f : Fr) => heldB_ok (r := r) (c := c) (a := a) (ScAt.up (fr := f) h.toScAt) hh hwho hb.hand (by simp)
 have G := fun c (f : Fr) => besideB_ok (r := r) (c := c) (a := a) (ScAt.up (fr := f) h.toScAt) hh hwho hb.hand (by simp)
 have heq : handAt s.hands w 0 = s.hands[w].l ∧ handAt s.hands w 1 = s.hands[w].r := by unfold handAt; rw [hg]; simp
 refine ⟨fun k => ?_, fun k => ?_, fun k => ?_, fun k => ?_, fun k => ?_, fun k => ?_, fun k => ?_, fun k => ?_⟩
 ·have hd := doV_1 (s := s) (w := w) k
  refine ⟨s.people.length, v2, v3, Nat.le_refl _, h.e2, h.e3, WPv_eq (call_enterR KC needT Tryz.func136 rfl rfl good136 rfl rfl rfl (by simp) hH ?_)⟩
  rw [actRow]
  unfold stG
  simp [d1, d2, d3, h.g1, h.g2, h.g3, h.e1, h.e2, h.e3, hp, hh, hwho, irow, splice, gleave_free, hd, scSet, S2, S3]
 ·obtain ⟨t, et, ht⟩ := hb.take k
  have hd := doV_2 (s := s) (w := w) k
  have hgt := getD_lt (d := spot0) ht
  rw [et, Int.toNat_natCast, hgt] at hd
  simp only [putHand, hg] at hd
  refine ⟨v1, s.hands.length, s.things.length, h.e1, Nat.le_refl _, Nat.le_refl _, WPv_eq (call_enterR KC needT Tryz.func138 rfl rfl good138 rfl rfl rfl (by simp) hH ?_)⟩
  rw [actRow]
  unfold stG
  rcases hb.hand with z | z
  ·rw [z] at hd
   simp at hd
   simp [d1, d2, d3, h.g1, h.g2, h.g3, h.e1, h.e2, h.e3, hp, hh, hwho, et, z, ht, Hands.row, Spot.row, splice, gleave_free, hd, scSet, G23, s1]
  ·rw [z] at hd
   simp at hd
   simp [d1, d2, d3, h.g1, h.g2, h.g3, h.e1, h.e2, h.e3, hp, hh, hwho, et, z, ht, Hands.row, Spot.row, splice, gleave_free, hd, scSet, G23, s1]
 ·obtain ⟨t, et, ht⟩ := hb.held (by omega)
  rw [heldV_eq] at et
  have hd := doV_3 (s := s) (w := w) k
  have hgt := getD_lt (d := spot0) ht
  rw [et, Int.toNat_natCast, hgt, hgp] at hd
  simp only [putHand, hg] at hd
  refine ⟨v1, s.hands.length, s.things.length, h.e1, Nat.le_refl _, Nat.le_refl _, WPv_eq (call_enterR KC needT Tryz.func140 rfl rfl good140 rfl rfl rfl (by simp) hH ?_)⟩
  rw [et, actRow] at E
  rw [actRow]
  unfold stG at E ⊢
  simp [hwho] at E
  rcases hb.hand with z | z
  ·rw [z] at hd E
   simp at hd
   simp [d1, d2, d3, h.g1, h.g2, h.g3, h.e1, h.e2, h.e3, hp, hh, hwho, E, z, ht, irow, Hands.row, Spot.row, splice, gleave_free, hd, scSet, G32, C32, s1]
  ·rw [z] at hd E
   simp at hd
   simp [d1, d2, d3, h.g1, h.g2, h.g3, h.e1, h.e2, h.e3, hp, hh, hwho, E, z, ht, irow, Hands.row, Spot.row, splice, gleave_free, hd, scSet, G32, C32, s1]
 ·obtain ⟨t, et, ht⟩ := hb.held (by omega)
  rw [heldV_eq] at et
  obtain ⟨o, eo, ho, how, htk⟩ := hb.give k
  have hgo := getD_lt (d := hands0) ho
  have hsw : ∀ x, (s.hands.set o x).getD w hands0 = s.hands[w] := fun x => by rw [getDs hh, if_neg how, hg]
  have hd := doV_4 (s := s) (w := w) k
  rw [et, eo, Int.toNat_natCast] at hd
  have T := fun c (f : Fr) => freeB_ok (r := r) (c := c) (ScAt.up (fr := f) h.toScAt) ho (by simp)
  rw [et, actRow] at E
  unfold stG at E T
  simp [hwho, eo] at E
  simp only [putHand, hgo, hsw] at hd
  rcases htk with y | y
  ·rw [y] at hd T
   refine ⟨v1, s.hands.length, v3, h.e1, Nat.le_refl _, h.e3, WPv_eq (call_enterR KC needT Tryz.func142 rfl rfl good142 rfl rfl rfl (by simp) hH ?_)⟩
   rw [actRow]
   unfold stG
   rcases hb.hand with z | z
   ·rw [z] at hd E
    simp at hd
    simp [d1, d2, d3, h.g1, h.g2, h.g3, h.e1, h.e2, h.e3, hp, hh, hwho, eo, E, T, z, ht, ho, irow, Hands.row, Spot.row, splice, gleave_free, hd, scSet, G22, G23, s1, S4, how, List.getElem_set_ne]
   ·rw [z] at hd E
    simp at hd
    simp [d1, d2, d3, h.g1, h.g2, h.g3, h.e1, h.e2, h.e3, hp, hh, hwho, eo, E, T, z, ht, ho, irow, Hands.row, Spot.row, splice, gleave_free, hd, scSet, G22, G23, s1, S4, how, List.getElem_set_ne]
  ·rw [y] at hd T
   refine ⟨v1, s.hands.length, v3, h.e1, Nat.le_refl _, h.e3, WPv_eq (call_enterR KC needT Tryz.func142 rfl rfl good142 rfl rfl rfl (by simp) hH ?_)⟩
   rw [actRow]
   unfold stG
   rcases hb.hand with z | z
   ·rw [z] at hd E
    simp at hd
    simp [d1, d2, d3, h.g1, h.g2, h.g3, h.e1, h.e2, h.e3, hp, hh, hwho, eo, E, T, z, ht, ho, irow, Hands.row, Spot.row, splice, gleave_free, hd, scSet, G22, G23, s1, S4, how, List.getElem_set_ne]
   ·rw [z] at hd E
    simp at hd
    simp [d1, d2, d3, h.g1, h.g2, h.g3, h.e1, h.e2, h.e3, hp, hh, hwho, eo, E, T, z, ht, ho, irow, Hands.row, Spot.row, splice, gleave_free, hd, scSet, G22, G23, s1, S4, how, List.getElem_set_ne]
 ·obtain ⟨u, eu, hu⟩ := hb.oth (.inl k)
  rw [heldV_eq] at eu
  have hd := doV_5 (s := s) (w := w) k
  have hgt := getD_lt (d := spot0) hu
  rw [eu, Int.toNat_natCast, setV_on hu (hst u hu) (.inl rfl), hgt] at hd
  rw [eu, actRow] at G
  unfold stG at G
  refine ⟨v1, v2, s.things.length, h.e1, h.e2, Nat.le_refl _, WPv_eq (call_enterR KC needT Tryz.func144 rfl rfl good144 rfl rfl rfl (by simp) hH ?_)⟩
  rw [actRow]
  unfold stG
  simp [d1, d2, d3, h.g1, h.g2, h.g3, h.e1, h.e2, h.e3, hp, hh, G, hu, Spot.row, splice, gleave_free, hd, scSet, s1, s2]
 ·obtain ⟨t, et, ht⟩ := hb.held (by omega)
  rw [heldV_eq] at et
  obtain ⟨u, eu, hu⟩ := hb.oth (.inr k)
  rw [heldV_eq] at eu
  have hd := doV_6 (s := s) (w := w) k
  have hgt := getD_lt (d := spot0) ht
  have hst2 := hst
  have S := states_set (t := t) (bit := 2) (on := false) hst ht (.inr (.inl rfl))
  have S' := states_set (ts := setV s.things t 2 false) (t := t) (bit := 1) (on := false) (fun j hj => (S.2 j (by rw [S.1] at hj; exact hj)).2) (by rw [S.1]; exact ht) (.inl rfl)
  rw [et, eu, Int.toNat_natCast, Int.toNat_natCast, setV_on (by rw [S'.1, S.1]; exact hu) (S'.2 u (by rw [S.1]; exact hu)).2 (.inr (.inl rfl)), setV_off3 ht (hst t ht), hgt] at hd
  rw [et, actRow] at E
  unfold stG at E
  obtain ⟨X, hX⟩ : ∃ X, s.things.set t ⟨s.things[t].cell, bandn s.things[t].state 3⟩ = X := ⟨_, rfl⟩
  have hXl : X.length = s.things.length := by rw [← hX]; simp
  have huX : u < X.length := by omega
  rw [hX, getD_lt huX] at hd
  have hXr : (s.things.map Spot.row).set t [.int .i64 s.things[t].cell, .int .i64 (bandn s.things[t].state 3)] = X.map Spot.row := by
   rw [← hX, List.map_set]; rfl
  have SX : ScAt (H.set n3 (.arr 2 (X.map Spot.row) s.things.length false)) n1 n2 n3 v1 v2 s.things.length { s with things := X } :=
   ⟨h.n12, h.n13, h.n23, (G31 _).trans h.g1, (G32 _).trans h.g2, G33 _, h.e1, h.e2, by show s.things.length ≤ X.length; omega⟩
  have G' := fun c (f : Fr) => besideB_ok (r := r) (c := c) (a := a) (ScAt.up (fr := f) SX) hh hwho hb.hand (by simp)
  simp only [eu] at G'
  rw [actRow] at G'
  unfold stG at G'
  simp only [hXl] at G'
  refine ⟨v1, v2, s.things.length, h.e1, h.e2, Nat.le_refl _, WPv_eq (call_enterR KC needT Tryz.func146 rfl rfl good146 rfl rfl rfl (by simp) hH ?_)⟩
  rw [actRow]
  unfold stG
  simp [d1, d2, d3, h.g1, h.g2, h.g3, h.e1, h.e2, h.e3, hp, hh, E, ht, hXr, G', G33, hu, huX, hXl, Spot.row, splice, gleave_free, hd, scSet, s1, s2]
 ·obtain ⟨t, et, ht⟩ := hb.held (by omega)
  rw [heldV_eq] at et
  have hd := doV_7 (s := s) (w := w) k
  have hgt := getD_lt (d := spot0) ht
  rw [et, Int.toNat_natCast, setV_on ht (hst t ht) (.inr (.inr rfl)), hgt] at hd
  rw [et, actRow] at E
  unfold stG at E
  refine ⟨v1, v2, s.things.length, h.e1, h.e2, Nat.le_refl _, WPv_eq (call_enterR KC needT Tryz.func148 rfl rfl good148 rfl rfl rfl (by simp) hH ?_)⟩
  rw [actRow]
  unfold stG
  simp [d1, d2, d3, h.g1, h.g2, h.g3, h.e1, h.e2, h.e3, hp, hh, E, ht, Spot.row, splice, gleave_free, hd, scSet, s1, s2]
 ·obtain ⟨t, et, ht⟩ := hb.held (by omega)
  rw [heldV_eq] at et
  have hd := doV_8 (s := s) (w := w) k
  have hgt := getD_lt (d := spot0) ht
  rw [et, Int.toNat_natCast, setV_off ht (hst t ht) (.inr (.inr rfl)), hgt] at hd
  rw [et, actRow] at E
  unfold stG at E
  refine ⟨v1, v2, s.things.length, h.e1, h.e2, Nat.le_refl _, WPv_eq (call_enterR KC needT Tryz.func150 rfl rfl good150 rfl rfl rfl (by simp) hH ?_)⟩
  rw [actRow]
  unfold stG
  simp [d1, d2, d3, h.g1, h.g2, h.g3, h.e1, h.e2, h.e3, hp, hh, E, ht, Spot.row, splice, gleave_free, hd, scSet, s1, s2]
end
end
def Fr.srt (f : Fr) : Prop := (f.map (·.1)).Pairwise (· < ·)
theorem Fr.ins_mem {q : Nat} {b : Blk} {x : Nat × Blk} : ∀ {f : Fr}, f.srt → x ∈ f.ins q b → x = (q, b) ∨ (x ∈ f ∧ x.1 ≠ q)
  | [], _, h => by simp at h; exact .inl h
  | (k, c) :: r, hs, h => by
    unfold Fr.srt at hs
    rw [List.map_cons, List.pairwise_cons] at hs
    simp only [Fr.ins_cons] at h
    have hlt : ∀ y ∈ r, k < y.1 := fun y hy => hs.1 y.1 (List.mem_map_of_mem hy)
    split at h
    · rename_i e; subst e
      rcases List.mem_cons.1 h with h | h
      · exact .inl h
      · exact .inr ⟨List.mem_cons_of_mem _ h, fun e => by have := hlt x h; omega⟩
    · rename_i ne
      split at h
      · rename_i lt
        rcases List.mem_cons.1 h with h | h
        · exact .inl h
        · refine .inr ⟨h, fun e => ?_⟩
          rcases List.mem_cons.1 h with h | h
          · subst h; exact ne e.symm
          · have := hlt x h; omega
      · rcases List.mem_cons.1 h with h | h
        · subst h; exact .inr ⟨List.mem_cons_self .., fun e => ne e.symm⟩
        · rcases Fr.ins_mem (f := r) hs.2 h with h | h
          · exact .inl h
          · exact .inr ⟨List.mem_cons_of_mem _ h.1, h.2⟩
theorem Fr.ins_keys {q : Nat} {b : Blk} : ∀ {f : Fr} {k : Nat}, k ∈ (f.ins q b).map (·.1) → k = q ∨ k ∈ f.map (·.1)
  | [], k, h => by simp at h; exact .inl h
  | (k0, c) :: r, k, h => by
    simp only [Fr.ins_cons] at h
    split at h
    · rename_i e; subst e
      simp only [List.map_cons, List.mem_cons] at h ⊢
      exact .inr h
    · split at h
      · simp only [List.map_cons, List.mem_cons] at h ⊢
        exact h
      · simp only [List.map_cons, List.mem_cons] at h ⊢
        rcases h with h | h
        · exact .inr (.inl h)
        · rcases Fr.ins_keys h with h | h
          · exact .inl h
          · exact .inr (.inr h)
theorem Fr.ins_srt {q : Nat} {b : Blk} : ∀ {f : Fr}, f.srt → (f.ins q b).srt
  | [], _ => by simp [Fr.srt]
  | (k, c) :: r, hs => by
    unfold Fr.srt at hs ⊢
    rw [List.map_cons, List.pairwise_cons] at hs
    simp only [Fr.ins_cons]
    split
    · rename_i e; subst e
      rw [List.map_cons, List.pairwise_cons]; exact hs
    · rename_i ne
      split
      · rename_i lt
        rw [List.map_cons, List.pairwise_cons, List.map_cons, List.pairwise_cons]
        refine ⟨fun y hy => ?_, hs⟩
        rcases List.mem_cons.1 hy with h | h
        · subst h; exact lt
        · have := hs.1 y h; simp only at *; omega
      · rw [List.map_cons, List.pairwise_cons]
        refine ⟨fun y hy => ?_, Fr.ins_srt (f := r) hs.2⟩
        rcases Fr.ins_keys hy with h | h
        · subst h; simp only at *; omega
        · exact hs.1 y h
theorem Fr.get_mem {q : Nat} {b : Blk} : ∀ {f : Fr}, f.get q = some b → (q, b) ∈ f
  | [], h => by simp at h
  | (k, c) :: r, h => by
    simp only [Fr.get_cons] at h
    split at h
    · rename_i e; subst e; cases h; exact List.mem_cons_self ..
    · exact List.mem_cons_of_mem _ (Fr.get_mem h)
theorem Fr.mem_get {q : Nat} {b : Blk} : ∀ {f : Fr}, f.srt → (q, b) ∈ f → f.get q = some b
  | [], _, h => by simp at h
  | (k, c) :: r, hs, h => by
    unfold Fr.srt at hs
    rw [List.map_cons, List.pairwise_cons] at hs
    simp only [Fr.get_cons]
    rcases List.mem_cons.1 h with h | h
    · cases h; simp
    · have := hs.1 q (List.mem_map_of_mem (f := (·.1)) h)
      rw [if_neg (by simp only at this; omega)]
      exact Fr.mem_get hs.2 h
theorem Fr.del_sub {q : Nat} : ∀ {f : Fr}, (f.del q).Sublist f
  | [] => .slnil
  | (k, c) :: r => by
    unfold Fr.del
    split
    · exact Fr.del_sub.cons _
    · exact Fr.del_sub.cons_cons _
theorem delAll_sub : ∀ {l : List Nat} {f : Fr}, (delAll l f).Sublist f
 | [], f => List.Sublist.refl f
 | q :: l, f => (delAll_sub (l := l)).trans Fr.del_sub
theorem delAll_srt {l : List Nat} {f : Fr} (h : f.srt) : (delAll l f).srt := h.sublist ((delAll_sub (l := l) (f := f)).map _)
theorem delAll_get {p : Nat} : ∀ {l : List Nat} {f : Fr}, (delAll l f).get p = if p ∈ l then none else f.get p
  | [], f => by simp [delAll]
  | q :: l, f => by
    unfold delAll
    rw [delAll_get, Fr.get_del]
    by_cases h1 : p ∈ l
    · simp [h1]
    · by_cases h2 : p = q
      · simp [h1, h2]
      · simp [h1, h2]
theorem noRefF_iff {nm : Nm} : ∀ {f : Fr}, noRefF nm f = true ↔ ∀ x ∈ f, noRefB nm x.2 = true
 | [] => by simp [noRefF]
 | x :: r => by simp [noRefF, noRefF_iff (f := r)]
theorem deadKeys_iff {L : Nat} {s : Slots} {fr : Fr} {p : Nat} : ∀ {g : Fr}, p ∈ deadKeys L s fr g ↔ (∃ b, (p, b) ∈ g) ∧ famKey p = true ∧ noRefS (L, p) s = true ∧ noRefF (L, p) fr = true
  | [] => by simp [deadKeys]
  | x :: r => by
    obtain ⟨k, b⟩ := x
    simp only [deadKeys]
    by_cases h : (famKey k && noRefS (L, k) s && noRefF (L, k) fr) = true
    · rw [if_pos h, List.mem_cons, deadKeys_iff]
      simp only [Bool.and_eq_true] at h
      constructor
      · rintro (rfl | ⟨⟨b', hb⟩, h2⟩)
        · exact ⟨⟨b, List.mem_cons_self ..⟩, h.1.1, h.1.2, h.2⟩
        · exact ⟨⟨b', List.mem_cons_of_mem _ hb⟩, h2⟩
      · rintro ⟨⟨b', hb⟩, h2⟩
        rcases List.mem_cons.1 hb with e | e
        · cases e; exact .inl rfl
        · exact .inr ⟨⟨b', e⟩, h2⟩
    · rw [if_neg h, deadKeys_iff]
      constructor
      · rintro ⟨⟨b', hb⟩, h2⟩; exact ⟨⟨b', List.mem_cons_of_mem _ hb⟩, h2⟩
      · rintro ⟨⟨b', hb⟩, h2⟩
        rcases List.mem_cons.1 hb with e | e
        · cases e; exact absurd (by simp [h2]) h
        · exact ⟨⟨b', e⟩, h2⟩
theorem gcol_F {s : Slots} {F : Fr} {H : Heap} {nt : Nat} (hH : 0 < H.length) : ∃ F', gcol ⟨s, F :: H, nt⟩ = some ⟨s, F' :: H, nt⟩ ∧ (F.srt → F'.srt) ∧ (∀ x ∈ F', x ∈ F) ∧
  (∀ k, famKey k = false → F'.get k = F.get k) ∧ (∀ k x, x ∈ F → noRefB (H.length, k) x.2 = false → F'.get k = F.get k) ∧
  (∀ k, famKey k = true → noRefS (H.length, k) s = true → (∀ x ∈ F, noRefB (H.length, k) x.2 = true) → F'.get k = none) := by
 refine ⟨delAll (deadKeys H.length s F F) F, ?_, delAll_srt, fun x hx => delAll_sub.subset hx, fun k hk => ?_, fun k x hx hr => ?_, fun k hk hs hr => ?_⟩
 ·unfold gcol
  simp only
  rw [if_neg (by omega)]
 ·rw [delAll_get, if_neg]
  rw [deadKeys_iff]
  rintro ⟨_, h, _⟩
  rw [hk] at h; cases h
 ·rw [delAll_get, if_neg]
  rw [deadKeys_iff]
  rintro ⟨_, _, _, h⟩
  rw [noRefF_iff] at h
  rw [h x hx] at hr; cases hr
 ·rw [delAll_get]
  by_cases h : k ∈ deadKeys H.length s F F
  ·rw [if_pos h]
  ·rw [if_neg h]
   cases hg : F.get k with
   | none => rfl
   | some b => exact absurd (deadKeys_iff.2 ⟨⟨b, Fr.get_mem hg⟩, hk, hs, noRefF_iff.2 hr⟩) h
def key1 : Nat → Nat | 0 => 90139 | 1 => 1000000024631 | _ => 2000000024631
def key2 : Nat → Nat | 0 => 110619 | 1 => 1000000041015 | _ => 2000000041015
def key3 : Nat → Nat | 0 => 217115 | 1 => 1000000057399 | _ => 2000000057399
def nxt : Nat → Nat | 1 => 2 | _ => 1
def riteB (L : Nat) (r0 : Rite) (acts : List RAct) : Blk := .box [.pure (.int .i64 r0.wide), .pure (.int .i64 r0.deep), .hdr (L, 188441) 2 r0.people.length 0 r0.people.length, .hdr (L, 339993) 5 r0.things.length 0 r0.things.length, .nils, apS (L, 393241) 1 (r0.lapses.map irow), apS (L, 62) 9 (acts.map RAct.row)]
def sceneB (L q : Nat) (s : Scene) : Blk := .box [.hdr (L, key1 q) 1 s.people.length 0 s.people.length, .hdr (L, key2 q) 2 s.hands.length 0 s.hands.length, .hdr (L, key3 q) 2 s.things.length 0 s.things.length]
structure SF (F : Fr) (k1 k2 k3 : Nat) (s : Scene) : Prop where
 h1 : ∃ v, v ≤ s.people.length ∧ F.get k1 = some (.arr 1 (s.people.map irow) v false)
 h2 : ∃ v, v ≤ s.hands.length ∧ F.get k2 = some (.arr 2 (s.hands.map Hands.row) v false)
 h3 : ∃ v, v ≤ s.things.length ∧ F.get k3 = some (.arr 2 (s.things.map Spot.row) v false)
structure FB (L : Nat) (F : Fr) (r0 : Rite) (acts : List RAct) (sb : Blk) : Prop where
 srt : F.srt
 g6 : F.get 6 = some zbox
 g7 : F.get 7 = some (riteB L r0 acts)
 g8 : F.get 8 = some sb
 gp : F.get 188441 = some (.arr 2 (r0.people.map Person.row) 0 false)
 gt : F.get 339993 = some (.arr 5 (r0.things.map Thing.row) 0 false)
 gl : r0.lapses ≠ [] → F.get 393241 = some (.arr 1 (r0.lapses.map irow) 0 false)
 ga0 : acts = [] → F.get 62 = none
 ga : acts ≠ [] → F.get 62 = some (.arr 9 (acts.map RAct.row) 0 false)
 ref : ∀ x ∈ F, x.1 ≠ 8 → ∀ k, famKey k = true → noRefB (L, k) x.2 = true
structure FI (L : Nat) (F : Fr) (r0 : Rite) (acts : List RAct) (s : Scene) (q : Nat) : Prop extends FB L F r0 acts (sceneB L q s) where
 sc : SF F (key1 q) (key2 q) (key3 q) s
 fam : ∀ k, famKey k = true → F.get k ≠ none → k = key1 q ∨ k = key2 q ∨ k = key3 q
structure FM (L : Nat) (F : Fr) (r0 : Rite) (acts : List RAct) (s : Scene) (q : Nat) (t : Scene) : Prop extends FB L F r0 acts (sceneB L q s) where
 sc : SF F (key1 q) (key2 q) (key3 q) s
 nx : SF F (key1 (nxt q)) (key2 (nxt q)) (key3 (nxt q)) t
 fam : ∀ k, famKey k = true → F.get k ≠ none → (k = key1 q ∨ k = key2 q ∨ k = key3 q) ∨ (k = key1 (nxt q) ∨ k = key2 (nxt q) ∨ k = key3 (nxt q))
theorem keys_ne (q : Nat) (hq : q ≤ 2) : key1 q ≠ key2 q ∧ key1 q ≠ key3 q ∧ key2 q ≠ key3 q ∧ key1 q ≠ key1 (nxt q) ∧ key1 q ≠ key2 (nxt q) ∧ key1 q ≠ key3 (nxt q) ∧ key2 q ≠ key1 (nxt q) ∧ key2 q ≠ key2 (nxt q) ∧ key2 q ≠ key3 (nxt q) ∧ key3 q ≠ key1 (nxt q) ∧ key3 q ≠ key2 (nxt q) ∧ key3 q ≠ key3 (nxt q) := by
 match q, hq with
 | 0, _ => decide
 | 1, _ => decide
 | 2, _ => decide
theorem nxt_le (q : Nat) : 1 ≤ nxt q ∧ nxt q ≤ 2 := by
 unfold nxt; split <;> omega
def fixed : List Nat := [6, 7, 8, 62, 188441, 339993, 393241]
theorem keys_fix (q : Nat) (hq : q ≤ 2) : (∀ k ∈ fixed, k ≠ key1 q) ∧ (∀ k ∈ fixed, k ≠ key2 q) ∧ (∀ k ∈ fixed, k ≠ key3 q) := by
 match q, hq with
 | 0, _ => decide
 | 1, _ => decide
 | 2, _ => decide
theorem fixed_fam : ∀ k ∈ fixed, famKey k = false := by decide
theorem FB.ins {L : Nat} {F : Fr} {r0 : Rite} {acts : List RAct} {sb : Blk} (h : FB L F r0 acts sb) {k : Nat} {b : Blk} (hk : ∀ j ∈ fixed, j ≠ k) (hb : ∀ nm, noRefB nm b = true) : FB L (F.ins k b) r0 acts sb where
 srt := Fr.ins_srt h.srt
 g6 := (Fr.get_ins_other _ (hk 6 (by decide)) _).trans h.g6
 g7 := (Fr.get_ins_other _ (hk 7 (by decide)) _).trans h.g7
 g8 := (Fr.get_ins_other _ (hk 8 (by decide)) _).trans h.g8
 gp := (Fr.get_ins_other _ (hk 188441 (by decide)) _).trans h.gp
 gt := (Fr.get_ins_other _ (hk 339993 (by decide)) _).trans h.gt
 gl := fun hl => (Fr.get_ins_other _ (hk 393241 (by decide)) _).trans (h.gl hl)
 ga0 := fun ha => (Fr.get_ins_other _ (hk 62 (by decide)) _).trans (h.ga0 ha)
 ga := fun ha => (Fr.get_ins_other _ (hk 62 (by decide)) _).trans (h.ga ha)
 ref := fun x hx hne k' hk' => by
  rcases Fr.ins_mem h.srt hx with e | ⟨e, _⟩
  ·subst e; exact hb _
  ·exact h.ref x e hne k' hk'
def ins3 (F : Fr) (q v1 v2 v3 : Nat) (t : Scene) : Fr := ((F.ins (key1 q) (.arr 1 (t.people.map irow) v1 false)).ins (key2 q) (.arr 2 (t.hands.map Hands.row) v2 false)).ins (key3 q) (.arr 2 (t.things.map Spot.row) v3 false)
theorem ins3_get (F : Fr) (q v1 v2 v3 : Nat) (t : Scene) {k : Nat} (h1 : k ≠ key1 q) (h2 : k ≠ key2 q) (h3 : k ≠ key3 q) : (ins3 F q v1 v2 v3 t).get k = F.get k := by
 unfold ins3
 rw [Fr.get_ins_other _ h3, Fr.get_ins_other _ h2, Fr.get_ins_other _ h1]
theorem ins3_SF (F : Fr) (q : Nat) (hq : q ≤ 2) {v1 v2 v3 : Nat} (t : Scene) (h1 : v1 ≤ t.people.length) (h2 : v2 ≤ t.hands.length) (h3 : v3 ≤ t.things.length) : SF (ins3 F q v1 v2 v3 t) (key1 q) (key2 q) (key3 q) t := by
 obtain ⟨n1, n2, n3, _⟩ := keys_ne q hq
 refine ⟨⟨v1, h1, ?_⟩, ⟨v2, h2, ?_⟩, ⟨v3, h3, ?_⟩⟩
 ·unfold ins3; rw [Fr.get_ins_other _ n2, Fr.get_ins_other _ n1, Fr.get_ins]
 ·unfold ins3; rw [Fr.get_ins_other _ n3, Fr.get_ins]
 ·unfold ins3; rw [Fr.get_ins]
theorem ins3_FB {L : Nat} {F : Fr} {r0 : Rite} {acts : List RAct} {sb : Blk} (h : FB L F r0 acts sb) (q : Nat) (hq : q ≤ 2) (v1 v2 v3 : Nat) (t : Scene) : FB L (ins3 F q v1 v2 v3 t) r0 acts sb := by
 obtain ⟨a, b, c⟩ := keys_fix q hq
 exact ((h.ins a fun _ => rfl).ins b fun _ => rfl).ins c fun _ => rfl
theorem SF.other {F F' : Fr} {k1 k2 k3 : Nat} {s : Scene} (h : SF F k1 k2 k3 s) (e1 : F'.get k1 = F.get k1) (e2 : F'.get k2 = F.get k2) (e3 : F'.get k3 = F.get k3) : SF F' k1 k2 k3 s := by
 obtain ⟨a, b, c⟩ := h
 exact ⟨by rw [e1]; exact a, by rw [e2]; exact b, by rw [e3]; exact c⟩
theorem FI.own {L : Nat} {F : Fr} {r0 : Rite} {acts : List RAct} {s : Scene} {q : Nat} (hq : q ≤ 2) (h : FI L F r0 acts s q) : FM L (ins3 F (nxt q) 0 0 0 s) r0 acts s q s := by
 obtain ⟨n1, n2, n3, m11, m12, m13, m21, m22, m23, m31, m32, m33⟩ := keys_ne q hq
 have hp := nxt_le q
 exact { ins3_FB h.toFB (nxt q) hp.2 0 0 0 s with
  sc := h.sc.other (ins3_get _ _ _ _ _ _ m11 m12 m13) (ins3_get _ _ _ _ _ _ m21 m22 m23) (ins3_get _ _ _ _ _ _ m31 m32 m33)
  nx := ins3_SF F (nxt q) hp.2 s (Nat.zero_le _) (Nat.zero_le _) (Nat.zero_le _)
  fam := fun k hk hg => by
   by_cases h1 : k = key1 (nxt q)
   ·exact .inr (.inl h1)
   by_cases h2 : k = key2 (nxt q)
   ·exact .inr (.inr (.inl h2))
   by_cases h3 : k = key3 (nxt q)
   ·exact .inr (.inr (.inr h3))
   rw [ins3_get _ _ _ _ _ _ h1 h2 h3] at hg
   exact .inl (h.fam k hk hg) }
theorem FM.doA {L : Nat} {F : Fr} {r0 : Rite} {acts : List RAct} {s t t' : Scene} {q : Nat} (hq : q ≤ 2) (h : FM L F r0 acts s q t) {v1 v2 v3 : Nat} (h1 : v1 ≤ t'.people.length) (h2 : v2 ≤ t'.hands.length) (h3 : v3 ≤ t'.things.length) : FM L (ins3 F (nxt q) v1 v2 v3 t') r0 acts s q t' := by
 obtain ⟨n1, n2, n3, m11, m12, m13, m21, m22, m23, m31, m32, m33⟩ := keys_ne q hq
 have hp := nxt_le q
 exact { ins3_FB h.toFB (nxt q) hp.2 v1 v2 v3 t' with
  sc := h.sc.other (ins3_get _ _ _ _ _ _ m11 m12 m13) (ins3_get _ _ _ _ _ _ m21 m22 m23) (ins3_get _ _ _ _ _ _ m31 m32 m33)
  nx := ins3_SF F (nxt q) hp.2 t' h1 h2 h3
  fam := fun k hk hg => by
   by_cases h1 : k = key1 (nxt q)
   ·exact .inr (.inl h1)
   by_cases h2 : k = key2 (nxt q)
   ·exact .inr (.inr (.inl h2))
   by_cases h3 : k = key3 (nxt q)
   ·exact .inr (.inr (.inr h3))
   rw [ins3_get _ _ _ _ _ _ h1 h2 h3] at hg
   exact h.fam k hk hg }
def insA (L : Nat) (F : Fr) (r0 : Rite) (acts : List RAct) : Fr := (F.ins 62 (.arr 9 (acts.map RAct.row) 0 false)).ins 7 (riteB L r0 acts)
theorem insA_get (L : Nat) (F : Fr) (r0 : Rite) (acts : List RAct) {k : Nat} (h1 : k ≠ 62) (h2 : k ≠ 7) : (insA L F r0 acts).get k = F.get k := by
 unfold insA
 rw [Fr.get_ins_other _ h2, Fr.get_ins_other _ h1]
theorem riteB_ref {L : Nat} {r0 : Rite} {acts : List RAct} {k : Nat} (hk : famKey k = true) : noRefB (L, k) (riteB L r0 acts) = true := by
 have ne : ∀ j, famKey j = false → ((L, j) : Nm) ≠ (L, k) := fun j hj e => by
  have := (Prod.mk.inj e).2
  subst this
  rw [hj] at hk; cases hk
 have one : ∀ j es rows, famKey j = false → noRef (L, k) (apS (L, j) es rows) = true := fun j es rows hj => by
  unfold apS
  split
  ·rfl
  ·simpa [noRef] using ne j hj
 have a := ne 188441 (by decide)
 have b := ne 339993 (by decide)
 have c := one 393241 1 (r0.lapses.map irow) (by decide)
 have d := one 62 9 (acts.map RAct.row) (by decide)
 simp only [riteB, noRefB, noRefL, noRef, decide_eq_true_eq, Bool.and_eq_true, true_and, and_true, c, d, ne_eq]
 exact ⟨a, b⟩
theorem insA_FB {L : Nat} {F : Fr} {r0 : Rite} {acts acts' : List RAct} {sb : Blk} (h : FB L F r0 acts sb) (hne : acts' ≠ []) : FB L (insA L F r0 acts') r0 acts' sb where
 srt := Fr.ins_srt (Fr.ins_srt h.srt)
 g6 := (insA_get _ _ _ _ (by decide) (by decide)).trans h.g6
 g7 := by unfold insA; rw [Fr.get_ins]
 g8 := (insA_get _ _ _ _ (by decide) (by decide)).trans h.g8
 gp := (insA_get _ _ _ _ (by decide) (by decide)).trans h.gp
 gt := (insA_get _ _ _ _ (by decide) (by decide)).trans h.gt
 gl := fun hl => (insA_get _ _ _ _ (by decide) (by decide)).trans (h.gl hl)
 ga0 := fun e => absurd e hne
 ga := fun _ => by unfold insA; rw [Fr.get_ins_other _ (by decide), Fr.get_ins]
 ref := fun x hx hne k' hk' => by
  rcases Fr.ins_mem (Fr.ins_srt h.srt) hx with e | ⟨e, _⟩
  ·subst e; exact riteB_ref hk'
  ·rcases Fr.ins_mem h.srt e with e | ⟨e, _⟩
   ·subst e; rfl
   ·exact h.ref x e hne k' hk'
theorem FM.app {L : Nat} {F : Fr} {r0 : Rite} {acts acts' : List RAct} {s t : Scene} {q : Nat} (hq : q ≤ 2) (h : FM L F r0 acts s q t) (hne : acts' ≠ []) : FM L (insA L F r0 acts') r0 acts' s q t := by
 have hp := nxt_le q
 obtain ⟨a, b, c⟩ := keys_fix q hq
 obtain ⟨a', b', c'⟩ := keys_fix (nxt q) hp.2
 have one : ∀ k, (∀ j ∈ fixed, j ≠ k) → (insA L F r0 acts').get k = F.get k := fun k hk => insA_get _ _ _ _ (hk 62 (by decide)).symm (hk 7 (by decide)).symm
 exact { insA_FB h.toFB hne with
  sc := h.sc.other (one _ a) (one _ b) (one _ c)
  nx := h.nx.other (one _ a') (one _ b') (one _ c')
  fam := fun k hk hg => by
   have h1 : k ≠ 62 := fun e => by subst e; cases hk
   have h2 : k ≠ 7 := fun e => by subst e; cases hk
   rw [insA_get _ _ _ _ h1 h2] at hg
   exact h.fam k hk hg }
theorem sceneB_ref {L q : Nat} {s : Scene} {k : Nat} (h1 : k ≠ key1 q) (h2 : k ≠ key2 q) (h3 : k ≠ key3 q) : noRefB (L, k) (sceneB L q s) = true := by
 simp only [sceneB, noRefB, noRefL, noRef, Bool.and_true, Bool.and_eq_true, decide_eq_true_eq, ne_eq, Prod.mk.injEq, true_and]
 exact ⟨fun e => h1 e.symm, fun e => h2 e.symm, fun e => h3 e.symm⟩
theorem sceneB_refs {L q : Nat} {s : Scene} : noRefB (L, key1 q) (sceneB L q s) = false ∧ noRefB (L, key2 q) (sceneB L q s) = false ∧ noRefB (L, key3 q) (sceneB L q s) = false := by
 refine ⟨?_, ?_, ?_⟩ <;> simp [sceneB, noRefB, noRefL, noRef]
theorem FB.gcol {F : Fr} {H : Heap} {r0 : Rite} {acts : List RAct} {t : Scene} {p nt : Nat} {s : Slots} (hp : p ≤ 2) (hH : 0 < H.length) (h : FB H.length F r0 acts (sceneB H.length p t)) (sc : SF F (key1 p) (key2 p) (key3 p) t) (hs : ∀ k, famKey k = true → noRefS (H.length, k) s = true) :
  ∃ F', Go.Gh.gcol ⟨s, F :: H, nt⟩ = some ⟨s, F' :: H, nt⟩ ∧ FI H.length F' r0 acts t p := by
 obtain ⟨F', e, hsrt, hmem, hnf, hrf, hdead⟩ := gcol_F (s := s) (F := F) (nt := nt) hH
 refine ⟨F', e, ?_⟩
 have fx : ∀ k ∈ fixed, F'.get k = F.get k := fun k hk => hnf k (fixed_fam k hk)
 have m8 : (8, sceneB H.length p t) ∈ F := Fr.get_mem h.g8
 have R := sceneB_refs (L := H.length) (q := p) (s := t)
 exact {
  srt := hsrt h.srt
  g6 := (fx 6 (by decide)).trans h.g6
  g7 := (fx 7 (by decide)).trans h.g7
  g8 := (fx 8 (by decide)).trans h.g8
  gp := (fx 188441 (by decide)).trans h.gp
  gt := (fx 339993 (by decide)).trans h.gt
  gl := fun hl => (fx 393241 (by decide)).trans (h.gl hl)
  ga0 := fun ha => (fx 62 (by decide)).trans (h.ga0 ha)
  ga := fun ha => (fx 62 (by decide)).trans (h.ga ha)
  ref := fun x hx => h.ref x (hmem x hx)
  sc := sc.other (hrf _ _ m8 R.1) (hrf _ _ m8 R.2.1) (hrf _ _ m8 R.2.2)
  fam := fun k hk hg => by
   by_cases h1 : k = key1 p
   ·exact .inl h1
   by_cases h2 : k = key2 p
   ·exact .inr (.inl h2)
   by_cases h3 : k = key3 p
   ·exact .inr (.inr h3)
   refine absurd (hdead k hk (hs k hk) fun x hx => ?_) hg
   by_cases e8 : x.1 = 8
   ·have : x.2 = sceneB H.length p t := by
     have := Fr.mem_get h.srt (show (x.1, x.2) ∈ F from hx)
     rw [e8, h.g8] at this
     exact (Option.some.inj this).symm
    rw [this]
    exact sceneB_ref h1 h2 h3
   ·exact h.ref x hx e8 k hk }
theorem FM.fin {F : Fr} {H : Heap} {r0 : Rite} {acts : List RAct} {s t : Scene} {q nt : Nat} {sl : Slots} (hH : 0 < H.length) (h : FM H.length F r0 acts s q t) (hs : ∀ k, famKey k = true → noRefS (H.length, k) sl = true) :
  ∃ F', Go.Gh.gcol ⟨sl, F.ins 8 (sceneB H.length (nxt q) t) :: H, nt⟩ = some ⟨sl, F' :: H, nt⟩ ∧ FI H.length F' r0 acts t (nxt q) := by
 have hp := nxt_le q
 obtain ⟨a', b', c'⟩ := keys_fix (nxt q) hp.2
 refine FB.gcol hp.2 hH ?_ ?_ hs
 ·exact {
   srt := Fr.ins_srt h.srt
   g6 := (Fr.get_ins_other _ (by decide) _).trans h.g6
   g7 := (Fr.get_ins_other _ (by decide) _).trans h.g7
   g8 := Fr.get_ins ..
   gp := (Fr.get_ins_other _ (by decide) _).trans h.gp
   gt := (Fr.get_ins_other _ (by decide) _).trans h.gt
   gl := fun hl => (Fr.get_ins_other _ (by decide) _).trans (h.gl hl)
   ga0 := fun ha => (Fr.get_ins_other _ (by decide) _).trans (h.ga0 ha)
   ga := fun ha => (Fr.get_ins_other _ (by decide) _).trans (h.ga ha)
   ref := fun x hx hne k' hk' => by
    rcases Fr.ins_mem h.srt hx with e | ⟨e, _⟩
    ·exact absurd (by rw [e]) hne
    ·exact h.ref x e hne k' hk' }
 ·exact h.nx.other (Fr.get_ins_other _ (a' 8 (by decide)).symm _) (Fr.get_ins_other _ (b' 8 (by decide)).symm _) (Fr.get_ins_other _ (c' 8 (by decide)).symm _)
theorem FI.same {F : Fr} {H : Heap} {r0 : Rite} {acts : List RAct} {s : Scene} {q nt : Nat} {sl : Slots} (hq : q ≤ 2) (hH : 0 < H.length) (h : FI H.length F r0 acts s q) (hs : ∀ k, famKey k = true → noRefS (H.length, k) sl = true) :
  ∃ F', Go.Gh.gcol ⟨sl, F :: H, nt⟩ = some ⟨sl, F' :: H, nt⟩ ∧ FI H.length F' r0 acts s q := FB.gcol hq hH h.toFB h.sc hs
section
theorem Fr.ins_same {k : Nat} {b : Blk} : ∀ {f : Fr}, f.srt → f.get k = some b → f.ins k b = f
  | [], _, h => by simp at h
  | (j, c) :: r, hs, h => by
    unfold Fr.srt at hs
    rw [List.map_cons, List.pairwise_cons] at hs
    simp only [Fr.get_cons] at h
    simp only [Fr.ins_cons]
    by_cases e : k = j
    · subst e
      rw [if_pos rfl] at h
      cases h
      rw [if_pos rfl]
    · rw [if_neg e] at h
      rw [if_neg e]
      have := hs.1 k (List.mem_map_of_mem (f := (·.1)) (Fr.get_mem h))
      simp only at this
      rw [if_neg (by omega), Fr.ins_same hs.2 h]
def riteG (L : Nat) (r0 : Rite) (acts : List RAct) : GV := .agg [.pure (.int .i64 r0.wide), .pure (.int .i64 r0.deep), .hdr (L, 188441) 2 r0.people.length 0 r0.people.length, .hdr (L, 339993) 5 r0.things.length 0 r0.things.length, .nils, apS (L, 393241) 1 (r0.lapses.map irow), apS (L, 62) 9 (acts.map RAct.row)]
def scN (L q : Nat) (s : Scene) : GV := scH (L, key1 q) (L, key2 q) (L, key3 q) s
def withA (r0 : Rite) (acts : List RAct) : Rite := { r0 with acts := acts }
section
variable {F f0 : Fr} {H : Heap} {r0 : Rite} {acts : List RAct} {sb : Blk} {c : Nat}
theorem rdC_apS {nm : Nm} {es : Nat} {rows : List (List PV)} (h : rows ≠ [] → H.get nm = some (.arr es rows 0 false)) : rdC H (apS nm es rows) (.slice rows) := by
 unfold apS
 by_cases hr : rows = []
 ·subst hr; rw [if_pos rfl]; simp
 ·rw [if_neg hr]
  exact ⟨rows, 0, false, h hr, Nat.zero_le _, rfl, rfl, rfl, rfl⟩
theorem FB.rd (h : FB H.length F r0 acts sb) (hs : r0.seen = []) : rdG (f0 :: F :: H) (riteG H.length r0 acts) (.agg (withA r0 acts).row) := by
 have ne : ¬ H.length = H.length + 1 := by omega
 have g : ∀ k, Heap.get (f0 :: F :: H) (H.length, k) = F.get k := fun k => by simp [ne]
 rw [rowR]
 unfold riteG
 rw [rdG_agg]
 simp only [withA, rdL_cons, rdL_nil, rdC_pure, and_true, true_and]
 refine ⟨⟨_, 0, false, (g _).trans h.gp, Nat.zero_le _, by simp, rfl, rfl, rfl⟩, ⟨_, 0, false, (g _).trans h.gt, Nat.zero_le _, by simp, rfl, rfl, rfl⟩, ?_, rdC_apS fun hr => (g _).trans (h.gl ?_), rdC_apS fun hr => (g _).trans (h.ga ?_)⟩
 ·rw [hs]; rfl
 ·intro e; rw [e] at hr; exact hr rfl
 ·intro e; rw [e] at hr; exact hr rfl
theorem SF.rd {k1 k2 k3 : Nat} {s : Scene} (h : SF F k1 k2 k3 s) : rdG (f0 :: F :: H) (scH (H.length, k1) (H.length, k2) (H.length, k3) s) (.agg s.row) := by
 have ne : ¬ H.length = H.length + 1 := by omega
 have g : ∀ k, Heap.get (f0 :: F :: H) (H.length, k) = F.get k := fun k => by simp [ne]
 obtain ⟨⟨v1, a1, b1⟩, ⟨v2, a2, b2⟩, ⟨v3, a3, b3⟩⟩ := h
 unfold scH Scene.row
 rw [rdG_agg]
 simp only [rdL_cons, rdL_nil, rdC_pure, and_true, true_and]
 exact ⟨⟨_, v1, false, (g _).trans b1, a1, by simp, rfl, rfl, rfl⟩, ⟨_, v2, false, (g _).trans b2, a2, by simp, rfl, rfl, rfl⟩, ⟨_, v3, false, (g _).trans b3, a3, by simp, rfl, rfl, rfl⟩⟩
theorem SF.self {k1 k2 k3 : Nat} {s : Scene} (hF : F.srt) (h : SF F k1 k2 k3 s) (n12 : k1 ≠ k2) (n13 : k1 ≠ k3) (n23 : k2 ≠ k3) : ∃ v1 v2 v3, ScSelf (f0 :: F :: H) (H.length, k1) (H.length, k2) (H.length, k3) v1 v2 v3 s := by
 have ne : ¬ H.length = H.length + 1 := by omega
 have g : ∀ k, Heap.get (f0 :: F :: H) (H.length, k) = F.get k := fun k => by simp [ne]
 have st : ∀ k b, F.get k = some b → Heap.set (f0 :: F :: H) (H.length, k) b = f0 :: F :: H := fun k b hb => by simp [ne, Fr.ins_same hF hb]
 have nn : ∀ a b : Nat, a ≠ b → ((H.length, a) : Nm) ≠ (H.length, b) := fun a b h e => h (Prod.mk.inj e).2
 obtain ⟨⟨v1, a1, b1⟩, ⟨v2, a2, b2⟩, ⟨v3, a3, b3⟩⟩ := h
 exact ⟨v1, v2, v3, { n12 := nn _ _ n12, n13 := nn _ _ n13, n23 := nn _ _ n23, g1 := (g _).trans b1, g2 := (g _).trans b2, g3 := (g _).trans b3, e1 := a1, e2 := a2, e3 := a3, s1 := st _ _ b1, s2 := st _ _ b2, s3 := st _ _ b3 }⟩
structure RB (r0 : Rite) (n : Nat) : Prop where
 hn : IntKind.i64.wrap (r0.wide * r0.deep) = n
 n0 : 0 < n
 n9 : n ≤ 9
 wide : r0.wide ≠ 0
 pl : r0.people.length ≤ 3
 tl : r0.things.length ≤ 4
 p0 : r0.people ≠ []
 t0 : r0.things ≠ []
 seen : r0.seen = []
theorem might_at {nm : Nm} (hlt : nm.1 < H.length) {n : Nat} (hb : RB r0 n) (h : FB H.length F r0 acts sb) {k1 k2 k3 : Nat} {s : Scene} (hs : SF F k1 k2 k3 s) (hS : ScB r0 s) (w : Nat) (hw : w < r0.people.length) (wd : Int) :
  gcall KC (geval KC) 49 [.bptr nm 0, riteG H.length r0 acts, scH (H.length, k1) (H.length, k2) (H.length, k3) s, .pure (.int .i64 w)] c (f0 :: F :: H.set nm (wbox wd)) =
   some (.pure (.tuple [.agg (mightR (withA r0 acts) s w (everyL n r0.things.length r0.people.length w) wd).1.1.row, .bool (mightR (withA r0 acts) s w (everyL n r0.things.length r0.people.length w) wd).1.2]), f0 :: F :: H.set nm (wbox (mightR (withA r0 acts) s w (everyL n r0.things.length r0.people.length w) wd).2)) := by
 have hl : (H.set nm (wbox wd)).length = H.length := Heap.length_set _ _ _
 have h' : FB (H.set nm (wbox wd)).length F r0 acts sb := by rw [hl]; exact h
 have hne : ¬ nm.1 = H.length := by omega
 have hne2 : ¬ nm.1 = H.length + 1 := by omega
 have B : isBox (f0 :: F :: H.set nm (wbox wd)) nm := isBox_up (isBox_up (isBox_set' hlt))
 have W : wordAt (f0 :: F :: H.set nm (wbox wd)) nm = wd := by rw [wordAt_up (by simp [hl]; omega), wordAt_up (by rw [hl]; exact hlt), wordAt_set hlt]
 have M := mightB_ok (c := c) (rg := riteG (H.set nm (wbox wd)).length r0 acts) (sg := scH ((H.set nm (wbox wd)).length, k1) ((H.set nm (wbox wd)).length, k2) ((H.set nm (wbox wd)).length, k3) s) (withA r0 acts) s w n (h'.rd (f0 := f0) hb.seen) hs.rd ⟨hS.pl, hS.hl, hS.tl, hS.hr⟩ hw (by show r0.people.length ≤ _; have := hb.pl; omega) (by show r0.things.length ≤ _; have := hb.tl; omega) hb.wide hb.hn hb.n0 (by have := hb.n9; omega) B
 rw [W, hl] at M
 refine M.trans ?_
 simp [hne, hne2, Heap.length_set, withA]
theorem apart_at {H0 : Heap} (hl : H0.length = H.length) {k1 k2 k3 : Nat} {s : Scene} (hs : SF F k1 k2 k3 s) (hS : ScB r0 s) {w v : Nat} {a b : RAct} (hw : w < r0.people.length) (hv : v < r0.people.length) (h1 : a.who = w) (h2 : a.hand = 0 ∨ a.hand = 1) (h3 : b.who = v) (h4 : b.hand = 0 ∨ b.hand = 1) :
  gcall KC (geval KC) 53 [scH (H.length, k1) (H.length, k2) (H.length, k3) s, .pure (.agg a.row), .pure (.agg b.row)] c (f0 :: F :: H0) = some (.pure (.bool (apartV s w a v b)), f0 :: F :: H0) := by
 have e1 := hS.pl
 have e2 := hS.hl
 have R : rdG (f0 :: F :: H0) (scH (H.length, k1) (H.length, k2) (H.length, k3) s) (.agg s.row) := by rw [← hl]; exact hs.rd
 exact apartB_ok R (show rdG _ (.pure (.agg a.row)) (.agg a.row) from rfl) (show rdG _ (.pure (.agg b.row)) (.agg b.row) from rfl) (by omega) (by omega) h1 h2 (by omega) (by omega) h3 h4 (by simp)
theorem do_at {H0 : Heap} (hl : H0.length = H.length) {k1 k2 k3 : Nat} {s : Scene} (hF : F.srt) (hs : SF F k1 k2 k3 s) (n12 : k1 ≠ k2) (n13 : k1 ≠ k3) (n23 : k2 ≠ k3) {w : Nat} {a : RAct} (hb : DoB s w a) (hhl : s.hands.length ≤ 1000000) :
  ∃ v1 v2 v3, v1 ≤ s.people.length ∧ v2 ≤ s.hands.length ∧ v3 ≤ s.things.length ∧
  gcall KC (geval KC) 51 [scH (H.length, k1) (H.length, k2) (H.length, k3) s, .pure (.agg a.row)] c (f0 :: F :: H0) =
   some (.pure (.tuple []), f0 :: ((F.ins k1 (.arr 1 ((doV s w a).people.map irow) v1 false)).ins k2 (.arr 2 ((doV s w a).hands.map Hands.row) v2 false)).ins k3 (.arr 2 ((doV s w a).things.map Spot.row) v3 false) :: H0) := by
 obtain ⟨u1, u2, u3, S⟩ := hs.self (f0 := f0) (H := H0) hF n12 n13 n23
 obtain ⟨v1, v2, v3, a1, a2, a3, e⟩ := do_ok (c := c) S hb hhl (by simp)
 rw [hl] at e
 refine ⟨v1, v2, v3, a1, a2, a3, e.trans ?_⟩
 have ne : ¬ H.length = H.length + 1 := by omega
 simp [scSet, hl, ne]
end
end
section
section
variable {F : Fr} {H : Heap} {r0 : Rite} {acts : List RAct} {sb : Blk}
theorem own_at {H0 : Heap} (hl : H0.length = H.length) {s : Scene} {q : Nat} (hq : q ≤ 2) (h : FI H.length F r0 acts s q) (hS : ScB r0 s) (p0 : r0.people ≠ []) (t0 : r0.things ≠ []) (pl : r0.people.length ≤ 1000000) (tl : r0.things.length ≤ 1000000) (a : RAct) :
    (match gcall KC (geval KC) 50 [scN H.length q s] 54 ([(12, abox a)] :: F :: H0) with | some z => glift ([(12, abox a)] :: F :: H0) (.bptr (H.length, 8) 0) z | none => none) =
      some (scN H.length (nxt q) s, [(12, abox a)] :: ins3 F (nxt q) 0 0 0 s :: H0) := by
  obtain ⟨n12, n13, n23, _⟩ := keys_ne q hq
  obtain ⟨u1, u2, u3, S⟩ := h.sc.self (f0 := [(12, abox a)]) (H := H0) h.srt n12 n13 n23
  have e1 := hS.pl
  have e2 := hS.hl
  have e3 := hS.tl
  have q0 : 0 < r0.people.length := List.length_pos_iff.2 p0
  have q1 : 0 < r0.things.length := List.length_pos_iff.2 t0
  have ne : ¬ H.length = H.length + 1 := by omega
  have O := own_ok (c := 54) S.toScAt (fun e => by rw [e] at e1; simp at e1; omega) (fun e => by rw [e] at e2; simp at e2; omega) (fun e => by rw [e] at e3; simp at e3; omega) (by omega) (by omega) (by omega) (by simp) (by simp [newKey]) (by simp [newKey]) (by simp [newKey])
  rw [hl] at O
  unfold scN
  rw [O]
  have fr1 : ∀ k, k = key1 1 ∨ k = key2 1 ∨ k = key3 1 → q ≠ 1 → F.get k = none := fun k hk hq1 => by
    cases hg : F.get k with
    | none => rfl
    | some b =>
      have := h.fam k (by rcases hk with rfl | rfl | rfl <;> decide) (by rw [hg]; exact fun e => by cases e)
      exfalso
      match q, hq with
      | 0, _ => rcases hk with rfl | rfl | rfl <;> revert this <;> decide
      | 1, _ => exact hq1 rfl
      | 2, _ => rcases hk with rfl | rfl | rfl <;> revert this <;> decide
  have fr2 : ∀ k, k = key1 2 ∨ k = key2 2 ∨ k = key3 2 → q = 1 → F.get k = none := fun k hk hq1 => by
    cases hg : F.get k with
    | none => rfl
    | some b =>
      have := h.fam k (by rcases hk with rfl | rfl | rfl <;> decide) (by rw [hg]; exact fun e => by cases e)
      exfalso
      subst hq1
      rcases hk with rfl | rfl | rfl <;> revert this <;> decide
  have A : altKey 0 (newKey 54 6) = key1 1 ∧ altKey 0 (newKey 54 10) = key2 1 ∧ altKey 0 (newKey 54 14) = key3 1 ∧ altKey 1 (newKey 54 6) = key1 2 ∧ altKey 1 (newKey 54 10) = key2 2 ∧ altKey 1 (newKey 54 14) = key3 2 := by decide
  obtain ⟨A1, A2, A3, B1, B2, B3⟩ := A
  have N1 : newKey 54 6 = 24631 := by decide
  have N2 : newKey 54 10 = 41015 := by decide
  have N3 : newKey 54 14 = 57399 := by decide
  rw [N1] at A1 B1
  rw [N2] at A2 B2
  rw [N3] at A3 B3
  by_cases hq1 : q = 1
  · have hs : ∃ b, F.get (key1 1) = some b := by
      obtain ⟨v, _, hv⟩ := h.sc.h1
      rw [hq1] at hv; exact ⟨_, hv⟩
    obtain ⟨b1, hb1⟩ := hs
    have g1 := fr2 (key1 2) (.inl rfl) hq1
    have g2 := fr2 (key2 2) (.inr (.inl rfl)) hq1
    have g3 := fr2 (key3 2) (.inr (.inr rfl)) hq1
    have hn : nxt q = 2 := by rw [hq1]; rfl
    rw [hn]
    simp only [key1, key2, key3] at hb1 g1 g2 g3 A1 A2 A3 B1 B2 B3
    simp only [glift, scH, scSet, N1, N2, N3, hl]
    simp [refs, refs2, refs1, dedup, hl, ne, abox, allNew, allFree, noRefF, noRefB, noRefL, noRef, delAll, Fr.del, liftV, liftL, lift1, insAll, A1, A2, A3, B1, B2, B3, hb1, g1, g2, g3, ins3, key1, key2, key3]
  · have g1 := fr1 (key1 1) (.inl rfl) hq1
    have g2 := fr1 (key2 1) (.inr (.inl rfl)) hq1
    have g3 := fr1 (key3 1) (.inr (.inr rfl)) hq1
    have hn : nxt q = 1 := by
      match q, hq with
      | 0, _ => rfl
      | 1, _ => exact absurd rfl hq1
      | 2, _ => rfl
    rw [hn]
    simp only [key1, key2, key3] at g1 g2 g3 A1 A2 A3 B1 B2 B3
    simp only [glift, scH, scSet, N1, N2, N3, hl]
    simp [refs, refs2, refs1, dedup, hl, ne, abox, allNew, allFree, noRefF, noRefB, noRefL, noRef, delAll, Fr.del, liftV, liftL, lift1, insAll, A1, A2, A3, B1, B2, B3, g1, g2, g3, ins3, key1, key2, key3]
end
end
section
def TrG (r : Rite) : Scene → List (List RAct) → Prop
 | _, [] => True
 | s, g :: gs => (GOk r s g ∧ g ≠ [] ∧ ∀ a ∈ g, ∀ b ∈ g, a.at' = b.at') ∧ TrG r (doG s g) gs
theorem TrG_snoc {r : Rite} {g : List RAct} : ∀ {gs : List (List RAct)} {s : Scene}, TrG r s gs → (GOk r (doG s gs.flatten) g ∧ g ≠ [] ∧ ∀ a ∈ g, ∀ b ∈ g, a.at' = b.at') → TrG r s (gs ++ [g])
 | [], s, _, h => ⟨h, trivial⟩
 | g0 :: gs, s, h, h2 => ⟨h.1, TrG_snoc h.2 (by rw [← doG_append]; exact h2)⟩
structure Made (r0 : Rite) (acts : List RAct) (s : Scene) (t : Int) : Prop where
 gs : ∃ gs : List (List RAct), acts = gs.flatten ∧ TrG r0 (firstV r0) gs ∧ (gs.Pairwise fun g h => ∀ a ∈ g, ∀ b ∈ h, a.at' < b.at')
 lt : ∀ a ∈ acts, a.at' < t
 z : ∀ a ∈ acts, 0 ≤ a.at' ∧ a.seasons = 0 ∧ a.rank = 0
 sc : s = doG (firstV r0) acts
 snd : Snd r0 s
 t0 : 0 ≤ t
theorem Made.grp {r0 : Rite} {acts : List RAct} {s : Scene} {t t' : Int} {g : List RAct} (h : Made r0 acts s t) (hg : GOk r0 s g) (hne : g ≠ []) (hat : ∀ a ∈ g, a.at' = t ∧ a.seasons = 0 ∧ a.rank = 0) (ht : t < t') : Made r0 (acts ++ g) (doG s g) t' := by
 obtain ⟨gs, e, h1, h2⟩ := h.gs
 have hs := h.sc
 have t0 := h.t0
 refine ⟨⟨gs ++ [g], by rw [e]; simp, TrG_snoc h1 ⟨by rw [← e, ← hs]; exact hg, hne, fun a ha b hb => (hat a ha).1.trans (hat b hb).1.symm⟩, ?_⟩, fun a ha => ?_, fun a ha => ?_, by rw [doG_append, ← hs], hg.snd h.snd, by omega⟩
 ·rw [List.pairwise_append]
  refine ⟨h2, List.pairwise_singleton .., fun g' hg' x hx a ha b hb => ?_⟩
  simp only [List.mem_singleton] at hx
  subst hx
  have := h.lt a (by rw [e]; exact List.mem_flatten.2 ⟨g', hg', ha⟩)
  have := (hat b hb).1
  omega
 ·rcases List.mem_append.1 ha with x | x
  ·have := h.lt a x; omega
  ·have := (hat a x).1; omega
 ·rcases List.mem_append.1 ha with x | x
  ·exact h.z a x
  ·have := (hat a x).1
   exact ⟨by omega, (hat a x).2⟩
theorem firstV_snd {r : Rite} (h : RoomB r) : Snd r (firstV r) := by
  have ce : ∀ l : List Person, ∀ t : Nat, cntH (l.map fun _ => empty) t = 0 := fun l t => by
    induction l with
    | nil => rfl
    | cons a l ih =>
      have : ¬ (-1 : Int) = t := by omega
      simp only [List.map_cons, cntH, ih]
      simp [oneH, empty, this]
  refine { pl := by simp [firstV], hl := by simp [firstV], tl := by simp [firstV], hr := fun i hi => ?_, pr := fun x hx => ?_, pn := h.pn, th := fun t ht => ?_, st := fun t ht => ?_ }
  · simp only [firstV, List.getElem_map, empty, List.length_map]; omega
  · simp only [firstV, List.mem_map] at hx
    obtain ⟨p, hp, rfl⟩ := hx
    exact (h.pc p hp).2
  · have ht' : t < r.things.length := by simpa [firstV] using ht
    have e : ((firstV r).things.getD t spot0) = spotOf r.things[t] := by
      rw [getD_lt ht]; simp [firstV]
    rw [e]
    exact .inr ⟨ce _ _, (h.tc _ (List.getElem_mem ht')).1, (h.tc _ (List.getElem_mem ht')).2.1⟩
  · have ht' : t < r.things.length := by simpa [firstV] using ht
    have e : ((firstV r).things.getD t spot0) = spotOf r.things[t] := by
      rw [getD_lt ht]; simp [firstV]
    rw [e]
    exact ⟨(h.tc _ (List.getElem_mem ht')).2.2.1, (h.tc _ (List.getElem_mem ht')).2.2.2.1⟩
theorem Made.first {r : Rite} (h : RoomB r) {t : Int} (ht : 0 ≤ t) : Made r [] (firstV r) t :=
 ⟨⟨[], rfl, trivial, .nil⟩, fun _ h => by simp at h, fun _ h => by simp at h, rfl, firstV_snd h, ht⟩
def setAt (a : RAct) (t : Int) : RAct := { a with at' := t }
section
variable {r : Rite} {s : Scene} {w : Nat} {a : RAct} {t : Int}
theorem posV_setAt : posV r s w (setAt a t) = posV r s w a := by rw [posV_def, posV_def]; rfl
theorem touchV_setAt : touchV s w (setAt a t) = touchV s w a := by rw [touchV_def, touchV_def]; rfl
theorem AB_setAt (h : AB r w a) : AB r w (setAt a t) := ⟨h.who, h.wl, h.hand, h.kind, h.take, h.give, h.step, h.form⟩
theorem posV_acts {acts : List RAct} : posV { r with acts := acts } s w a = posV r s w a := by rw [posV_def, posV_def]
end
theorem everyL_AB {r : Rite} {n w : Nat} {a : RAct} (hn : r.wide * r.deep = n) (hw : w < r.people.length) (h : a ∈ everyL n r.things.length r.people.length w) : AB r w a ∧ a.at' = 0 ∧ a.seasons = 0 ∧ a.rank = 0 := by
 have one : ∀ (hand kind : Nat), (hand = 0 ∨ hand = 1) → 2 ≤ kind → kind ≤ 8 → a ∈ kindL r.things.length r.people.length w kind hand → AB r w a ∧ a.at' = 0 ∧ a.seasons = 0 ∧ a.rank = 0 := fun hand kind hh k2 k8 ha => by
  have hh' : (hand : Int) = 0 ∨ (hand : Int) = 1 := by omega
  unfold kindL at ha
  split at ha
  ·simp only [thingL, List.mem_map, List.mem_range'] at ha
   obtain ⟨x, ⟨i, hi, rfl⟩, rfl⟩ := ha
   exact ⟨⟨rfl, hw, hh', ⟨by simp [act1], by simp [act1]⟩, fun _ => ⟨_, rfl, by omega⟩, fun h => by simp [act1] at h, fun h => by simp [act1] at h, by simp [formB, act1]⟩, rfl, rfl, rfl⟩
  ·split at ha
   ·simp only [otherL, List.mem_map, List.mem_filter, List.mem_range'] at ha
    obtain ⟨x, ⟨⟨i, hi, rfl⟩, hne⟩, rfl⟩ := ha
    refine ⟨⟨rfl, hw, hh', ⟨by simp [act1], by simp [act1]⟩, fun h => by simp [act1] at h, fun _ => ⟨_, rfl, by omega, fun e => ?_⟩, fun h => by simp [act1] at h, by simp [formB, act1]⟩, rfl, rfl, rfl⟩
    rw [e] at hne; simp at hne
   ·rename_i n2 n4
    simp only [List.mem_singleton] at ha
    subst ha
    have m1 : ¬ (kind : Int) = 1 := by omega
    have m2 : ¬ (kind : Int) = 2 := by omega
    have m4 : ¬ (kind : Int) = 4 := by omega
    exact ⟨⟨rfl, hw, hh', ⟨by simp only [act1]; omega, by simp only [act1]; omega⟩, fun h => absurd h m2, fun h => absurd h m4, fun h => absurd h m1, by simp [formB, act1, m1, m2, m4]⟩, rfl, rfl, rfl⟩
 unfold everyL at h
 rcases List.mem_append.1 h with h | h
 ·simp only [stepL, List.mem_map, List.mem_range'] at h
  obtain ⟨x, ⟨i, hi, rfl⟩, rfl⟩ := h
  refine ⟨⟨rfl, hw, .inl rfl, ⟨by simp [act1], by simp [act1]⟩, fun h => by simp [act1] at h, fun h => by simp [act1] at h, fun _ => ⟨?_, ?_⟩, by simp [formB, act1]⟩, rfl, rfl, rfl⟩
  ·simp only [act1]; omega
  ·simp only [act1]; omega
 ·simp only [kindsL, List.mem_flatMap, List.mem_range', bothL, List.mem_append] at h
  obtain ⟨k, ⟨i, hi, rfl⟩, h⟩ := h
  rcases h with h | h
  ·exact one 0 _ (.inl rfl) (by omega) (by omega) h
  ·exact one 1 _ (.inr rfl) (by omega) (by omega) h
end
section
theorem fam_noRef {L k : Nat} (hk : famKey k = true) : ((L, 6) : Nm) ≠ (L, k) ∧ ((L, 7) : Nm) ≠ (L, k) ∧ ((L, 8) : Nm) ≠ (L, k) := by
 have ne : ∀ j, famKey j = false → ((L, j) : Nm) ≠ (L, k) := fun j hj e => by
  have := (Prod.mk.inj e).2
  subst this
  rw [hj] at hk; cases hk
 exact ⟨ne 6 (by decide), ne 7 (by decide), ne 8 (by decide)⟩
def mslots (nm : Nm) (L : Nat) (t : Int) (i : Int) : Slots := [(0, .bptr nm 0), (6, .bptr (L, 6) 0), (7, .bptr (L, 7) 0), (8, .bptr (L, 8) 0), (9, .pure (.int .i64 t)), (10, .pure (.int .i64 i))]
theorem mslots_ref {nm : Nm} {L : Nat} {t i : Int} (h : nm.1 < L) (k : Nat) (hk : famKey k = true) : noRefS (L, k) (mslots nm L t i) = true := by
 obtain ⟨a, b, c⟩ := fam_noRef (L := L) hk
 have d : nm ≠ (L, k) := fun e => by rw [e] at h; simp at h
 simp only [mslots, noRefS, noRef, decide_eq_true a, decide_eq_true b, decide_eq_true c, decide_eq_true d]
 rfl
structure RSt (L : Nat) (r0 : Rite) (m : Nat) (T : Int) (F : Fr) (acts : List RAct) (s : Scene) (q : Nat) (t : Int) : Prop where
 fi : FI L F r0 acts s q
 q2 : q ≤ 2
 md : Made r0 acts s t
 ml : acts.length ≤ m
 tT : t ≤ T
variable {H : Heap}
theorem round_none {nm : Nm} (hlt : nm.1 < H.length) (r0 : Rite) (n : Nat) (hb : RB r0 n) (k : Nat) (hk : k ≤ 1000) (m : Nat) (T : Int) (F : Fr) (acts : List RAct) (s : Scene) (q : Nat) (t : Int) (wd : Int) (hR : RSt H.length r0 m T F acts s q t) (Q : GX → GSt → Prop)
  (w : Nat) (wd1 wd2 : Int) (a : RAct) (e1 : upR wd r0.people.length = ((w : Int), wd1)) (hw : w < r0.people.length) (e2 : mightR (withA r0 acts) s w (everyL n r0.things.length r0.people.length w) wd1 = ((a, false), wd2))
  (ih : ∀ F' wd', RSt H.length r0 m T F' acts s q t → WPLc KC needT 11 (lp Tryz.f11 0) [0, 6, 7, 8, 9, 10] [6, 7, 8, 9] Q (mslots nm H.length t k) (F' :: H.set nm (wbox wd')) 174) :
  WPLc KC needT 11 (lp Tryz.f11 0) [0, 6, 7, 8, 9, 10] [6, 7, 8, 9] Q (mslots nm H.length t ((k + 1 : Nat) : Int)) (F :: H.set nm (wbox wd)) 174 := by
 have hne : ¬ nm.1 = H.length := by omega
 have hne2 : ¬ nm.1 = H.length + 1 := by omega
 have hne3 : ¬ nm.1 = H.length + 1 + 1 := by omega
 have hle : nm.1 ≤ H.length := by omega
 have hB := fun w f0 f1 => box2 hlt w f0 f1
 have hW := fun w f0 f1 => word2 hlt w f0 f1
 have g7 := hR.fi.g7
 have g8 := hR.fi.g8
 have M := fun f0 c => might_at (f0 := f0) (c := c) hlt hb hR.fi.toFB hR.fi.sc hR.md.snd.toScB w hw wd1
 rw [e2] at M
 have hk1 : (0 : Int) < (k : Int) + 1 := by omega
 have hw1 := w64 (x := (k : Int)) (by omega) (by omega)
 have hkk : ((k : Int) + 1 - 1) = k := by omega
 have pl := hb.pl
 have hpl : ((r0.people.length : Int)) ≤ 9223372036854775807 := by omega
 simp only [riteB, sceneB] at g7 g8
 simp only [riteG, scH, RAct.row] at M
 have hl : ∀ w, (H.set nm (wbox w)).length = H.length := fun w => Heap.length_set _ _ _
 apply WPLc_step
 conv => arg 4; whnf
 simp [mslots, hk1, hl, up_ok, hB, hW, hlt, hne, hne2, Heap.set_up, hle, g7, g8, e1, hpl, M, hkk, hw1]
 obtain ⟨F', eg, hF⟩ := FI.same (H := H.set nm (wbox wd2)) (nt := 174) (sl := mslots nm H.length t k) hR.q2 (by rw [hl]; omega) (by rw [hl]; exact hR.fi) (fun j hj => by rw [hl]; exact mslots_ref hlt j hj)
 rw [hl] at hF
 simp only [mslots] at eg
 rw [eg, WPv_some]
 exact ih F' wd2 ⟨hF, hR.q2, hR.md, hR.ml, hR.tT⟩
section
variable {F : Fr} {r0 : Rite} {acts : List RAct} {s t : Scene} {q : Nat} {H0 : Heap}
theorem own_ex (hl : H0.length = H.length) (hq : q ≤ 2) (h : FI H.length F r0 acts s q) (hS : ScB r0 s) {n : Nat} (hb : RB r0 n) (a : RAct) :
    ∃ F1 z, FM H.length F1 r0 acts s q s ∧ gcall KC (geval KC) 50 [scN H.length q s] 54 ([(12, abox a)] :: F :: H0) = some z ∧
      glift ([(12, abox a)] :: F :: H0) (.bptr (H.length, 8) 0) z = some (scN H.length (nxt q) s, [(12, abox a)] :: F1 :: H0) := by
  have e := own_at hl hq h hS hb.p0 hb.t0 (by have := hb.pl; omega) (by have := hb.tl; omega) a
  cases hg : gcall KC (geval KC) 50 [scN H.length q s] 54 ([(12, abox a)] :: F :: H0) with
  | none => rw [hg] at e; cases e
  | some z =>
    rw [hg] at e
    exact ⟨_, z, h.own hq, rfl, e⟩
theorem do_ex (hl : H0.length = H.length) (hq : q ≤ 2) (h : FM H.length F r0 acts s q t) {w : Nat} {a : RAct} (hb : DoB t w a) (hhl : t.hands.length ≤ 1000000) (f0 : Fr) (c : Nat) :
  ∃ F2, FM H.length F2 r0 acts s q (doV t w a) ∧ gcall KC (geval KC) 51 [scN H.length (nxt q) t, .pure (.agg a.row)] c (f0 :: F :: H0) = some (.pure (.tuple []), f0 :: F2 :: H0) := by
 have hp := nxt_le q
 obtain ⟨n1, n2, n3, _⟩ := keys_ne (nxt q) hp.2
 obtain ⟨v1, v2, v3, a1, a2, a3, e⟩ := do_at (c := c) (f0 := f0) hl h.srt h.nx n1 n2 n3 hb hhl
 have L := doV_len (s := t) (w := w) hb.kind
 exact ⟨_, h.doA hq (by omega) (by omega) (by omega), e⟩
theorem app_ex (hl : H0.length = H.length) (hq : q ≤ 2) (h : FM H.length F r0 acts s q t) (a : RAct) (hn : acts.length ≤ 1000000) :
  ∃ F2 F3, FM H.length F3 r0 (acts ++ [a]) s q t ∧ (∀ (f0 : Fr) (ka : Nat), (acts = [] → ka = 62) → apK H.length ka (apS (H.length, 62) 9 (acts.map RAct.row)) 9 72 [a.row] (f0 :: F :: H0) = some (apS (H.length, 62) 9 ((acts ++ [a]).map RAct.row), f0 :: F2 :: H0)) ∧
   F2.get 7 = some (riteB H.length r0 acts) ∧ F2.ins 7 (riteB H.length r0 (acts ++ [a])) = F3 := by
 have ne : ¬ H.length = H.length + 1 := by omega
 refine ⟨F.ins 62 (.arr 9 ((acts ++ [a]).map RAct.row) 0 false), _, h.app hq (acts' := acts ++ [a]) (by simp), fun f0 ka hka => ?_, ?_, rfl⟩
 ·have ek : apK H.length ka (apS (H.length, 62) 9 (acts.map RAct.row)) 9 72 [a.row] (f0 :: F :: H0) = apK H.length 62 (apS (H.length, 62) 9 (acts.map RAct.row)) 9 72 [a.row] (f0 :: F :: H0) := by
   by_cases e : acts = []
   ·rw [hka e]
   ·unfold apS
    rw [if_neg (by simpa using e)]
    rfl
  rw [ek, apK_apS (fun hr => ?_) (fun hr => ?_) (by simp [hl]; omega) (by simp; omega)]
  ·simp [hl, ne]
  ·have : acts = [] := by simpa using hr
   simp [hl, ne, h.ga0 this]
  ·have : acts ≠ [] := by intro e; subst e; exact hr rfl
   simp [hl, ne, h.ga this]
 ·rw [Fr.get_ins_other _ (by decide)]; exact h.g7
end
end
section
variable {H : Heap}
theorem pick112 (wd : Int) : ∃ (p wd' : Int), pickR wd [1, 1, 2] = (p, wd') ∧ 1 ≤ p ∧ p ≤ 2 := by
 have h := upR_rng wd 3 (by omega)
 obtain ⟨y, hy⟩ : ∃ y, upR wd 3 = y := ⟨_, rfl⟩
 rw [hy] at h
 have e : pickR wd [1, 1, 2] = (List.getD [1, 1, 2] y.1.toNat 0, y.2) := by
  rw [pickR_def, if_neg (by simp)]
  show (List.getD [1, 1, 2] (upR wd 3).1.toNat 0, (upR wd 3).2) = _
  rw [hy]
 refine ⟨_, _, e, ?_⟩
 have : y.1.toNat = 0 ∨ y.1.toNat = 1 ∨ y.1.toNat = 2 := by omega
 rcases this with e | e | e <;> rw [e] <;> decide
theorem round_fin {nm : Nm} (hlt : nm.1 < H.length) (r0 : Rite) (k m : Nat) (T : Int) (F : Fr) (acts : List RAct) (s : Scene) (q : Nat) (t : Int) (hR : RSt H.length r0 m T F acts s q t) (Q : GX → GSt → Prop)
  (ih : ∀ F' acts' s' q' t' wd', RSt H.length r0 (m + 2) (T + 2) F' acts' s' q' t' → WPLc KC needT 11 (lp Tryz.f11 0) [0, 6, 7, 8, 9, 10] [6, 7, 8, 9] Q (mslots nm H.length t' k) (F' :: H.set nm (wbox wd')) 174)
  (F4 : Fr) (acts' : List RAct) (t2 : Scene) (p wd' : Int) (fm : FM H.length F4 r0 acts' s q t2) (h1 : t2.people.length = s.people.length ∧ t2.hands.length = s.hands.length ∧ t2.things.length = s.things.length)
  (hM : Made r0 acts' t2 (t + p)) (hp : p ≤ 2) (hl' : acts'.length ≤ m + 2) :
  WPv (gcol ⟨[(0, GV.bptr nm 0), (6, GV.bptr (H.length, 6) 0), (7, GV.bptr (H.length, 7) 0), (8, GV.bptr (H.length, 8) 0), (9, GV.pure (PV.int IntKind.i64 (t + p))), (10, GV.pure (PV.int IntKind.i64 (k : Int)))],
    Fr.ins 8 (Blk.box [GV.hdr (H.length, key1 (nxt q)) 1 s.people.length 0 s.people.length, GV.hdr (H.length, key2 (nxt q)) 2 s.hands.length 0 s.hands.length, GV.hdr (H.length, key3 (nxt q)) 2 s.things.length 0 s.things.length]) F4 :: H.set nm (wbox wd'), 174⟩)
   fun st => WPLc KC needT 11 (lp Tryz.f11 0) [0, 6, 7, 8, 9, 10] [6, 7, 8, 9] Q st.s st.h st.nt := by
 have hl : ∀ w, (H.set nm (wbox w)).length = H.length := fun w => Heap.length_set _ _ _
 obtain ⟨F', eg, hF⟩ := FM.fin (H := H.set nm (wbox wd')) (nt := 174) (sl := mslots nm H.length (t + p) k) (by rw [hl]; omega) (by rw [hl]; exact fm) (fun j hj => by rw [hl]; exact mslots_ref hlt j hj)
 rw [hl] at hF
 simp only [mslots, sceneB, h1, hl] at eg
 rw [eg, WPv_some]
 have tT := hR.tT
 exact ih F' acts' t2 (nxt q) (t + p) wd' ⟨hF, (nxt_le q).2, hM, hl', by omega⟩
theorem round_some {nm : Nm} (hlt : nm.1 < H.length) (r0 : Rite) (n : Nat) (hb : RB r0 n) (hn : r0.wide * r0.deep = n) (k : Nat) (hk : k ≤ 1000) (m : Nat) (hm : m ≤ 10000) (T : Int) (hT : T ≤ 1000000) (F : Fr) (acts : List RAct) (s : Scene) (q : Nat) (t : Int) (wd : Int) (hR : RSt H.length r0 m T F acts s q t) (Q : GX → GSt → Prop)
    (w : Nat) (wd1 wd2 : Int) (a : RAct) (e1 : upR wd r0.people.length = ((w : Int), wd1)) (hw : w < r0.people.length) (e2 : mightR (withA r0 acts) s w (everyL n r0.things.length r0.people.length w) wd1 = ((a, true), wd2))
    (hA : AB r0 w a) (pa : posV r0 s w a = true) (za : a.seasons = 0 ∧ a.rank = 0)
    (o : Nat) (wd3 wd4 : Int) (x : RAct) (bx : Bool) (e3 : upR wd2 r0.people.length = ((o : Int), wd3)) (ho : o < r0.people.length) (e4 : mightR (withA r0 (acts ++ [setAt a t])) s o (everyL n r0.things.length r0.people.length o) wd3 = ((x, bx), wd4))
    (hX : bx = true → AB r0 o x ∧ posV r0 s o x = true ∧ x.seasons = 0 ∧ x.rank = 0)
    (ih : ∀ F' acts' s' q' t' wd', RSt H.length r0 (m + 2) (T + 2) F' acts' s' q' t' → WPLc KC needT 11 (lp Tryz.f11 0) [0, 6, 7, 8, 9, 10] [6, 7, 8, 9] Q (mslots nm H.length t' k) (F' :: H.set nm (wbox wd')) 174) :
    WPLc KC needT 11 (lp Tryz.f11 0) [0, 6, 7, 8, 9, 10] [6, 7, 8, 9] Q (mslots nm H.length t ((k + 1 : Nat) : Int)) (F :: H.set nm (wbox wd)) 174 := by
  have hne : ¬ nm.1 = H.length := by omega
  have hne2 : ¬ nm.1 = H.length + 1 := by omega
  have hne3 : ¬ nm.1 = H.length + 1 + 1 := by omega
  have hle : nm.1 ≤ H.length := by omega
  have hl : ∀ w, (H.set nm (wbox w)).length = H.length := fun w => Heap.length_set _ _ _
  have hB := fun w f0 f1 => box2 hlt w f0 f1
  have hW := fun w f0 f1 => word2 hlt w f0 f1
  have g7 := hR.fi.g7
  have g8 := hR.fi.g8
  have hS := hR.md.snd
  have M := fun f0 c => might_at (f0 := f0) (c := c) hlt hb hR.fi.toFB hR.fi.sc hS.toScB w hw wd1
  rw [e2] at M
  have hk1 : (0 : Int) < (k : Int) + 1 := by omega
  have hw1 := w64 (x := (k : Int)) (by omega) (by omega)
  have hkk : ((k : Int) + 1 - 1) = k := by omega
  have pl := hb.pl
  have tl := hb.tl
  have ml := hR.ml
  have hpl : ((r0.people.length : Int)) ≤ 9223372036854775807 := by omega
  have t0 := hR.md.t0
  have tT := hR.tT
  have hA' : AB r0 w (setAt a t) := AB_setAt hA
  have pa' : posV r0 s w (setAt a t) = true := posV_setAt.trans pa
  have eh := hS.hl
  obtain ⟨F1, z, fm1, ow1, ow2⟩ := own_ex (H0 := H.set nm (wbox wd2)) (hl _) hR.q2 hR.fi hS.toScB hb (setAt a t)
  obtain ⟨F2, fm2, dd⟩ := do_ex (H0 := H.set nm (wbox wd2)) (hl _) hR.q2 fm1 (DoB_of hS hA' pa') (by omega) [(12, abox (setAt a t)), (14, .box [.hdr (H.length, key1 (nxt q)) 1 s.people.length 0 s.people.length, .hdr (H.length, key2 (nxt q)) 2 s.hands.length 0 s.hands.length, .hdr (H.length, key3 (nxt q)) 2 s.things.length 0 s.things.length])] 57
  obtain ⟨F3, F4, fm4, ap1, f37, f34⟩ := app_ex (H0 := H.set nm (wbox wd2)) (hl _) hR.q2 fm2 (setAt a t) (by omega)
  have g71 := fm1.g7
  have g81 := fm1.g8
  have g72 := fm2.g7
  have g82 := fm2.g8
  have g74 := fm4.g7
  have g84 := fm4.g8
  have M2 := fun f0 c => might_at (f0 := f0) (c := c) hlt hb fm4.toFB fm4.sc hS.toScB o ho wd3
  rw [e4] at M2
  have LD := doV_len (s := s) (w := w) hA'.kind
  have ewho : (setAt a t).who.toNat = w := by rw [hA'.who]; simp
  have hM1 : ∀ p : Int, 1 ≤ p → Made r0 (acts ++ [setAt a t]) (doV s w (setAt a t)) (t + p) := fun p hp => by
    have := hR.md.grp (g := [setAt a t]) (t' := t + p) ⟨fun b hb' => by simp only [List.mem_singleton] at hb'; subst hb'; rw [ewho]; exact ⟨hA', pa'⟩, List.pairwise_singleton ..⟩ (by simp) (fun b hb' => by simp only [List.mem_singleton] at hb'; subst hb'; exact ⟨rfl, za⟩) (by omega)
    rwa [doG_cons, ewho, doG_nil] at this
  simp only [riteB, sceneB] at g7 g8 g71 g81 g72 g82 f37 f34 g74 g84
  have LD' := LD
  have ap1 := fun f0 => ap1 f0 62 (fun _ => rfl)
  simp only [riteG, scH, scN, RAct.row, setAt, abox, List.map_append, List.map_cons, List.map_nil] at LD' M M2 ow1 ow2 dd ap1 f37 f34 g74
  have P := fun (f0 : Fr) (w : Int) (c : Nat) => pick_ok (c := c) (l := [1, 1, 2]) (hB w f0 F4) (by simp)
  simp only [irow, List.map_cons, List.map_nil, hW] at P
  apply WPLc_step
  conv => arg 4; whnf
  cases bx with
  | false =>
    obtain ⟨p, wd6, e6, p1, p2⟩ := pick112 wd4
    have hwp := w64 (x := t + p) (by omega) (by omega)
    simp [mslots, hk1, hl, up_ok, hB, hW, hlt, hne, hne2, Heap.set_up, hle, g7, g8, e1, hpl, M, hkk, hw1, ow1, ow2, g71, g81, dd, g72, g82, ap1, f37, f34, g74, g84, e3, M2, P, e6, hwp]
    exact round_fin hlt r0 k m T F acts s q t hR Q ih F4 _ _ p wd6 fm4 LD (hM1 p p1) p2 (by simp; omega)
  | true =>
    obtain ⟨hX1, px, zx⟩ := hX rfl
    by_cases how : o = w
    · obtain ⟨p, wd6, e6, p1, p2⟩ := pick112 wd4
      have hwp := w64 (x := t + p) (by omega) (by omega)
      subst how
      simp [mslots, hk1, hl, up_ok, hB, hW, hlt, hne, hne2, Heap.set_up, hle, g7, g8, e1, hpl, M, hkk, hw1, ow1, ow2, g71, g81, dd, g72, g82, ap1, f37, f34, g74, g84, e3, M2, P, e6, hwp]
      exact round_fin hlt r0 k m T F acts s q t hR Q ih F4 _ _ p wd6 fm4 LD (hM1 p p1) p2 (by simp; omega)
    · have how' : ((o : Int) == (w : Int)) = false := by simp; omega
      have how2 : ((o : Int) != (w : Int)) = true := by simp; omega
      obtain ⟨wd5, e5⟩ : ∃ y, oneR wd4 2 = y := ⟨_, rfl⟩
      obtain ⟨b1, wd5⟩ := wd5
      obtain ⟨p, wd6, e6, p1, p2⟩ := pick112 wd5
      have hwp := w64 (x := t + p) (by omega) (by omega)
      cases b1 with
      | false =>
        simp [mslots, hk1, hl, up_ok, one_ok, hB, hW, hlt, hne, hne2, Heap.set_up, hle, g7, g8, e1, hpl, M, hkk, hw1, ow1, ow2, g71, g81, dd, g72, g82, ap1, f37, f34, g74, g84, e3, M2, P, e6, hwp, how', how2, e5]
        exact round_fin hlt r0 k m T F acts s q t hR Q ih F4 _ _ p wd6 fm4 LD (hM1 p p1) p2 (by simp; omega)
      | true =>
        have AP := fun (f0 : Fr) (c : Nat) => apart_at (c := c) (f0 := f0) (H0 := H.set nm (wbox wd5)) (hl _) fm4.sc hS.toScB (a := setAt a t) (b := x) hw ho hA'.who hA'.hand hX1.who hX1.hand
        cases hap : apartV s w (setAt a t) o x with
        | false =>
          rw [hap] at AP
          simp only [scH, RAct.row, setAt] at AP
          simp [mslots, hk1, hl, up_ok, one_ok, hB, hW, hlt, hne, hne2, Heap.set_up, hle, g7, g8, e1, hpl, M, hkk, hw1, ow1, ow2, g71, g81, dd, g72, g82, ap1, f37, f34, g74, g84, e3, M2, P, e6, hwp, how', how2, e5, AP]
          exact round_fin hlt r0 k m T F acts s q t hR Q ih F4 _ _ p wd6 fm4 LD (hM1 p p1) p2 (by simp; omega)
        | true =>
          rw [hap] at AP
          have hap' := apart_iff.1 hap
          have hX' : AB r0 o (setAt x t) := AB_setAt hX1
          have px' : posV r0 s o (setAt x t) = true := posV_setAt.trans px
          have hap2 : Apa (touchV s w (setAt a t)) (touchV s o (setAt x t)) := by rw [touchV_setAt (a := x)]; exact hap'
          have one := after_one hS hA' hX' pa' px' hap2
          have S1 := hS.doA hA' pa'
          have e1h := S1.hl
          obtain ⟨F5, fm5, dd5⟩ := do_ex (H0 := H.set nm (wbox wd5)) (hl _) hR.q2 fm4 (DoB_of S1 hX' one.2.1) (by omega) [(12, abox (setAt a t)), (14, .box [.hdr (H.length, key1 (nxt q)) 1 s.people.length 0 s.people.length, .hdr (H.length, key2 (nxt q)) 2 s.hands.length 0 s.hands.length, .hdr (H.length, key3 (nxt q)) 2 s.things.length 0 s.things.length]), (16, abox (setAt x t))] 97
          obtain ⟨F6, F7, fm7, ap5, f67, f76⟩ := app_ex (H0 := H.set nm (wbox wd5)) (hl _) hR.q2 fm5 (setAt x t) (by simp; omega)
          have g75 := fm5.g7
          have g85 := fm5.g8
          have g77 := fm7.g7
          have g87 := fm7.g8
          have L2 := doV_len (s := doV s w (setAt a t)) (w := o) hX'.kind
          have P5 := fun (f0 : Fr) (w : Int) (c : Nat) => pick_ok (c := c) (l := [1, 1, 2]) (hB w f0 F7) (by simp)
          have ewho2 : (setAt x t).who.toNat = o := by rw [hX'.who]; simp
          have hM2 : Made r0 (acts ++ [setAt a t, setAt x t]) (doV (doV s w (setAt a t)) o (setAt x t)) (t + p) := by
            have := hR.md.grp (g := [setAt a t, setAt x t]) (t' := t + p) ⟨fun b hb' => by
              simp only [List.mem_cons, List.not_mem_nil, or_false] at hb'
              rcases hb' with rfl | rfl
              · rw [ewho]; exact ⟨hA', pa'⟩
              · rw [ewho2]; exact ⟨hX', px'⟩, by
                rw [List.pairwise_cons]
                refine ⟨fun b hb' => ?_, List.pairwise_singleton ..⟩
                simp only [List.mem_singleton] at hb'
                subst hb'
                unfold tch
                rw [ewho, ewho2]; exact hap2⟩ (by simp) (fun b hb' => by
              simp only [List.mem_cons, List.not_mem_nil, or_false] at hb'
              rcases hb' with rfl | rfl
              · exact ⟨rfl, za⟩
              · exact ⟨rfl, zx⟩) (by omega)
            rwa [doG_cons, ewho, doG_cons, ewho2, doG_nil] at this
          have ap5 := fun f0 => ap5 f0 102 (fun e => by simp at e)
          simp only [riteB, sceneB] at g75 g85 g77 g87 f67 f76
          simp only [scH, scN, RAct.row, setAt, abox, List.map_append, List.map_cons, List.map_nil, LD', List.append_assoc, List.cons_append, List.nil_append] at AP dd5 ap5 f67 f76 g75 g77
          simp only [irow, List.map_cons, List.map_nil, hW] at P5
          simp [mslots, hk1, hl, up_ok, one_ok, hB, hW, hlt, hne, hne2, Heap.set_up, hle, g7, g8, e1, hpl, M, hkk, hw1, ow1, ow2, g71, g81, dd, g72, g82, ap1, f37, f34, g74, g84, e3, M2, P, e6, hwp, how', how2, e5, AP, dd5, g75, g85, ap5, f67, f76, g77, g87, P5]
          exact round_fin hlt r0 k m T F acts s q t hR Q ih F7 _ _ p wd6 fm7 (by omega) (by rw [List.append_assoc]; exact hM2) p2 (by simp; omega)
end
section
variable {H : Heap}
theorem mightR_true {r : Rite} {s : Scene} {w : Nat} {all : List RAct} {wd wd' : Int} {a : RAct} (hl : all.length ≤ 1000000) (h : mightR r s w all wd = ((a, true), wd')) : a ∈ all ∧ posV r s w a = true := by
 rw [mightR_def] at h
 have hlen := mightL_len r s w all
 split at h
 ·cases h
 ·rename_i hne
  have h0 : 0 < (mightL r s w all).length := List.length_pos_iff.2 hne
  have hr := upR_rng wd (mightL r s w all).length (by omega)
  generalize upR wd (mightL r s w all).length = y at h hr
  have hi : y.1.toNat < (mightL r s w all).length := by omega
  have e := (Prod.mk.inj (Prod.mk.inj h).1).1
  rw [getD_lt hi] at e
  exact mightL_mem (e ▸ List.getElem_mem hi)
theorem made_loop {nm : Nm} (hlt : nm.1 < H.length) (r0 : Rite) (n : Nat) (hb : RB r0 n) (hn : r0.wide * r0.deep = n) (Q : GX → GSt → Prop) : ∀ (k : Nat) (m : Nat) (T : Int) (F : Fr) (acts : List RAct) (s : Scene) (q : Nat) (t : Int) (wd : Int), k ≤ 1000 → m + 2 * k ≤ 10000 → T + 2 * k ≤ 100000 → RSt H.length r0 m T F acts s q t →
    (∀ F' acts' s' q' t' wd', RSt H.length r0 (m + 2 * k) (T + 2 * k) F' acts' s' q' t' → Q (.exit 0) ⟨[(6, .bptr (H.length, 6) 0), (7, .bptr (H.length, 7) 0), (8, .bptr (H.length, 8) 0), (9, .pure (.int .i64 t'))], F' :: H.set nm (wbox wd'), 174⟩) →
    WPLc KC needT 11 (lp Tryz.f11 0) [0, 6, 7, 8, 9, 10] [6, 7, 8, 9] Q (mslots nm H.length t (k : Int)) (F :: H.set nm (wbox wd)) 174 := by
  have hl : ∀ w, (H.set nm (wbox w)).length = H.length := fun w => Heap.length_set _ _ _
  intro k
  induction k with
  | zero =>
    intro m T F acts s q t wd _ _ _ hR hq
    apply WPLc_step
    conv => arg 4; whnf
    simp [mslots, hl]
    exact hq F acts s q t wd (by simpa using hR)
  | succ k ih =>
    intro m T F acts s q t wd hk hm hT hR hq
    have pl := hb.pl
    have tl := hb.tl
    have n9 := hb.n9
    have p0 : 0 < r0.people.length := List.length_pos_iff.2 hb.p0
    obtain ⟨w, wd1, e1, hw⟩ := upR_get wd r0.people.length (by omega) (by omega)
    have hw' : w < r0.people.length := by omega
    have el := fun w : Nat => everyL_len n r0.things.length r0.people.length (w : Int)
    have el' : ∀ w : Nat, (everyL n r0.things.length r0.people.length (w : Int)).length ≤ 1000000 := fun w => by have := el w; omega
    have again : ∀ (m' : Nat) (T' : Int), m' ≤ m + 2 → T' ≤ T + 2 → ∀ F' acts' s' q' t' wd', RSt H.length r0 m' T' F' acts' s' q' t' → WPLc KC needT 11 (lp Tryz.f11 0) [0, 6, 7, 8, 9, 10] [6, 7, 8, 9] Q (mslots nm H.length t' k) (F' :: H.set nm (wbox wd')) 174 := fun m' T' hm' hT' F' acts' s' q' t' wd' hR' => by
      refine ih m' T' F' acts' s' q' t' wd' (by omega) (by omega) (by omega) hR' fun F2 acts2 s2 q2 t2 wd2 hR2 => hq F2 acts2 s2 q2 t2 wd2 ?_
      have a := hR2.ml
      have b := hR2.tT
      exact ⟨hR2.fi, hR2.q2, hR2.md, by omega, by omega⟩
    obtain ⟨y, e2⟩ : ∃ y, mightR (withA r0 acts) s w (everyL n r0.things.length r0.people.length w) wd1 = y := ⟨_, rfl⟩
    obtain ⟨⟨a, b⟩, wd2⟩ := y
    cases b with
    | false => exact round_none hlt r0 n hb k (by omega) m T F acts s q t wd hR Q w wd1 wd2 a e1 hw' e2 (fun F' wd' h => again m T (by omega) (by omega) F' acts s q t wd' h)
    | true =>
      obtain ⟨ha, pa⟩ := mightR_true (el' w) e2
      obtain ⟨hA, _, za⟩ := everyL_AB hn hw' ha
      rw [show withA r0 acts = { r0 with acts := acts } from rfl, posV_acts] at pa
      obtain ⟨o, wd3, e3, ho⟩ := upR_get wd2 r0.people.length (by omega) (by omega)
      have ho' : o < r0.people.length := by omega
      obtain ⟨y, e4⟩ : ∃ y, mightR (withA r0 (acts ++ [setAt a t])) s o (everyL n r0.things.length r0.people.length o) wd3 = y := ⟨_, rfl⟩
      obtain ⟨⟨x, bx⟩, wd4⟩ := y
      refine round_some hlt r0 n hb hn k (by omega) m (by omega) T (by omega) F acts s q t wd hR Q w wd1 wd2 a e1 hw' e2 hA pa za o wd3 wd4 x bx e3 ho' e4 (fun hbx => ?_) (again (m + 2) (T + 2) (by omega) (by omega))
      subst hbx
      obtain ⟨hx, px⟩ := mightR_true (el' o) e4
      obtain ⟨hX, _, zx⟩ := everyL_AB hn ho' hx
      rw [show withA r0 (acts ++ [setAt a t]) = { r0 with acts := acts ++ [setAt a t] } from rfl, posV_acts] at px
      exact ⟨hX, px, zx⟩
end
section
variable {H : Heap}
section
variable {F f0 f1 : Fr} {r0 : Rite} {acts : List RAct} {s : Scene} {q L : Nat}
theorem FI.doS (hq : q ≤ 2) (h : FI L F r0 acts s q) {t' : Scene} {v1 v2 v3 : Nat} (h1 : v1 ≤ t'.people.length) (h2 : v2 ≤ t'.hands.length) (h3 : v3 ≤ t'.things.length) (hl : t'.people.length = s.people.length ∧ t'.hands.length = s.hands.length ∧ t'.things.length = s.things.length) : FI L (ins3 F q v1 v2 v3 t') r0 acts t' q := by
 have e : sceneB L q t' = sceneB L q s := by simp only [sceneB, hl]
 have b := ins3_FB h.toFB q hq v1 v2 v3 t'
 rw [← e] at b
 exact { b with
  sc := ins3_SF F q hq t' h1 h2 h3
  fam := fun k hk hg => by
   by_cases h1 : k = key1 q
   ·exact .inl h1
   by_cases h2 : k = key2 q
   ·exact .inr (.inl h2)
   by_cases h3 : k = key3 q
   ·exact .inr (.inr h3)
   rw [ins3_get _ _ _ _ _ _ h1 h2 h3] at hg
   exact h.fam k hk hg }
theorem FI.app (hq : q ≤ 2) (h : FI L F r0 acts s q) {acts' : List RAct} (hne : acts' ≠ []) : FI L (insA L F r0 acts') r0 acts' s q := by
 obtain ⟨a, b, c⟩ := keys_fix q hq
 have one : ∀ k, (∀ j ∈ fixed, j ≠ k) → (insA L F r0 acts').get k = F.get k := fun k hk => insA_get _ _ _ _ (hk 62 (by decide)).symm (hk 7 (by decide)).symm
 exact { insA_FB h.toFB hne with
  sc := h.sc.other (one _ a) (one _ b) (one _ c)
  fam := fun k hk hg => by
   have h1 : k ≠ 62 := fun e => by subst e; cases hk
   have h2 : k ≠ 7 := fun e => by subst e; cases hk
   rw [insA_get _ _ _ _ h1 h2] at hg
   exact h.fam k hk hg }
theorem do_at2 (hq : q ≤ 2) (h : FI H.length F r0 acts s q) {w : Nat} {a : RAct} (hb : DoB s w a) (hhl : s.hands.length ≤ 1000000) (f0 f1 : Fr) (c : Nat) :
  ∃ F2, FI H.length F2 r0 acts (doV s w a) q ∧ gcall KC (geval KC) 51 [scN H.length q s, .pure (.agg a.row)] c (f0 :: f1 :: F :: H) = some (.pure (.tuple []), f0 :: f1 :: F2 :: H) := by
 obtain ⟨n12, n13, n23, _⟩ := keys_ne q hq
 have ne : ¬ H.length = H.length + 1 := by omega
 have ne2 : ¬ H.length = H.length + 1 + 1 := by omega
 have g : ∀ k, Heap.get (f0 :: f1 :: F :: H) (H.length, k) = F.get k := fun k => by simp [ne]
 have st : ∀ k b, F.get k = some b → Heap.set (f0 :: f1 :: F :: H) (H.length, k) b = f0 :: f1 :: F :: H := fun k b hb => by simp [ne, Fr.ins_same h.srt hb]
 have nn : ∀ a b : Nat, a ≠ b → ((H.length, a) : Nm) ≠ (H.length, b) := fun a b h e => h (Prod.mk.inj e).2
 obtain ⟨⟨u1, a1, b1⟩, ⟨u2, a2, b2⟩, ⟨u3, a3, b3⟩⟩ := h.sc
 have S : ScSelf (f0 :: f1 :: F :: H) (H.length, key1 q) (H.length, key2 q) (H.length, key3 q) u1 u2 u3 s := { n12 := nn _ _ n12, n13 := nn _ _ n13, n23 := nn _ _ n23, g1 := (g _).trans b1, g2 := (g _).trans b2, g3 := (g _).trans b3, e1 := a1, e2 := a2, e3 := a3, s1 := st _ _ b1, s2 := st _ _ b2, s3 := st _ _ b3 }
 obtain ⟨v1, v2, v3, c1, c2, c3, e⟩ := do_ok (c := c) S hb hhl (by simp)
 have LD := doV_len (s := s) (w := w) hb.kind
 refine ⟨ins3 F q v1 v2 v3 (doV s w a), h.doS hq (by omega) (by omega) (by omega) LD, e.trans ?_⟩
 simp [scSet, ins3, ne]
theorem app_ex2 (hq : q ≤ 2) (h : FI H.length F r0 acts s q) (a : RAct) (hn : acts.length ≤ 1000000) (h0 : acts ≠ []) (f0 f1 : Fr) (ka : Nat) :
  ∃ F2 F3, FI H.length F3 r0 (acts ++ [a]) s q ∧ apK H.length ka (apS (H.length, 62) 9 (acts.map RAct.row)) 9 72 [a.row] (f0 :: f1 :: F :: H) = some (apS (H.length, 62) 9 ((acts ++ [a]).map RAct.row), f0 :: f1 :: F2 :: H) ∧
   F2.get 7 = some (riteB H.length r0 acts) ∧ F2.ins 7 (riteB H.length r0 (acts ++ [a])) = F3 := by
 have ne : ¬ H.length = H.length + 1 := by omega
 refine ⟨F.ins 62 (.arr 9 ((acts ++ [a]).map RAct.row) 0 false), _, h.app hq (acts' := acts ++ [a]) (by simp), ?_, ?_, rfl⟩
 ·have ek : apK H.length ka (apS (H.length, 62) 9 (acts.map RAct.row)) 9 72 [a.row] (f0 :: f1 :: F :: H) = apK H.length 62 (apS (H.length, 62) 9 (acts.map RAct.row)) 9 72 [a.row] (f0 :: f1 :: F :: H) := by
   unfold apS
   rw [if_neg (by simpa using h0)]
   rfl
  rw [ek, apK_apS (fun hr => absurd (by simpa using hr) h0) (fun hr => by simp [ne, h.ga h0]) (by simp; omega) (by simp; omega)]
  simp [ne]
 ·rw [Fr.get_ins_other _ (by decide)]; exact h.g7
end
def layA (t : Int) (w : Nat) (hd : Int) : RAct := ⟨t, w, 3, hd, 0, 0, 0, 0, 0⟩
theorem layA_AB {r : Rite} {t hd : Int} {w : Nat} (hw : w < r.people.length) (hh : hd = 0 ∨ hd = 1) : AB r w (layA t w hd) :=
 ⟨rfl, hw, hh, ⟨by simp [layA], by simp [layA]⟩, fun h => by simp [layA] at h, fun h => by simp [layA] at h, fun h => by simp [layA] at h, by simp [formB, layA]⟩
theorem lay_made {r0 : Rite} {acts : List RAct} {s : Scene} {t hd : Int} {w : Nat} (h : Made r0 acts s t) (hw : w < r0.people.length) (hh : hd = 0 ∨ hd = 1) (h0 : 0 ≤ handAt s.hands w hd) :
  posV r0 s w (layA t w hd) = true ∧ Made r0 (acts ++ [layA t w hd]) (doV s w (layA t w hd)) (t + 1) ∧ handAt (doV s w (layA t w hd)).hands w hd = -1 ∧
  (∀ w' hd', (hd' = 0 ∨ hd' = 1) → ¬ (w' = w ∧ hd' = hd) → handAt (doV s w (layA t w hd)).hands w' hd' = handAt s.hands w' hd') := by
 have pa : posV r0 s w (layA t w hd) = true := by rw [posV_3 rfl]; exact decide_eq_true h0
 have hA := layA_AB (r := r0) (t := t) hw hh
 have ew : (layA t w hd).who.toNat = w := by simp [layA]
 have hwh : w < s.hands.length := by rw [h.snd.hl]; exact hw
 refine ⟨pa, ?_, ?_, fun w' hd' h1 h2 => ?_⟩
 ·have := h.grp (g := [layA t w hd]) (t' := t + 1) ⟨fun b hb => by simp only [List.mem_singleton] at hb; subst hb; rw [ew]; exact ⟨hA, pa⟩, List.pairwise_singleton ..⟩ (by simp) (fun b hb => by simp only [List.mem_singleton] at hb; subst hb; exact ⟨rfl, rfl, rfl⟩) (by omega)
  rwa [doG_cons, ew, doG_nil] at this
 ·rw [doV_3 rfl]
  show handAt (putHand s.hands w hd (-1)) w hd = -1
  rw [put_at w hd hwh hh hh, if_pos ⟨rfl, rfl⟩]
 ·rw [doV_3 rfl]
  show handAt (putHand s.hands w hd (-1)) w' hd' = _
  rw [put_at w' hd' hwh hh h1, if_neg h2]
theorem made_nil {r0 : Rite} {s : Scene} {t hd : Int} {w : Nat} (h : Made r0 [] s t) (hw : w < r0.people.length) : handAt s.hands w hd = -1 := by
 have e : s = firstV r0 := by rw [h.sc]; rfl
 subst e
 unfold handAt
 have : (firstV r0).hands.getD w hands0 = empty := by
  rw [getD_lt (by simp [firstV]; exact hw)]; simp [firstV]
 rw [this]
 split <;> rfl
def lslots (L : Nat) (t : Int) (w : Nat) (hd : Int) : Slots := [(6, .bptr (L, 6) 0), (7, .bptr (L, 7) 0), (8, .bptr (L, 8) 0), (9, .pure (.int .i64 t)), (18, .pure (.int .i64 w)), (19, .pure (.int .i64 hd))]
theorem lay_step (r0 : Rite) (n : Nat) (hb : RB r0 n) (m : Nat) (hm : m ≤ 100000) (T : Int) (hT : T ≤ 1000000) (F : Fr) (acts : List RAct) (s : Scene) (q : Nat) (t : Int) (hR : RSt H.length r0 m T F acts s q t) (Q : GX → GSt → Prop) (w : Nat) (hw : w < r0.people.length) (hd : Int) (hh : hd = 0 ∨ hd = 1)
  (ih : ∀ F' acts' s' t', RSt H.length r0 (m + 1) (T + 1) F' acts' s' q t' → handAt s'.hands w hd = -1 → (∀ w' hd', (hd' = 0 ∨ hd' = 1) → ¬ (w' = w ∧ hd' = hd) → handAt s'.hands w' hd' = handAt s.hands w' hd') →
   WPL KC needT 11 (lp Tryz.f11 2) [6, 7, 8, 9, 18, 19] [6, 7, 8, 9, 18] Q (lslots H.length t' w (hd + 1)) ([] :: F' :: H) 174) :
  WPL KC needT 11 (lp Tryz.f11 2) [6, 7, 8, 9, 18, 19] [6, 7, 8, 9, 18] Q (lslots H.length t w hd) ([] :: F :: H) 174 := by
 have g7 := hR.fi.g7
 have g8 := hR.fi.g8
 obtain ⟨v2, hv2, gh⟩ := hR.fi.sc.h2
 have hS := hR.md.snd
 have hwh : w < s.hands.length := by rw [hS.hl]; exact hw
 have eh := hS.hl
 have pl := hb.pl
 have ml := hR.ml
 have t0 := hR.md.t0
 have tT := hR.tT
 have R := handAt_rng hS.toScB (w := w) (hand := hd) hw
 have hw1 := w64 (x := hd + 1) (by omega) (by omega)
 have hw2 := w64 (x := t + 1) (by omega) (by omega)
 have hlt : hd < 2 := by omega
 have ne : ¬ H.length = H.length + 1 := by omega
 obtain ⟨x, hx⟩ : ∃ x, handAt s.hands w hd = x := ⟨_, rfl⟩
 have hx' : handAt s.hands w hd = (if hd = 0 then s.hands[w].l else s.hands[w].r) := by
  unfold handAt; rw [getD_lt hwh]
 by_cases h0 : 0 ≤ x
 ·have a0 : acts ≠ [] := fun e => by
   subst e
   have := made_nil (hd := hd) hR.md hw
   omega
  obtain ⟨pa, M, z1, z2⟩ := lay_made hR.md hw hh (by rw [hx]; exact h0)
  have hA := layA_AB (r := r0) (t := t) hw hh
  obtain ⟨F2, fi2, dd⟩ := do_at2 hR.q2 hR.fi (DoB_of hS hA pa) (by omega) [(20, abox (layA t w hd))] [] 135
  obtain ⟨F3, F4, fi4, ap, f37, f34⟩ := app_ex2 hR.q2 fi2 (layA t w hd) (by omega) a0 [(20, abox (layA t w hd))] [] 140
  have g72 := fi2.g7
  have g82 := fi2.g8
  have I := ih F4 _ _ (t + 1) ⟨fi4, hR.q2, M, by simp; omega, by omega⟩ z1 z2
  simp only [riteB, sceneB] at g7 g8 g72 g82 f37 f34
  simp only [scN, scH, RAct.row, layA, abox, List.map_append, List.map_cons, List.map_nil] at dd ap f37 f34
  apply WPL_step
  conv => arg 4; whnf
  rcases hh with rfl | rfl
  ·rw [if_pos rfl] at hx'
   have hx2 : s.hands[w].l = x := hx'.symm.trans hx
   simp [lslots] at I
   simp [lslots, g7, g8, gh, hv2, ne, hwh, Hands.row, hx2, h0, dd, g72, g82, ap, f37, f34, hw2]
   exact I
  ·rw [if_neg (by decide)] at hx'
   have hx2 : s.hands[w].r = x := hx'.symm.trans hx
   have w11 : IntKind.i64.wrap (1 + 1) = 2 := rfl
   simp [lslots] at I
   simp [lslots, g7, g8, gh, hv2, ne, hwh, Hands.row, hx2, h0, dd, g72, g82, ap, f37, f34, hw2, w11]
   exact I
 ·have z1 : handAt s.hands w hd = -1 := by omega
  have I := ih F acts s t ⟨hR.fi, hR.q2, hR.md, by omega, by omega⟩ z1 (fun w' hd' _ _ => rfl)
  simp only [riteB, sceneB] at g7 g8
  apply WPL_step
  conv => arg 4; whnf
  rcases hh with rfl | rfl
  ·rw [if_pos rfl] at hx'
   have hx2 : s.hands[w].l = x := hx'.symm.trans hx
   simp [lslots] at I
   simp [lslots, g7, g8, gh, hv2, ne, hwh, Hands.row, hx2, h0]
   exact I
  ·rw [if_neg (by decide)] at hx'
   have hx2 : s.hands[w].r = x := hx'.symm.trans hx
   have w11 : IntKind.i64.wrap (1 + 1) = 2 := rfl
   simp [lslots] at I
   simp [lslots, g7, g8, gh, hv2, ne, hwh, Hands.row, hx2, h0, w11]
   exact I
end
section
variable {H : Heap}
theorem lays_loop (r0 : Rite) (n : Nat) (hb : RB r0 n) (q : Nat) (Q : GX → GSt → Prop) : ∀ (k w m : Nat) (T : Int) (F : Fr) (acts : List RAct) (s : Scene) (t : Int), w + k = r0.people.length → m + 2 * k ≤ 100000 → T + 2 * k ≤ 1000000 → RSt H.length r0 m T F acts s q t →
    (∀ w' hd', w' < w → (hd' = 0 ∨ hd' = 1) → handAt s.hands w' hd' = -1) →
    (∀ F' acts' s' t', RSt H.length r0 (m + 2 * k) (T + 2 * k) F' acts' s' q t' → (∀ w' hd', w' < r0.people.length → (hd' = 0 ∨ hd' = 1) → handAt s'.hands w' hd' = -1) → Q (.exit 2) ⟨[(6, .bptr (H.length, 6) 0), (7, .bptr (H.length, 7) 0), (8, .bptr (H.length, 8) 0)], F' :: H, 174⟩) →
    WPL KC needT 11 (lp Tryz.f11 1) [6, 7, 8, 9, 18] [6, 7, 8] Q [(6, .bptr (H.length, 6) 0), (7, .bptr (H.length, 7) 0), (8, .bptr (H.length, 8) 0), (9, .pure (.int .i64 t)), (18, .pure (.int .i64 w))] (F :: H) 174 := by
  have pl := hb.pl
  intro k
  induction k with
  | zero =>
    intro w m T F acts s t hw hm hT hR hz hq
    have g7 := hR.fi.g7
    simp only [riteB] at g7
    have hwl : ¬ w < r0.people.length := by omega
    apply WPL_step
    conv => arg 4; whnf
    simp [g7, hwl]
    exact hq F acts s t (by simpa using hR) (fun w' hd' h1 h2 => hz w' hd' (by omega) h2)
  | succ k ih =>
    intro w m T F acts s t hw hm hT hR hz hq
    have g7 := hR.fi.g7
    simp only [riteB] at g7
    have hwl : w < r0.people.length := by omega
    have hw1 := w64 (x := (w : Int) + 1) (by omega) (by omega)
    apply WPL_step
    conv => arg 4; whnf
    simp [g7, hwl]
    refine lay_step r0 n hb m (by omega) T (by omega) F acts s q t hR _ w hwl 0 (.inl rfl) (fun F1 acts1 s1 t1 hR1 z1 y1 => ?_)
    refine lay_step r0 n hb (m + 1) (by omega) (T + 1) (by omega) F1 acts1 s1 q t1 hR1 _ w hwl (0 + 1) (.inr rfl) (fun F2 acts2 s2 t2 hR2 z2 y2 => ?_)
    apply WPL_step
    conv => arg 4; whnf
    simp [lslots, hw1]
    have hR2' : RSt H.length r0 (m + 2) (T + 2) F2 acts2 s2 q t2 := ⟨hR2.fi, hR2.q2, hR2.md, hR2.ml, by have := hR2.tT; omega⟩
    refine ih (w + 1) (m + 2) (T + 2) F2 acts2 s2 t2 (by omega) (by omega) (by omega) hR2' (fun w' hd' h1 h2 => ?_) (fun F' acts' s' t' hR' h' => hq F' acts' s' t' ?_ h')
    · by_cases e : w' = w
      · subst e
        rcases h2 with rfl | rfl
        · rw [y2 w' 0 (.inl rfl) (by simp)]; exact z1
        · simpa using z2
      · rw [y2 w' hd' h2 (fun h => e h.1), y1 w' hd' h2 (fun h => e h.1)]
        exact hz w' hd' (by omega) h2
    · have a := hR'.ml
      have b := hR'.tT
      exact ⟨hR'.fi, hR'.q2, hR'.md, by omega, by omega⟩
def finT (t : Thing) (sp : Spot) : Thing := { t with home := sp.cell, want := sp.state }
def finL (ts : List Thing) (sps : List Spot) (i : Nat) : List Thing := ts.mapIdx fun j t => if j < i then finT t (sps.getD j spot0) else t
theorem finL_len (ts : List Thing) (sps : List Spot) (i : Nat) : (finL ts sps i).length = ts.length := by simp [finL]
theorem finL_get (ts : List Thing) (sps : List Spot) (i j : Nat) (h : j < ts.length) : (finL ts sps i)[j]'(by simpa [finL] using h) = if j < i then finT ts[j] (sps.getD j spot0) else ts[j] := by simp [finL]
theorem finL_succ (ts : List Thing) (sps : List Spot) (i : Nat) (h : i < ts.length) : finL ts sps (i + 1) = (finL ts sps i).set i (finT ts[i] (sps.getD i spot0)) := by
 refine List.ext_getElem (by simp [finL]) fun j h1 h2 => ?_
 have hj : j < ts.length := by simpa [finL] using h1
 rw [List.getElem_set, finL_get _ _ _ _ hj, finL_get _ _ _ _ hj]
 by_cases e : i = j
 ·subst e
  simp
 ·rw [if_neg e]
  by_cases h3 : j < i
  ·rw [if_pos h3, if_pos (by omega)]
  ·rw [if_neg h3, if_neg (by omega)]
structure FT (L : Nat) (F : Fr) (r0 : Rite) (acts : List RAct) (s : Scene) (q : Nat) (ts : List Thing) : Prop where
 g6 : F.get 6 = some zbox
 g7 : F.get 7 = some (riteB L r0 acts)
 g8 : F.get 8 = some (sceneB L q s)
 gp : F.get 188441 = some (.arr 2 (r0.people.map Person.row) 0 false)
 gl : r0.lapses ≠ [] → F.get 393241 = some (.arr 1 (r0.lapses.map irow) 0 false)
 ga : acts ≠ [] → F.get 62 = some (.arr 9 (acts.map RAct.row) 0 false)
 h3 : ∃ v, v ≤ s.things.length ∧ F.get (key3 q) = some (.arr 2 (s.things.map Spot.row) v false)
 gt : ∃ v, v ≤ ts.length ∧ F.get 339993 = some (.arr 5 (ts.map Thing.row) v false)
 tl : ts.length = r0.things.length
theorem FT.ins {L : Nat} {F : Fr} {r0 : Rite} {acts : List RAct} {s : Scene} {q : Nat} {ts ts' : List Thing} (hq : q ≤ 2) (h : FT L F r0 acts s q ts) {v : Nat} (hv : v ≤ ts'.length) (hl : ts'.length = ts.length) : FT L (F.ins 339993 (.arr 5 (ts'.map Thing.row) v false)) r0 acts s q ts' where
 g6 := (Fr.get_ins_other _ (by decide) _).trans h.g6
 g7 := (Fr.get_ins_other _ (by decide) _).trans h.g7
 g8 := (Fr.get_ins_other _ (by decide) _).trans h.g8
 gp := (Fr.get_ins_other _ (by decide) _).trans h.gp
 gl := fun hl => (Fr.get_ins_other _ (by decide) _).trans (h.gl hl)
 ga := fun hl => (Fr.get_ins_other _ (by decide) _).trans (h.ga hl)
 h3 := by
  obtain ⟨v, a, b⟩ := h.h3
  exact ⟨v, a, (Fr.get_ins_other _ ((keys_fix q hq).2.2 339993 (by decide)).symm _).trans b⟩
 gt := ⟨v, hv, Fr.get_ins ..⟩
 tl := hl.trans h.tl
theorem ends_loop (r0 : Rite) (n : Nat) (hb : RB r0 n) (acts : List RAct) (s : Scene) (q : Nat) (hq : q ≤ 2) (hsl : s.things.length = r0.things.length) (Q : GX → GSt → Prop) : ∀ (k i : Nat) (F : Fr) (ts : List Thing), i + k = r0.things.length → FT H.length F r0 acts s q ts → ts = finL r0.things s.things i →
    (∀ F', FT H.length F' r0 acts s q (finL r0.things s.things r0.things.length) → Q (.exit 6) ⟨[(6, .bptr (H.length, 6) 0), (7, .bptr (H.length, 7) 0)], F' :: H, 174⟩) →
    WPL KC needT 11 (lp Tryz.f11 3) [6, 7, 8, 21] [6, 7] Q [(6, .bptr (H.length, 6) 0), (7, .bptr (H.length, 7) 0), (8, .bptr (H.length, 8) 0), (21, .pure (.int .i64 i))] (F :: H) 174 := by
  have tl := hb.tl
  intro k
  induction k with
  | zero =>
    intro i F ts hi h hts hq'
    have g7 := h.g7
    simp only [riteB] at g7
    have hwl : ¬ i < r0.things.length := by omega
    apply WPL_step
    conv => arg 4; whnf
    simp [g7, hwl]
    have e : i = r0.things.length := by omega
    subst e
    rw [hts] at h
    exact hq' F h
  | succ k ih =>
    intro i F ts hi h hts hq'
    have g7 := h.g7
    have g8 := h.g8
    simp only [riteB, sceneB] at g7 g8
    obtain ⟨v3, a3, b3⟩ := h.h3
    obtain ⟨vt, at', bt⟩ := h.gt
    have tl' := h.tl
    have hwl : i < r0.things.length := by omega
    have hil : i < ts.length := by omega
    have his : i < s.things.length := by omega
    have hw1 := w64 (x := (i : Int) + 1) (by omega) (by omega)
    have ne : ¬ H.length = H.length + 1 := by omega
    have nk : key3 q ≠ 339993 := ((keys_fix q hq).2.2 339993 (by decide)).symm
    have I := fun ts' h1 h2 => ih (i + 1) (F.ins 339993 (.arr 5 (ts'.map Thing.row) ts'.length false)) ts' (by omega) (h.ins hq (Nat.le_refl _) h1) h2 hq'
    have a3' : v3 ≤ r0.things.length := by omega
    have at2 : vt ≤ r0.things.length := by omega
    apply WPL_step
    conv => arg 4; whnf
    simp [g7, g8, hwl, b3, bt, a3', at2, ne, hil, his, tl', hsl, hw1, Spot.row, Thing.row, Fr.get_ins, Fr.get_ins_other, Fr.ins_ins, nk]
    have ei : ts[i] = r0.things[i] := by
      subst hts
      rw [finL_get _ _ _ _ hwl, if_neg (by omega)]
    have I2 := I (ts.set i (finT r0.things[i] (s.things.getD i spot0))) (by simp) (by rw [hts, finL_succ _ _ _ hwl])
    rw [getD_lt his] at I2
    simp [Thing.row, finT, tl', ei] at I2 ⊢
    exact I2
end
section
variable {c : Nat} {H : Heap}
def G2 (L : Nat) (r0 : Rite) : Fr := apF 393241 1 (r0.lapses.map irow) [(6, zbox), (7, riteB L r0 []), (188441, .arr 2 (r0.people.map Person.row) 0 false), (339993, .arr 5 (r0.things.map Thing.row) 0 false)]
def G4 (L : Nat) (r0 : Rite) : Fr := apF 393241 1 (r0.lapses.map irow) [(6, zbox), (7, riteB L r0 []), (8, sceneB L 0 (firstV r0)), (90139, .arr 1 ((firstV r0).people.map irow) 0 false), (110619, .arr 2 ((firstV r0).hands.map Hands.row) 0 false), (188441, .arr 2 (r0.people.map Person.row) 0 false), (217115, .arr 2 ((firstV r0).things.map Spot.row) 0 false), (339993, .arr 5 (r0.things.map Thing.row) 0 false)]
theorem apF_srt {key es : Nat} {rows : List (List PV)} {fr : Fr} (h : fr.srt) : (apF key es rows fr).srt := by
 unfold apF
 split
 ·exact h
 ·exact Fr.ins_srt h
theorem apF_mem {key es : Nat} {rows : List (List PV)} {fr : Fr} {x : Nat × Blk} (hs : fr.srt) (h : x ∈ apF key es rows fr) : x = (key, .arr es rows 0 false) ∨ x ∈ fr := by
 unfold apF at h
 split at h
 ·exact .inr h
 ·rcases Fr.ins_mem hs h with e | e
  ·exact .inl e
  ·exact .inr e.1
theorem G4_srt (L : Nat) (r0 : Rite) : Fr.srt [(6, zbox), (7, riteB L r0 []), (8, sceneB L 0 (firstV r0)), (90139, .arr 1 ((firstV r0).people.map irow) 0 false), (110619, .arr 2 ((firstV r0).hands.map Hands.row) 0 false), (188441, .arr 2 (r0.people.map Person.row) 0 false), (217115, .arr 2 ((firstV r0).things.map Spot.row) 0 false), (339993, .arr 5 (r0.things.map Thing.row) 0 false)] := by
 simp [Fr.srt]
theorem G4_FI (L : Nat) (r0 : Rite) : FI L (G4 L r0) r0 [] (firstV r0) 0 where
 srt := apF_srt (G4_srt L r0)
 g6 := by unfold G4; rw [apF_get (by decide)]; simp
 g7 := by unfold G4; rw [apF_get (by decide)]; simp
 g8 := by unfold G4; rw [apF_get (by decide)]; simp
 gp := by unfold G4; rw [apF_get (by decide)]; simp
 gt := by unfold G4; rw [apF_get (by decide)]; simp
 gl := fun h => by unfold G4; rw [apF_self (by simpa using h)]
 ga0 := fun _ => by unfold G4; rw [apF_get (by decide)]; simp
 ga := fun h => absurd rfl h
 ref := fun x hx hne k hk => by
  rcases apF_mem (G4_srt L r0) hx with e | e
  ·subst e; rfl
  ·simp only [List.mem_cons, List.not_mem_nil, or_false] at e
   rcases e with rfl | rfl | rfl | rfl | rfl | rfl | rfl | rfl
   ·rfl
   ·exact riteB_ref hk
   ·exact absurd rfl hne
   ·rfl
   ·rfl
   ·rfl
   ·rfl
   ·rfl
 sc := ⟨⟨0, Nat.zero_le _, by unfold G4 key1; rw [apF_get (by decide)]; simp⟩, ⟨0, Nat.zero_le _, by unfold G4 key2; rw [apF_get (by decide)]; simp⟩, ⟨0, Nat.zero_le _, by unfold G4 key3; rw [apF_get (by decide)]; simp⟩⟩
 fam := fun k hk hg => by
  have n0 : k ≠ 393241 := fun e => by subst e; cases hk
  have ne : ∀ j, famKey j = false → k ≠ j := fun j hj e => by subst e; rw [hj] at hk; cases hk
  unfold G4 at hg
  rw [apF_get n0] at hg
  simp only [Fr.get_cons, Fr.get_nil] at hg
  rw [if_neg (ne 6 (by decide)), if_neg (ne 7 (by decide)), if_neg (ne 8 (by decide)), if_neg (ne 90139 (by decide)), if_neg (ne 110619 (by decide)), if_neg (ne 188441 (by decide)), if_neg (ne 217115 (by decide)), if_neg (ne 339993 (by decide))] at hg
  exact absurd rfl hg
theorem RB_of {r0 : Rite} (h : RoomB r0) : ∃ n : Nat, RB r0 n ∧ r0.wide * r0.deep = n := by
 obtain ⟨w, hw⟩ := Int.eq_ofNat_of_zero_le (show 0 ≤ r0.wide by have := h.w1; omega)
 obtain ⟨d, hd⟩ := Int.eq_ofNat_of_zero_le (show 0 ≤ r0.deep by have := h.d1; omega)
 have w1 := h.w1
 have w3 := h.w3
 have d1 := h.d1
 have d3 := h.d3
 have e : r0.wide * r0.deep = ((w * d : Nat) : Int) := by rw [hw, hd]; simp
 have l9 : w * d ≤ 3 * 3 := Nat.mul_le_mul (by omega) (by omega)
 have l1 : 0 < w * d := Nat.mul_pos (by omega) (by omega)
 exact ⟨w * d, ⟨by rw [e]; exact w64 (by omega) (by omega), l1, by omega, by omega, h.p3, h.t4, h.p0, h.t0, h.seen⟩, e⟩
theorem G2_rd {L : Nat} (hL : L = H.length) {r0 : Rite} (hs : r0.seen = []) : rdG (G2 L r0 :: H) (riteG L r0 []) (.agg (withA r0 []).row) := by
 subst hL
 have g : ∀ k, Heap.get (G2 H.length r0 :: H) (H.length, k) = (G2 H.length r0).get k := fun k => by simp
 rw [rowR]
 unfold riteG
 rw [rdG_agg]
 simp only [withA, rdL_cons, rdL_nil, rdC_pure, and_true, true_and]
 refine ⟨⟨_, 0, false, (g _).trans (by unfold G2; rw [apF_get (by decide)]; simp), Nat.zero_le _, by simp, rfl, rfl, rfl⟩, ⟨_, 0, false, (g _).trans (by unfold G2; rw [apF_get (by decide)]; simp), Nat.zero_le _, by simp, rfl, rfl, rfl⟩, ?_, rdC_apS fun hr => (g _).trans (by unfold G2; rw [apF_self hr]), rdC_apS fun hr => absurd rfl hr⟩
 rw [hs]; rfl
def finR (r0 : Rite) (acts : List RAct) (s : Scene) : Rite := { r0 with acts := acts, things := finL r0.things s.things r0.things.length }
structure RiteB (r0 : Rite) (acts : List RAct) (s : Scene) (m : Nat) : Prop where
 room : RoomB r0
 made : ∃ t : Int, Made r0 acts s t ∧ t ≤ 2 + m
 len : acts.length ≤ m
 hands : ∀ w' hd', w' < r0.people.length → (hd' = 0 ∨ hd' = 1) → handAt s.hands w' hd' = -1
def kt (c : Nat) : Nat := newKey c 339993
def kl (c : Nat) : Nat := newKey c 393241
def ka (c : Nat) : Nat := newKey c 62
theorem RiteOf_ok {nm : Nm} (hB0 : isBox H nm) {N : Nat} (hN : N ≤ 15) (hN1 : 1 ≤ N) :
  ∃ r0 acts s wd, RiteB r0 acts s (2 * N + 6) ∧ gcall KC (geval KC) 11 [.bptr nm 0, .pure (.int .i64 3), .pure (.int .i64 N)] c H =
   some (.pure (.agg (finR r0 acts s).row), H.set nm (wbox wd)) := by
 have hlt := isBox_lt hB0
 have hset := isBox_set hB0
 have hne : ¬ nm.1 = H.length := by omega
 have hne2 : ¬ nm.1 = H.length + 1 := by omega
 have hle : nm.1 ≤ H.length := by omega
 suffices hs : WPv (gcall KC (geval KC) 11 [.bptr nm 0, .pure (.int .i64 3), .pure (.int .i64 N)] c H) (fun x => ∃ r0 acts s wd, RiteB r0 acts s (2 * N + 6) ∧ x = (.pure (.agg (finR r0 acts s).row), H.set nm (wbox wd))) by
  obtain ⟨x, hx, r0, acts, s, wd, h1, h3⟩ := hs
  exact ⟨r0, acts, s, wd, h1, by rw [hx, h3]⟩
 refine call_enter KC needT Tryz.func11 rfl rfl good11 rfl rfl rfl (by simp) (by omega) ?_
 have hl : ∀ w, (H.set nm (wbox w)).length = H.length := fun w => Heap.length_set _ _ _
 obtain ⟨r0, wd1, hRB, eroom⟩ := roomOf_ok (c := 24) (H := [(6, zbox)] :: H) (nm := nm) (isBox_up hB0) (by simp [newKey]) (by simp [newKey]) (by simp [newKey]) (fun k e => hne (by rw [e]; simp))
 obtain ⟨n, hb, hn⟩ := RB_of hRB
 have k1 : newKey 24 46 = 188441 := by decide
 have k2 : newKey 24 83 = 339993 := by decide
 have k3 : newKey 24 96 = 393241 := by decide
 have f1 : newKey 26 22 = 90139 := by decide
 have f2 : newKey 26 27 = 110619 := by decide
 have f3 : newKey 26 53 = 217115 := by decide
 have hroom : apSet (Heap.set (Heap.set ([(6, zbox)] :: H.set nm (wbox wd1)) (H.length, 188441) (.arr 2 (r0.people.map Person.row) 0 false)) (H.length, 339993) (.arr 5 (r0.things.map Thing.row) 0 false)) (H.length, 393241) 1 (r0.lapses.map irow) = apF 393241 1 (r0.lapses.map irow) [(6, zbox), (188441, .arr 2 (r0.people.map Person.row) 0 false), (339993, .arr 5 (r0.things.map Thing.row) 0 false)] :: H.set nm (wbox wd1) := by
  unfold apSet apF
  by_cases hls : r0.lapses.map irow = []
  ·rw [if_pos hls, if_pos hls]; simp [hl]
  ·rw [if_neg hls, if_neg hls]; simp [hl]
 simp only [List.length_cons, Nat.add_sub_cancel, k1, k2, k3, Heap.set_up hlt, hroom] at eroom
 have efirst := firstB_ok (c := 26) (H := G2 H.length r0 :: H.set nm (wbox wd1)) (withA r0 []) (G2_rd (H := H.set nm (wbox wd1)) (hl _).symm hRB.seen) hRB.p0 hRB.t0 (by show r0.people.length ≤ _; have := hb.pl; omega) (by show r0.things.length ≤ _; have := hb.tl; omega) (by simp) (by simp [hl, f1, G2]) (by simp [hl, f2, G2]) (by simp [hl, f3, G2])
 have hfirst : scSet (G2 H.length r0 :: H.set nm (wbox wd1)) (H.length, 90139) (H.length, 110619) (H.length, 217115) 0 0 0 (firstV (withA r0 [])) = apF 393241 1 (r0.lapses.map irow) [(6, zbox), (7, riteB H.length r0 []), (90139, .arr 1 ((firstV r0).people.map irow) 0 false), (110619, .arr 2 ((firstV r0).hands.map Hands.row) 0 false), (188441, .arr 2 (r0.people.map Person.row) 0 false), (217115, .arr 2 ((firstV r0).things.map Spot.row) 0 false), (339993, .arr 5 (r0.things.map Thing.row) 0 false)] :: H.set nm (wbox wd1) := by
  show scSet _ _ _ _ 0 0 0 (firstV r0) = _
  simp [scSet, hl, G2]
 simp only [List.length_cons, Nat.add_sub_cancel, hl, f1, f2, f3, hfirst] at efirst
 obtain ⟨t, wd2, e2, ht⟩ := upR_get wd1 3 (by omega) (by omega)
 obtain ⟨i, wd3, e3, hi1, hi2⟩ := anyR_get wd2 N (by omega) (by omega)
 have hB := fun w f0 => box1 hlt w f0
 have hW := fun w f0 => word1 hlt w f0
 have e4 : riteG H.length r0 [] = roomG (H.length, 188441) (H.length, 339993) (H.length, 393241) r0 := rfl
 rw [e4] at efirst
 simp [zbox, roomG, scH, riteB, G2, apS_nil] at eroom efirst
 have RS : RSt H.length r0 0 2 (G4 H.length r0) [] (firstV r0) 0 t := ⟨G4_FI _ _, by omega, Made.first hRB (by omega), by simp, by omega⟩
 have L1 := fun Q => made_loop (H := H) hlt r0 n hb hn Q i 0 2 (G4 H.length r0) [] (firstV r0) 0 t wd3 (by omega) (by omega) (by omega) RS
 simp [mslots, G4, riteB, sceneB, key1, key2, key3, zbox, apS_nil] at L1
 simp [zbox, eroom, hl, efirst, up_ok, any_ok, hB, hW, hne, hlt, hle, Heap.set_up, e2, e3]
 refine L1 _ fun F1 acts1 s1 q1 t1 wd4 hR1 => ?_
 clear L1
 simp
 have L2 := fun Q => lays_loop (H := H.set nm (wbox wd4)) r0 n hb q1 Q r0.people.length 0 (2 * i) (2 + 2 * i) F1 acts1 s1 t1 (by omega) (by have := hb.pl; omega) (by have := hb.pl; omega) (by rw [hl]; exact hR1) (fun w' hd' h => absurd h (by omega))
 simp only [hl] at L2
 refine L2 _ fun F2 acts2 s2 t2 hR2 hz => ?_
 clear L2
 simp
 have L3 := fun Q => ends_loop (H := H.set nm (wbox wd4)) r0 n hb acts2 s2 q1 hR2.q2 hR2.md.snd.tl Q r0.things.length 0 F2 r0.things (by omega) (by
  rw [hl]
  exact ⟨hR2.fi.g6, hR2.fi.g7, hR2.fi.g8, hR2.fi.gp, hR2.fi.gl, hR2.fi.ga, hR2.fi.sc.h3, ⟨0, Nat.zero_le _, hR2.fi.gt⟩, rfl⟩) (by
  refine List.ext_getElem (by simp [finL]) fun j h1 h2 => ?_
  rw [finL_get _ _ _ _ h1, if_neg (by omega)])
 simp only [hl] at L3
 refine L3 _ fun F3 hF => ?_
 clear L3
 have g6 := hF.g6
 have g7 := hF.g7
 obtain ⟨v, hv, gt⟩ := hF.gt
 simp only [zbox, riteB] at g6 g7
 have p3 := hRB.p3
 have ml := hR2.ml
 have tT := hR2.tT
 have hRes : RiteB r0 acts2 s2 (2 * N + 6) := ⟨hRB, ⟨t2, hR2.md, by omega⟩, by omega, hz⟩
 simp [g6, g7, hl, Fr.get_ins]
 have gp' := hF.gp
 have gl' := hF.gl
 have ga' := hF.ga
 have tl : (finL r0.things s2.things r0.things.length).length = r0.things.length := finL_len _ _ _
 suffices hs : ∀ x, gleave KC 11 c (.agg [.pure (.int .i64 r0.wide), .pure (.int .i64 r0.deep), .hdr (H.length, 188441) 2 r0.people.length 0 r0.people.length, .hdr (H.length, 339993) 5 r0.things.length 0 r0.things.length, .nils, apS (H.length, 393241) 1 (r0.lapses.map irow), apS (H.length, 62) 9 (acts2.map RAct.row)]) (F3.ins 6 x :: H.set nm (wbox wd4)) =
   some (.pure (.agg (finR r0 acts2 s2).row), H.set nm (wbox wd4)) by
  rw [hs, WPv_some]
  exact ⟨r0, acts2, s2, hRes, wd4, rfl⟩
 intro x
 have e6 : ∀ k, k ≠ 6 → (F3.ins 6 x).get k = F3.get k := fun k h => Fr.get_ins_other _ h _
 have e1 := (e6 188441 (by decide)).trans gp'
 have e2 := (e6 339993 (by decide)).trans gt
 have e3 := fun h => (e6 393241 (by decide)).trans (gl' h)
 have e4 := fun h => (e6 62 (by decide)).trans (ga' h)
 generalize F3.ins 6 x = F5 at e1 e2 e3 e4
 rw [gleave_free (by simp)]
 have lt : (H.set nm (wbox wd4)).length - 1 < H.length := by rw [hl]; omega
 have hv' : v ≤ r0.things.length := by rw [← tl]; exact hv
 have nl : ¬ H.length ≤ H.length - 1 := by omega
 have q1 : ∀ k, Heap.get (F5 :: H.set nm (wbox wd4)) (H.length, k) = F5.get k := fun k => by simp [hl]
 have tk1 : List.take r0.people.length (r0.people.map Person.row) = r0.people.map Person.row := List.take_of_length_le (by simp)
 have tk2 : List.take r0.things.length ((finL r0.things s2.things r0.things.length).map Thing.row) = (finL r0.things s2.things r0.things.length).map Thing.row := List.take_of_length_le (by simp [tl])
 have hc1 : clean1 (F5 :: H.set nm (wbox wd4)) ((H.set nm (wbox wd4)).length - 1) (.hdr (H.length, 188441) 2 r0.people.length 0 r0.people.length) = .pure (.slice (r0.people.map Person.row)) := by
  simp [hl, nl, q1, e1, tk1]
 have hc2 : clean1 (F5 :: H.set nm (wbox wd4)) ((H.set nm (wbox wd4)).length - 1) (.hdr (H.length, 339993) 5 r0.things.length 0 r0.things.length) = .pure (.slice ((finL r0.things s2.things r0.things.length).map Thing.row)) := by
  simp [hl, nl, q1, e2, tk2, tl, hv']
 have hc3 : clean1 (F5 :: H.set nm (wbox wd4)) ((H.set nm (wbox wd4)).length - 1) (apS (H.length, 393241) 1 (r0.lapses.map irow)) = if r0.lapses.map irow = [] then .nils else .pure (.slice (r0.lapses.map irow)) := clean1_apS (hl _) lt (fun h => e3 (by simpa using h))
 have hc4 : clean1 (F5 :: H.set nm (wbox wd4)) ((H.set nm (wbox wd4)).length - 1) (apS (H.length, 62) 9 (acts2.map RAct.row)) = if acts2.map RAct.row = [] then .nils else .pure (.slice (acts2.map RAct.row)) := clean1_apS (hl _) lt (fun h => e4 (by simpa using h))
 rw [clean_agg]
 have e : canon (mkAgg ([.pure (.int .i64 r0.wide), .pure (.int .i64 r0.deep), .hdr (H.length, 188441) 2 r0.people.length 0 r0.people.length, .hdr (H.length, 339993) 5 r0.things.length 0 r0.things.length, .nils, apS (H.length, 393241) 1 (r0.lapses.map irow), apS (H.length, 62) 9 (acts2.map RAct.row)].map (clean1 (F5 :: H.set nm (wbox wd4)) ((H.set nm (wbox wd4)).length - 1)))) = .pure (.agg (finR r0 acts2 s2).row) := by
  refine canon_mk ?_
  have ci : ∀ rows : List (List PV), canon1 (if rows = [] then .nils else .pure (.slice rows)) = .pure (.slice rows) := fun rows => by
   split
   ·rename_i h; subst h; rfl
   ·rfl
  simp only [List.map_cons, List.map_nil, clean1_pure, hc1, hc2, hc3, hc4, ci]
  rw [rowR]
  show _ = _
  simp [finR, hRB.seen]
 rw [e]
end
section
variable {c : Nat} {H : Heap}
theorem apK_from {l key es bytes : Nat} {rows : List (List PV)} {fr : Fr} (hl : H.length = l) (hf : fr.get key = none) (hb : rows.length * bytes ≤ 1099511627776) :
  apK l key .nils es bytes rows (fr :: H) = some (apS (l, key) es rows, apF key es rows fr :: H) := by
 subst hl
 unfold apS apF
 by_cases h : rows = []
 ·subst h; simp
 ·have : ¬ H.length + 1 ≤ H.length := by omega
  simp [h, hf, hb, this]
theorem ints_ok (l : List Int) (hn : l.length ≤ 1000000) (hH : 0 < H.length) : gcall KC (geval KC) 56 [.pure (.slice (l.map irow))] c H = some (.pure (.slice (l.map irow)), H) := by
 refine WPv_eq (call_enter KC needT Tryz.func56 rfl rfl good56 rfl rfl rfl (by simp) hH ?_)
 have hb : l.length * 8 ≤ 1099511627776 := by omega
 have A := apK_from (H := H) (l := H.length) (key := 5) (es := 1) (bytes := 8) (rows := l.map irow) (fr := []) rfl rfl (by simpa using hb)
 have hall : ∀ x : Int, (irow x).length = 1 := fun x => rfl
 simp [A, hall]
 rw [gleave_free]
 ·rw [WPv_some, cc_apS rfl (by omega)]
 ·simp
def ownG (n2 n3 n7 : Nm) (r : Rite) : GV := .agg [.pure (.int .i64 r.wide), .pure (.int .i64 r.deep), apS n2 2 (r.people.map Person.row), apS n3 5 (r.things.map Thing.row), .pure (.slice (r.seen.map irow)), .pure (.slice (r.lapses.map irow)), apS n7 9 (r.acts.map RAct.row)]
def ownH (H : Heap) (n2 n3 n7 : Nm) (r : Rite) : Heap := apSet (apSet (apSet H n2 2 (r.people.map Person.row)) n3 5 (r.things.map Thing.row)) n7 9 (r.acts.map RAct.row)
theorem ownRite_ok (r : Rite) (h : Short r) (hH : 0 < H.length)
  (hf1 : H.get (H.length - 1, newKey c 6) = none) (hf2 : H.get (H.length - 1, newKey c 10) = none) (hf3 : H.get (H.length - 1, newKey c 22) = none) :
  gcall KC (geval KC) 13 [.pure (.agg r.row)] c H = some (ownG (H.length - 1, newKey c 6) (H.length - 1, newKey c 10) (H.length - 1, newKey c 22) r, ownH H (H.length - 1, newKey c 6) (H.length - 1, newKey c 10) (H.length - 1, newKey c 22) r) := by
 refine WPv_eq (call_enter KC needT Tryz.func13 rfl rfl good13 rfl rfl rfl (by simp) hH ?_)
 rw [rowR]
 have h1 := h.p
 have h2 := h.t
 have h3 := h.a
 have b1 : r.people.length * 16 ≤ 1099511627776 := by omega
 have b2 : r.things.length * 40 ≤ 1099511627776 := by omega
 have b3 : r.acts.length * 72 ≤ 1099511627776 := by omega
 have l1 : ∀ x : Person, x.row.length = 2 := fun x => rfl
 have l2 : ∀ x : Thing, x.row.length = 5 := fun x => rfl
 have l3 : ∀ x : RAct, x.row.length = 9 := fun x => rfl
 have I1 := fun c (H : Heap) (hH : 0 < H.length) => ints_ok (c := c) (H := H) r.seen h.s hH
 have I2 := fun c (H : Heap) (hH : 0 < H.length) => ints_ok (c := c) (H := H) r.lapses h.l hH
 have A1 := fun fr hf => apK_from (H := H) (l := H.length) (key := 6) (es := 2) (bytes := 16) (rows := r.people.map Person.row) (fr := fr) rfl hf (by simpa using b1)
 have A2 := fun fr hf => apK_from (H := H) (l := H.length) (key := 10) (es := 5) (bytes := 40) (rows := r.things.map Thing.row) (fr := fr) rfl hf (by simpa using b2)
 have A3 := fun fr hf => apK_from (H := H) (l := H.length) (key := 22) (es := 9) (bytes := 72) (rows := r.acts.map RAct.row) (fr := fr) rfl hf (by simpa using b3)
 simp [A1, A2, A3, l1, l2, l3, I1, I2]
 have n12 : newKey c 6 ≠ newKey c 10 := by unfold newKey; omega
 have n13 : newKey c 6 ≠ newKey c 22 := by unfold newKey; omega
 have n23 : newKey c 10 ≠ newKey c 22 := by unfold newKey; omega
 have nn : ∀ a b : Nat, a ≠ b → ((H.length - 1, b) : Nm) ≠ (H.length - 1, a) := fun a b h e => h (Prod.mk.inj e).2.symm
 have gg : ∀ (H' : Heap) (a b : Nat) (x : Blk), a ≠ b → (H'.set (H.length - 1, a) x).get (H.length - 1, b) = H'.get (H.length - 1, b) := fun H' a b x h => Heap.get_set_other x (nn a b h)
 have d2 := fun x => (gg H _ _ x n12).trans hf2
 have d3 := fun x => (gg H _ _ x n13).trans hf3
 have d3' := fun x => (gg H _ _ x n23).trans hf3
 have d4 := fun x y => (gg (H.set (H.length - 1, newKey c 6) x) _ _ y n23).trans (d3 x)
 suffices hs : ∀ x y, gleave KC 13 c (ownG (H.length, 6) (H.length, 10) (H.length, 22) r) (apF 22 9 (r.acts.map RAct.row) (apF 10 5 (r.things.map Thing.row) (apF 6 2 (r.people.map Person.row) [(1, x), (2, y)])) :: H) =
   some (ownG (H.length - 1, newKey c 6) (H.length - 1, newKey c 10) (H.length - 1, newKey c 22) r, ownH H (H.length - 1, newKey c 6) (H.length - 1, newKey c 10) (H.length - 1, newKey c 22) r) by
  have := hs
  unfold ownG at this
  rw [this, WPv_some]
  rfl
 intro x y
 unfold ownG ownH
 by_cases e1 : r.people = []
 ·by_cases e2 : r.things = []
  ·by_cases e3 : r.acts = []
   ·simp [e1, e2, e3, apS, apF, gleave_keep, refs, refs2, refs1, dedup, moveOut, cleanBlk, ren, ren2, ren1, apSet, hf1, hf2, hf3, d2, d3, d3', d4]
   ·simp [e1, e2, e3, apS, apF, gleave_keep, refs, refs2, refs1, dedup, moveOut, cleanBlk, ren, ren2, ren1, apSet, hf1, hf2, hf3, d2, d3, d3', d4]
  ·by_cases e3 : r.acts = []
   ·simp [e1, e2, e3, apS, apF, gleave_keep, refs, refs2, refs1, dedup, moveOut, cleanBlk, ren, ren2, ren1, apSet, hf1, hf2, hf3, d2, d3, d3', d4]
   ·simp [e1, e2, e3, apS, apF, gleave_keep, refs, refs2, refs1, dedup, moveOut, cleanBlk, ren, ren2, ren1, apSet, hf1, hf2, hf3, d2, d3, d3', d4]
 ·by_cases e2 : r.things = []
  ·by_cases e3 : r.acts = []
   ·simp [e1, e2, e3, apS, apF, gleave_keep, refs, refs2, refs1, dedup, moveOut, cleanBlk, ren, ren2, ren1, apSet, hf1, hf2, hf3, d2, d3, d3', d4]
   ·simp [e1, e2, e3, apS, apF, gleave_keep, refs, refs2, refs1, dedup, moveOut, cleanBlk, ren, ren2, ren1, apSet, hf1, hf2, hf3, d2, d3, d3', d4]
  ·by_cases e3 : r.acts = []
   ·simp [e1, e2, e3, apS, apF, gleave_keep, refs, refs2, refs1, dedup, moveOut, cleanBlk, ren, ren2, ren1, apSet, hf1, hf2, hf3, d2, d3, d3', d4]
   ·simp [e1, e2, e3, apS, apF, gleave_keep, refs, refs2, refs1, dedup, moveOut, cleanBlk, ren, ren2, ren1, apSet, hf1, hf2, hf3, d2, d3, d3', d4]
theorem apSet_1 {F : Fr} {l key es : Nat} {rows : List (List PV)} (hl : H.length = l) : apSet (F :: H) (l, key) es rows = apF key es rows F :: H := by
 subst hl
 unfold apSet apF
 split
 ·rfl
 ·simp
theorem apF_ins_self {key es : Nat} {rows : List (List PV)} {F : Fr} {b : Blk} : (apF key es rows F).ins key b = F.ins key b := by
 unfold apF
 split
 ·rfl
 ·exact Fr.ins_ins _
theorem checkB_ok {g : GV} (r : Rite) (h : Short r) (hg : rdG H g (.agg r.row)) (hH : 0 < H.length) : gcall KC (geval KC) 57 [g] c H = some (.pure (.int .i64 (checkF r)), H) :=
 bor_flat KC rfl rfl (frz1 hg) rfl hH (fun H hH => check_ok0 (c := c) r h.s h.l h.p h.t h.a hH) rfl
theorem checkRB_ok {g : GV} (r : Rite) (h : Short r) (hg : rdG H g (.agg r.row)) (hH : 0 < H.length) : gcall KC (geval KC) 60 [g] c H = some (.pure (.int .i64 (checkF r)), H) :=
 bor_flat KC rfl rfl (frz1 hg) rfl hH (fun H hH => checkR_ok0 (c := c) r h.s h.l h.p h.t hH) rfl
end
section
variable {c : Nat} {H : Heap}
theorem gcall_cln0 {K : Ctx} {rec : Rec} {f : FuncId} {args : List GV} (h1 : emptyArg args = false) (h2 : K.bor f = false) (h3 : K.frz f = false) : gcall K rec f args c H = gcall0 K rec f args c H := by
 unfold gcall
 simp [h1, h2, h3]
section
variable {x : List PV} {l : List (List PV)}
theorem nil22 : gnilEq KC .eql 22 (.pure (.slice (x :: l))) = some (.bool false) := by
 unfold gnilEq; rw [KC_P, Tryz.underlying22]; rfl
theorem nil23 : gnilEq KC .eql 23 (.pure (.slice (x :: l))) = some (.bool false) := by
 unfold gnilEq; rw [KC_P, Tryz.underlying23]; rfl
theorem nil24 : gnilEq KC .eql 24 (.pure (.slice (x :: l))) = some (.bool false) := by
 unfold gnilEq; rw [KC_P, Tryz.underlying24]; rfl
theorem nil25 : gnilEq KC .eql 25 (.pure (.slice (x :: l))) = some (.bool false) := by
 unfold gnilEq; rw [KC_P, Tryz.underlying25]; rfl
theorem nil38 : gnilEq KC .eql 38 (.pure (.slice (x :: l))) = some (.bool false) := by
 unfold gnilEq; rw [KC_P, Tryz.underlying38]; rfl
theorem nil39 : gnilEq KC .eql 39 (.pure (.slice (x :: l))) = some (.bool false) := by
 unfold gnilEq; rw [KC_P, Tryz.underlying39]; rfl
end
theorem cloneint_ok (l : List Int) (h0 : l ≠ []) (hn : l.length ≤ 1000000) (hH : 0 < H.length) (hf : H.get (H.length - 1, newKey c 7) = none) :
  gcall KC (geval KC) 99 [.pure (.slice (l.map irow))] c H = some (.hdr (H.length - 1, newKey c 7) 1 l.length 0 l.length, H.set (H.length - 1, newKey c 7) (.arr 1 (l.map irow) 0 false)) := by
 obtain ⟨x, l', rfl⟩ := List.exists_cons_of_ne_nil h0
 have hb : (l'.length + 1) * 8 ≤ 1099511627776 := by simp at hn; omega
 have hall : ∀ x : Int, (irow x).length = 1 := fun x => rfl
 have hnl : ¬ H.length + 1 ≤ H.length := by omega
 rw [gcall_cln0 rfl rfl rfl]
 refine WPv_eq (call_enter0 KC needT Tryz.func99 rfl rfl good99 (by simp) hH ?_)
 simp [nil22, nil23, nil24, nil25, nil38, nil39, hb, hall, hnl, gleave_keep, refs, refs2, refs1, dedup, moveOut, cleanBlk, hf, ren, ren2, ren1]
theorem cloneHint_ok (l : List Hands) (h0 : l ≠ []) (hn : l.length ≤ 1000000) (hH : 0 < H.length) (hf : H.get (H.length - 1, newKey c 7) = none) :
  gcall KC (geval KC) 100 [.pure (.slice (l.map Hands.row))] c H = some (.hdr (H.length - 1, newKey c 7) 2 l.length 0 l.length, H.set (H.length - 1, newKey c 7) (.arr 2 (l.map Hands.row) 0 false)) := by
 obtain ⟨x, l', rfl⟩ := List.exists_cons_of_ne_nil h0
 have hb : (l'.length + 1) * 16 ≤ 1099511627776 := by simp at hn; omega
 have hall : ∀ x : Hands, (Hands.row x).length = 2 := fun x => rfl
 have hnl : ¬ H.length + 1 ≤ H.length := by omega
 rw [gcall_cln0 rfl rfl rfl]
 refine WPv_eq (call_enter0 KC needT Tryz.func100 rfl rfl good100 (by simp) hH ?_)
 simp [nil22, nil23, nil24, nil25, nil38, nil39, hb, hall, hnl, gleave_keep, refs, refs2, refs1, dedup, moveOut, cleanBlk, hf, ren, ren2, ren1]
theorem cloneSpot_ok (l : List Spot) (h0 : l ≠ []) (hn : l.length ≤ 1000000) (hH : 0 < H.length) (hf : H.get (H.length - 1, newKey c 7) = none) :
  gcall KC (geval KC) 101 [.pure (.slice (l.map Spot.row))] c H = some (.hdr (H.length - 1, newKey c 7) 2 l.length 0 l.length, H.set (H.length - 1, newKey c 7) (.arr 2 (l.map Spot.row) 0 false)) := by
 obtain ⟨x, l', rfl⟩ := List.exists_cons_of_ne_nil h0
 have hb : (l'.length + 1) * 16 ≤ 1099511627776 := by simp at hn; omega
 have hall : ∀ x : Spot, (Spot.row x).length = 2 := fun x => rfl
 have hnl : ¬ H.length + 1 ≤ H.length := by omega
 rw [gcall_cln0 rfl rfl rfl]
 refine WPv_eq (call_enter0 KC needT Tryz.func101 rfl rfl good101 (by simp) hH ?_)
 simp [nil22, nil23, nil24, nil25, nil38, nil39, hb, hall, hnl, gleave_keep, refs, refs2, refs1, dedup, moveOut, cleanBlk, hf, ren, ren2, ren1]
theorem clonePerson_ok (l : List Person) (h0 : l ≠ []) (hn : l.length ≤ 1000000) (hH : 0 < H.length) (hf : H.get (H.length - 1, newKey c 7) = none) :
  gcall KC (geval KC) 102 [.pure (.slice (l.map Person.row))] c H = some (.hdr (H.length - 1, newKey c 7) 2 l.length 0 l.length, H.set (H.length - 1, newKey c 7) (.arr 2 (l.map Person.row) 0 false)) := by
 obtain ⟨x, l', rfl⟩ := List.exists_cons_of_ne_nil h0
 have hb : (l'.length + 1) * 16 ≤ 1099511627776 := by simp at hn; omega
 have hall : ∀ x : Person, (Person.row x).length = 2 := fun x => rfl
 have hnl : ¬ H.length + 1 ≤ H.length := by omega
 rw [gcall_cln0 rfl rfl rfl]
 refine WPv_eq (call_enter0 KC needT Tryz.func102 rfl rfl good102 (by simp) hH ?_)
 simp [nil22, nil23, nil24, nil25, nil38, nil39, hb, hall, hnl, gleave_keep, refs, refs2, refs1, dedup, moveOut, cleanBlk, hf, ren, ren2, ren1]
theorem cloneThing_ok (l : List Thing) (h0 : l ≠ []) (hn : l.length ≤ 1000000) (hH : 0 < H.length) (hf : H.get (H.length - 1, newKey c 7) = none) :
  gcall KC (geval KC) 103 [.pure (.slice (l.map Thing.row))] c H = some (.hdr (H.length - 1, newKey c 7) 5 l.length 0 l.length, H.set (H.length - 1, newKey c 7) (.arr 5 (l.map Thing.row) 0 false)) := by
 obtain ⟨x, l', rfl⟩ := List.exists_cons_of_ne_nil h0
 have hb : (l'.length + 1) * 40 ≤ 1099511627776 := by simp at hn; omega
 have hall : ∀ x : Thing, (Thing.row x).length = 5 := fun x => rfl
 have hnl : ¬ H.length + 1 ≤ H.length := by omega
 rw [gcall_cln0 rfl rfl rfl]
 refine WPv_eq (call_enter0 KC needT Tryz.func103 rfl rfl good103 (by simp) hH ?_)
 simp [nil22, nil23, nil24, nil25, nil38, nil39, hb, hall, hnl, gleave_keep, refs, refs2, refs1, dedup, moveOut, cleanBlk, hf, ren, ren2, ren1]
theorem cloneAct_ok (l : List RAct) (h0 : l ≠ []) (hn : l.length ≤ 1000000) (hH : 0 < H.length) (hf : H.get (H.length - 1, newKey c 7) = none) :
  gcall KC (geval KC) 75 [.pure (.slice (l.map RAct.row))] c H = some (.hdr (H.length - 1, newKey c 7) 9 l.length 0 l.length, H.set (H.length - 1, newKey c 7) (.arr 9 (l.map RAct.row) 0 false)) := by
 obtain ⟨x, l', rfl⟩ := List.exists_cons_of_ne_nil h0
 have hb : (l'.length + 1) * 72 ≤ 1099511627776 := by simp at hn; omega
 have hall : ∀ x : RAct, (RAct.row x).length = 9 := fun x => rfl
 have hnl : ¬ H.length + 1 ≤ H.length := by omega
 rw [gcall_cln0 rfl rfl rfl]
 refine WPv_eq (call_enter0 KC needT Tryz.func75 rfl rfl good75 (by simp) hH ?_)
 simp [nil22, nil23, nil24, nil25, nil38, nil39, hb, hall, hnl, gleave_keep, refs, refs2, refs1, dedup, moveOut, cleanBlk, hf, ren, ren2, ren1]
end
end Go.Gh
