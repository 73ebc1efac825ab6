/- A drawn region in the text's order: what is told at each operation. -/
import Derived.Test.YtgmohiojddnfgaaGreatDoorGhost24
namespace Go.Gh
set_option linter.unusedSimpArgs false
set_option linter.unusedVariables false

structure TS where
  s : Slots
  b : Heap
  f : Heap

def putS (s : Slots) : Option Tmp → GV → Slots
  | none, _ => s
  | some d, v => (d, v) :: s

theorem put_some {st st' : GSt} {d : Option Tmp} {v : GV} (h : st.put d v = some st') : st'.s = putS st.s d v ∧ st'.h = st.h ∧ st'.nt = st.nt ∧ ∀ t, d = some t → t < st.nt := by
  cases d with
  | none => simp only [GSt.put, Option.some.injEq] at h; subst h; exact ⟨rfl, rfl, rfl, fun t h => by cases h⟩
  | some d =>
    simp only [GSt.put] at h
    split at h
    · rename_i hd
      simp only [Option.some.injEq] at h; subst h
      exact ⟨rfl, rfl, rfl, fun t h => by cases h; exact hd⟩
    · cases h

section
variable (K : Ctx) (rec : Rec) (fn : FuncId) (all : List Oper) (pre : Array Nat) (st0 : GSt)

/-- Kind (0: not wanted, 1: it leaves the heap alone, 2: a new variable, 3: it may turn the heap), value, heap. -/
def dkind (o : Oper) (x : TS) : Option (Nat × GV × Heap) :=
  match wantedG all x.s o with
  | some false => some (0, gundef, x.f)
  | some true =>
    if opPure K fn o then (match gop K fn o x.s x.b with | some (v, _) => some (1, v, x.f) | none => none)
    else (match gstep K rec fn o x.s x.f with | some (v, H) => some (if isAlloc o then 2 else 3, v, H) | none => none)
  | none => none

def dT : Nat → TS
  | 0 => ⟨st0.s, st0.h, st0.h⟩
  | j + 1 =>
    match all[j]? with
    | some o => (match dkind K rec fn all o (dT j) with | some (k, v, H) => ⟨putS (dT j).s o.dst v, if k = 3 then H else (dT j).b, H⟩ | none => dT j)
    | none => dT j

def dk (j : Nat) : Nat := match all[j]? with | some o => (match dkind K rec fn all o (dT K rec fn all st0 j) with | some (k, _, _) => k | none => 0) | none => 0
def dv (j : Nat) : GV := match all[j]? with | some o => (match dkind K rec fn all o (dT K rec fn all st0 j) with | some (_, v, _) => v | none => gdead) | none => gdead

structure StepOk (nt j : Nat) (o : Oper) : Prop where
  kind : dkind K rec fn all o (dT K rec fn all st0 j) = some (dk K rec fn all st0 j, dv K rec fn all st0 j, (dT K rec fn all st0 (j + 1)).f)
  dst : ∀ d, o.dst = some d → d < nt
  ww : dk K rec fn all st0 j = 3 → ∀ x, x < j → dk K rec fn all st0 x = 3 → (pre.getD j 0).testBit x = true
  rw : dk K rec fn all st0 j = 1 → opR o = true → ∀ x, x < j → dk K rec fn all st0 x = 3 → (pre.getD j 0).testBit x = true ∨ sameAt K fn o (dT K rec fn all st0 j).s (dv K rec fn all st0 j) (dT K rec fn all st0 x).b = true
  wr : dk K rec fn all st0 j = 3 → ∀ q, q < j → dk K rec fn all st0 q = 1 → ∀ oq, all[q]? = some oq → opR oq = true →
    (pre.getD j 0).testBit q = true ∨ sameAt K fn oq (dT K rec fn all st0 q).s (dv K rec fn all st0 q) (dT K rec fn all st0 (j + 1)).f = true

theorem dT_succ {j : Nat} {o : Oper} {k : Nat} {v : GV} {H : Heap} (ho : all[j]? = some o) (hk : dkind K rec fn all o (dT K rec fn all st0 j) = some (k, v, H)) :
    dT K rec fn all st0 (j + 1) = ⟨putS (dT K rec fn all st0 j).s o.dst v, if k = 3 then H else (dT K rec fn all st0 j).b, H⟩ ∧ dk K rec fn all st0 j = k ∧ dv K rec fn all st0 j = v := by
  refine ⟨?_, ?_, ?_⟩
  · simp only [dT, ho, hk]
  · simp only [dk, ho, hk]
  · simp only [dv, ho, hk]

theorem gdraw_trace {st' : GSt} : ∀ (rest : List Oper) (i : Nat) (wl : List (Nat × Heap)) (rl : List RLog) (hb : Heap) (st : GSt), all.drop i = rest → (dT K rec fn all st0 i).s = st.s → (dT K rec fn all st0 i).b = hb →
    (dT K rec fn all st0 i).f = st.h → st.nt = st0.nt → (∀ x, x < i → dk K rec fn all st0 x = 3 → (x, (dT K rec fn all st0 x).b) ∈ wl) →
    (∀ q, q < i → dk K rec fn all st0 q = 1 → ∀ o, all[q]? = some o → opR o = true → (⟨q, o, (dT K rec fn all st0 q).s, dv K rec fn all st0 q⟩ : RLog) ∈ rl) →
    gdraw K rec fn all pre i rest wl rl hb st = some st' →
    (∀ j o, i ≤ j → all[j]? = some o → StepOk K rec fn all pre st0 st0.nt j o) ∧ st'.s = (dT K rec fn all st0 all.length).s ∧ st'.h = (dT K rec fn all st0 all.length).f ∧ st'.nt = st0.nt := by
  intro rest
  induction rest with
  | nil =>
    intro i wl rl hb st hd hs hbb hf hnt hwl hrl h
    simp only [gdraw, Option.some.injEq] at h; subst h
    have hlen : all.length ≤ i := List.drop_eq_nil_iff.1 hd
    have hT : ∀ j, all.length ≤ j → dT K rec fn all st0 j = dT K rec fn all st0 all.length := by
      intro j hj
      induction j with
      | zero => have : all.length = 0 := by omega
                rw [this]
      | succ j ih =>
        by_cases e : all.length = j + 1
        · rw [e]
        · have hn : all[j]? = none := List.getElem?_eq_none (by omega)
          rw [show dT K rec fn all st0 (j + 1) = dT K rec fn all st0 j by simp only [dT, hn]]
          exact ih (by omega)
    refine ⟨fun j o hij ho => ?_, ?_, ?_, hnt⟩
    · have := (List.getElem?_eq_some_iff.1 ho).1; omega
    · rw [← hT i hlen, hs]
    · rw [← hT i hlen, hf]
  | cons o r ih =>
    intro i wl rl hb st hd hs hbb hf hnt hwl hrl h
    have ho : all[i]? = some o := by
      have : (all.drop i)[0]? = some o := by rw [hd]; rfl
      rw [List.getElem?_drop] at this
      simpa using this
    have hd' : all.drop (i + 1) = r := by
      have : (all.drop i).drop 1 = r := by rw [hd]; rfl
      rwa [List.drop_drop] at this
    -- how the rest follows
    have go : ∀ (k : Nat) (v : GV) (H : Heap) (wl' : List (Nat × Heap)) (rl' : List RLog) (st1 : GSt), dkind K rec fn all o (dT K rec fn all st0 i) = some (k, v, H) →
        GSt.put { st with h := H } o.dst v = some st1 → (∀ x, x ∈ wl → x ∈ wl') → (∀ x, x ∈ rl → x ∈ rl') → (k = 3 → (i, hb) ∈ wl') → (k = 1 → opR o = true → (⟨i, o, st.s, v⟩ : RLog) ∈ rl') →
        (k = 3 → ∀ x, x ∈ wl → (pre.getD i 0).testBit x.1 = true) →
        (k = 1 → opR o = true → ∀ x, x ∈ wl → (pre.getD i 0).testBit x.1 = true ∨ sameAt K fn o st.s v x.2 = true) →
        (k = 3 → ∀ q, q ∈ rl → (pre.getD i 0).testBit q.i = true ∨ sameAt K fn q.o q.s q.v H = true) →
        gdraw K rec fn all pre (i + 1) r wl' rl' (if k = 3 then H else hb) st1 = some st' →
        (∀ j o, i ≤ j → all[j]? = some o → StepOk K rec fn all pre st0 st0.nt j o) ∧ st'.s = (dT K rec fn all st0 all.length).s ∧ st'.h = (dT K rec fn all st0 all.length).f ∧ st'.nt = st0.nt := by
      intro k v H wl' rl' st1 hk hput hw' hr' hwi hri c1 c2 c3 hg
      obtain ⟨e1, e2, e3⟩ := dT_succ K rec fn all st0 ho hk
      obtain ⟨p1, p2, p3, p4⟩ := put_some hput
      simp only at p1 p2 p3 p4
      obtain ⟨g1, g2⟩ := ih (i + 1) wl' rl' (if k = 3 then H else hb) st1 hd' (by rw [e1, p1, hs]) (by rw [e1, hbb]) (by rw [e1, p2]) (by rw [p3, hnt])
        (fun x hx hkx => by
          rcases Nat.lt_or_ge x i with h' | h'
          · exact hw' _ (hwl x h' hkx)
          · obtain rfl : x = i := by omega
            rw [hbb]; exact hwi (by rw [← e2, hkx]))
        (fun q hq hkq oq hoq hR => by
          rcases Nat.lt_or_ge q i with h' | h'
          · exact hr' _ (hrl q h' hkq oq hoq hR)
          · obtain rfl : q = i := by omega
            rw [ho] at hoq; cases hoq
            rw [hs, e3]; exact hri (by rw [← e2, hkq]) hR) hg
      refine ⟨fun j oj hij hoj => ?_, g2⟩
      by_cases e : i = j
      · subst e
        rw [ho] at hoj; cases hoj
        have e4 : (dT K rec fn all st0 (i + 1)).f = H := by rw [e1]
        exact ⟨by rw [e2, e3, e4]; exact hk, fun d hd => hnt ▸ p4 d hd, fun h3 x hx hkx => c1 (by rw [← e2, h3]) _ (hwl x hx hkx),
          fun h1 hR x hx hkx => by rw [hs, e3]; exact c2 (by rw [← e2, h1]) hR _ (hwl x hx hkx),
          fun h3 q hq hkq oq hoq hR => by rw [e4]; exact c3 (by rw [← e2, h3]) _ (hrl q hq hkq oq hoq hR)⟩
      · exact g1 j oj (by omega) hoj
    simp only [gdraw] at h
    have hst : st = { st with h := st.h } := rfl
    split at h
    · rename_i hw
      split at h
      · rename_i st1 hput
        refine go 0 gundef st.h wl rl st1 ?_ hput (fun _ h => h) (fun _ h => h) (by omega) (by omega) (by omega) (by omega) (by omega) (by simpa using h)
        simp only [dkind, hs, hw, hf]
      · cases h
    · rename_i hw
      split at h
      · rename_i hp
        split at h
        · rename_i v Hx hop
          have hk : dkind K rec fn all o (dT K rec fn all st0 i) = some (1, v, st.h) := by simp only [dkind, hs, hw, hp, hbb, hop, hf, if_true]
          split at h
          · rename_i st1 hput
            split at h
            · rename_i hR
              split at h
              · rename_i hall
                refine go 1 v st.h wl _ st1 hk hput (fun _ h => h) (fun _ h => List.mem_cons_of_mem _ h) (by omega) (fun _ _ => List.mem_cons_self ..) (by omega) (fun _ _ x hx => ?_) (by omega) (by simpa using h)
                have := List.all_eq_true.1 hall x hx
                simpa using this
              · cases h
            · rename_i hR
              exact go 1 v st.h wl rl st1 hk hput (fun _ h => h) (fun _ h => h) (by omega) (fun _ h => absurd h hR) (by omega) (fun _ h => absurd h hR) (by omega) (by simpa using h)
          · cases h
        · cases h
      · rename_i hp
        split at h
        · rename_i v H hstep
          split at h
          · rename_i st1 hput
            have hk : dkind K rec fn all o (dT K rec fn all st0 i) = some (if isAlloc o then 2 else 3, v, H) := by simp only [dkind, hs, hw, hp, hf, hstep, if_false, Bool.false_eq_true]
            split at h
            · rename_i ha
              rw [if_pos ha] at hk
              exact go 2 v H wl rl st1 hk hput (fun _ h => h) (fun _ h => h) (by omega) (by omega) (by omega) (by omega) (by omega) (by simpa using h)
            · rename_i ha
              rw [if_neg ha] at hk
              split at h
              · rename_i hall
                simp only [Bool.and_eq_true] at hall
                refine go 3 v H _ rl st1 hk hput (fun _ h => List.mem_cons_of_mem _ h) (fun _ h => h) (fun _ => List.mem_cons_self ..) (by omega) (fun _ x hx => ?_) (by omega) (fun _ q hq => ?_) (by simpa using h)
                · exact List.all_eq_true.1 hall.1 x hx
                · have := List.all_eq_true.1 hall.2 q hq
                  simpa using this
              · cases h
          · cases h
        · cases h
    · cases h

/-- What lies at a slot. -/
theorem look_dT (nt : Nat) (hok : ∀ j o, all[j]? = some o → StepOk K rec fn all pre st0 nt j o) (hnd : nodupB (all.filterMap (·.dst)) = true) : ∀ (i t : Nat), i ≤ all.length →
    (∃ j o, j < i ∧ all[j]? = some o ∧ o.dst = some t ∧ look (dT K rec fn all st0 i).s t = dv K rec fn all st0 j) ∨
    ((∀ j o, j < i → all[j]? = some o → o.dst ≠ some t) ∧ look (dT K rec fn all st0 i).s t = look st0.s t) := by
  intro i
  induction i with
  | zero => intro t _; exact .inr ⟨fun j o h => by omega, rfl⟩
  | succ i ih =>
    intro t hi
    have ho : all[i]? = some all[i] := List.getElem?_eq_getElem (by omega)
    obtain ⟨e1, e2, e3⟩ := dT_succ K rec fn all st0 ho (hok i _ ho).kind
    rw [e1]
    simp only
    by_cases hd : all[i].dst = some t
    · refine .inl ⟨i, _, by omega, ho, hd, ?_⟩
      rw [hd]; simp [putS, look]
    · have hl : look (putS (dT K rec fn all st0 i).s all[i].dst (dv K rec fn all st0 i)) t = look (dT K rec fn all st0 i).s t := by
        cases hdd : all[i].dst with
        | none => rfl
        | some d => simp only [putS, look]; rw [if_neg (fun e => hd (by rw [hdd, e]))]
      rw [hl]
      rcases ih t (by omega) with ⟨j, o, h1, h2, h3, h4⟩ | ⟨h1, h2⟩
      · exact .inl ⟨j, o, by omega, h2, h3, h4⟩
      · refine .inr ⟨fun j o hj hoj => ?_, h2⟩
        by_cases e : j = i
        · subst e; rw [ho] at hoj; cases hoj; exact hd
        · exact h1 j o (by omega) hoj

end
end Go.Gh
