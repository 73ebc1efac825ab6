/- The warmth minute by minute: the program's iterator. -/
import Derived.Test.YtldhcphijclmdaaFe
import Derived.Test.YtldhcphijclmdaaGx
namespace Go.Gh
open Go.Proofs
set_option linter.unusedSimpArgs false
set_option linter.unusedVariables false
set_option maxRecDepth 100000
set_option maxHeartbeats 4000000

variable {keep : Nat → Bool} (hk : ∀ f, kept f = false → keep f = false) {c : Nat}

@[simp] theorem Pour.row_len (p : Pour) : p.row.length = 3 := rfl
theorem take_all (r : List Pour) : List.take r.length (r.map Pour.row) = r.map Pour.row := List.take_of_length_le (by simp)
/-- One who is handed minute after minute: its blocks, whether it goes on. -/
structure Cons (keep : Nat → Bool) (nm p1 p2 p3 : Nm) (k : Kettle) (cs : List Coal) (ts : List Touch) (n0 : Nat) (α : Type) (C : α → List Pour → Heap) (cont : Nat → Span → α → Bool) (next : Nat → Span → α → α) (ok : Nat → α → Prop) : Prop where
  pos : 0 < n0
  lp : nm.1 < n0
  l1 : p1.1 < n0
  l2 : p2.1 < n0
  l3 : p3.1 < n0
  len : ∀ a l, (C a l).length = n0
  g1 : ∀ a l, (C a l).get p1 = some (.box (k.row.map .pure))
  g2 : ∀ a l, (C a l).get p2 = some (.box [.pure (.slice (cs.map Coal.row)), .pure (.slice (ts.map Touch.row))])
  g3 : ∀ a l, (C a l).get p3 = some (.box [.pure (.slice (l.map Pour.row))])
  s3 : ∀ a l l', (C a l).set p3 (.box [.pure (.slice (l'.map Pour.row))]) = C a l'
  gr : ∀ (m : Nat) (s : Span) (a : α) (l : List Pour) (F : Fr), ok m a → ground (geval (KC keep)) nm [.pure (.int .i64 m), .pure (.agg s.row)] ([] :: F :: C a l) = some (.pure (.bool (cont m s a)), [] :: F :: C (next m s a) l)
  okn : ∀ m s a, ok m a → cont m s a = true → ok (m + 1) (next m s a)

section
variable {nm p1 p2 p3 : Nm} {k : Kettle} {cs : List Coal} {ts : List Touch} {n0 : Nat} {α : Type} {C : α → List Pour → Heap} {cont : Nat → Span → α → Bool} {next : Nat → Span → α → α} {ok : Nat → α → Prop} (hC : Cons keep nm p1 p2 p3 k cs ts n0 α C cont next ok)
include hk hC in
theorem mins_loop1 (a : α) (bs : List Span) (m : Nat) (Q : GX → GSt → Prop) : ∀ (l : List Pour) (w : Water), WOk w → PsOk w.ladles l →
    Q (.exit 2) ⟨[(0, .yield nm), (1, .bptr p1 0), (2, .bptr p2 0), (3, .bptr p3 0), (5, .bptr (n0, 5) 0), (6, .pure (.slice (bs.map Span.row))), (7, .pure (.int .i64 m))], [] :: [(5, .box ((poursAt m w l).1.row.map .pure))] :: C a (poursAt m w l).2, 50⟩ →
    WPL (KC keep) needT 93 (lp Try.f93 1) [0, 1, 2, 3, 5, 6, 7] [0, 1, 2, 3, 5, 6, 7] Q
      [(0, .yield nm), (1, .bptr p1 0), (2, .bptr p2 0), (3, .bptr p3 0), (5, .bptr (n0, 5) 0), (6, .pure (.slice (bs.map Span.row))), (7, .pure (.int .i64 m))] ([] :: [(5, .box (w.row.map .pure))] :: C a l) 50 := by
  have hlen := hC.len
  have g3 := hC.g3
  have s3 := hC.s3
  have k0 := hC.lp
  have k1 := hC.l1
  have k2 := hC.l2
  have k3 := hC.l3
  have n30 : ¬ p3.1 = n0 := by omega
  have n31 : ¬ p3.1 = n0 + 1 := by omega
  have n32 : ¬ p3.1 = n0 + 1 + 1 := by omega
  have le0 : nm.1 ≤ n0 + 1 := by omega
  have le1 : p1.1 ≤ n0 + 1 := by omega
  have le2 : p2.1 ≤ n0 + 1 := by omega
  have le3 : p3.1 ≤ n0 + 1 := by omega
  intro l
  induction l with
  | nil =>
    intro w hw hp h1
    simp only [poursAt] at h1
    have g := g3 a []
    simp at g
    apply WPL_step
    conv => arg 4; whnf
    simp [hlen, g, n30, n31, n32, le0, le1, le2, le3, Water.row]
    simpa [Water.row] using h1
  | cons p r ih =>
    intro w hw hp h1
    obtain ⟨q1, q2, q3, q4⟩ := hp.cons
    have T := fun (H : Heap) (c : Nat) hH => poured_ok (H := H) (c := c) (w := w) (p := p) hk q1 hw ⟨q2, q3⟩ hH
    have hpo := pouredW_ok hw q1 ⟨q2, q3⟩
    have hpl := pouredW_ladles w p
    have g := g3 a (p :: r)
    have s := s3 a (p :: r) r
    simp only [poursAt] at h1
    by_cases hm : p.minute = m
    · rw [if_pos hm] at h1
      have ih' := ih (pouredW w p) hpo (by rw [hpl]; exact q4) h1
      generalize pouredW w p = w' at *
      simp [Pour.row, hm] at g s
      simp only [Water.row, Pour.row, hm] at T
      apply WPL_step
      conv => arg 4; whnf
      simp [hlen, g, s, n30, n31, n32, le0, le1, le2, le3, Water.row, hm, T, take_all]
      simp [Water.row] at ih'
      exact ih'
    · rw [if_neg hm] at h1
      have hm' : (p.minute == (m : Int)) = false := by simpa using hm
      simp [Pour.row] at g
      apply WPL_step
      conv => arg 4; whnf
      simp [hlen, g, n30, n31, n32, le0, le1, le2, le3, Water.row, hm, hm']
      simpa [Water.row] using h1

/-- What is handed on, from minute m on, till the taker stops; w: the water ahead of the pours of minute m. -/
noncomputable def feed (k : Kettle) (hs : Int → Span) (cont : Nat → Span → α → Bool) (next : Nat → Span → α → α) : Nat → Nat → Water → List Pour → α → Option (α × List Pour)
  | 0, _, _, _, _ => none
  | n + 1, m, w, l, a =>
    if cont m (poursAt m w l).1.span a = true then feed k hs cont next n (m + 1) (heatedW k (poursAt m w l).1 (hs m)) (poursAt m w l).2 (next m (poursAt m w l).1.span a)
    else some (next m (poursAt m w l).1.span a, (poursAt m w l).2)

variable (hko : KOk k) (hf : FireOk cs ts) {bs : List Span} (hb : BOk cs bs)
include hk hC hko hf hb in
theorem mins_loop0 (Q : GX → GSt → Prop) : ∀ (n m : Nat) (w : Water) (l : List Pour) (a a' : α) (l' : List Pour), m + n ≤ 100000 → WOk w → PsOk w.ladles l → ok m a → feed k (fun m => heatL cs bs m) cont next n m w l a = some (a', l') →
    (∀ w' : Water, Q .ret ⟨[], [(5, .box (w'.row.map .pure))] :: C a' l', 50⟩) →
    WPL (KC keep) needT 93 (lp Try.f93 0) [0, 1, 2, 3, 5, 6, 7] [] Q
      [(0, .yield nm), (1, .bptr p1 0), (2, .bptr p2 0), (3, .bptr p3 0), (5, .bptr (n0, 5) 0), (6, .pure (.slice (bs.map Span.row))), (7, .pure (.int .i64 m))] ([(5, .box (w.row.map .pure))] :: C a l) 50 := by
  have hlen := hC.len
  have g1 := hC.g1
  have g2 := hC.g2
  have k0 := hC.lp
  have k1 := hC.l1
  have k2 := hC.l2
  have k3 := hC.l3
  have n10 : ¬ p1.1 = n0 := by omega
  have n11 : ¬ p1.1 = n0 + 1 := by omega
  have n20 : ¬ p2.1 = n0 := by omega
  have n21 : ¬ p2.1 = n0 + 1 := by omega
  have le0 : nm.1 ≤ n0 := by omega
  have le1 : p1.1 ≤ n0 := by omega
  have le2 : p2.1 ≤ n0 := by omega
  have le3 : p3.1 ≤ n0 := by omega
  intro n
  induction n with
  | zero => intro m w l a a' l' hm hw hp ho hfd; simp [feed] at hfd
  | succ n ih =>
    intro m w l a a' l' hm hw hp ho hfd h1
    have q := poursAt_ok m l w hw hp
    have L := fun Q hq => mins_loop1 hk hC a bs m Q l w hw hp hq
    simp only [feed] at hfd
    generalize hpq : poursAt m w l = pq at *
    obtain ⟨w1, l1⟩ := pq
    simp only at hfd q L
    have hh : HsOk (fun m => heatL cs bs m) := ⟨fun m => by have := heatL_bnd hf bs m; omega, fun m => by have := heatL_bnd hf bs m; omega⟩
    have T := fun (H : Heap) (c : Nat) hH => heat_ok (H := H) (c := c) hk cs ts bs m hf hb hH
    have U := fun (H : Heap) (c : Nat) hH => heated_ok (H := H) (c := c) (k := k) (w := w1) (h := heatL cs bs m) hk hko q.1 (hh.lo m) (hh.hi m) hH
    have hok := heatedW_ok (h := heatL cs bs m) hko q.1 (hh.lo m) (hh.hi m)
    have hol := heatedW_ladles k w1 (heatL cs bs m)
    have G := fun F => hC.gr m w1.span a l1 F ho
    have hwm := w64 (x := (m : Int) + 1) (by omega) (by omega)
    have s1 := g1 (next m w1.span a) l1
    have s2 := g2 (next m w1.span a) l1
    simp only [Water.row, Kettle.row, List.map_cons, List.map_nil] at L T U G s1
    simp only [Water.span, Span.row] at G T hfd s1 s2
    cases hc : cont m ⟨w1.lo, w1.hi⟩ a with
    | false =>
      simp only [hc] at hfd G
      simp only [Bool.false_eq_true, if_false, if_true, Option.some.injEq, Prod.mk.injEq] at hfd
      obtain ⟨rfl, rfl⟩ := hfd
      have h2 := h1 w1
      apply WPL_step
      conv => arg 4; whnf
      simp [Water.row]
      refine L _ ?_
      simp [spanE_ok hk, G, hlen]
      simpa [Water.row] using h2
    | true =>
      simp only [hc] at hfd G
      simp only [Bool.false_eq_true, if_false, if_true, Option.some.injEq, Prod.mk.injEq] at hfd
      have ih' := ih (m + 1) _ _ _ a' l' (by omega) hok (by rw [hol]; exact q.2) (hC.okn m _ a ho hc) hfd h1
      generalize heatedW k w1 (heatL cs bs m) = w2 at *
      generalize next m ⟨w1.lo, w1.hi⟩ a = a1 at *
      apply WPL_step
      conv => arg 4; whnf
      simp [Water.row]
      refine L _ ?_
      simp [spanE_ok hk, G, hlen, s1, s2, n10, n11, n20, n21, le0, le1, le2, le3, T, U, hwm]
      simp [Water.row] at ih'
      exact ih'

omit hb in
include hk hC hko hf in
theorem mins1_ok (h90 : keep 90 = true) {n : Nat} (hn : n ≤ 100000) {l l' : List Pour} {a a' : α} (hp : PsOk k.water l) (ho : ok 0 a) (hfd : feed k (fun m => heatL cs (beginsL cs ts) m) cont next n 0 ⟨k.water, k.warm.lo, k.warm.hi⟩ l a = some (a', l')) :
    gcall (KC keep) (geval (KC keep)) 93 [.yield nm, .bptr p1 0, .bptr p2 0, .bptr p3 0] c (C a l) = some (.pure (.tuple []), C a' l') := by
  have hlen := hC.len
  have g1 := hC.g1 a l
  have g2 := hC.g2 a l
  have k0 := hC.lp
  have k1 := hC.l1
  have k2 := hC.l2
  have k3 := hC.l3
  have n10 : ¬ p1.1 = n0 := by omega
  have n20 : ¬ p2.1 = n0 := by omega
  have hpos := hC.pos
  simp only [Kettle.row, List.map_cons, List.map_nil] at g1
  refine WPv_eq (call_enter (KC keep) needT Try.func93 rfl rfl good93 rfl (by simp) (by rw [hlen]; exact hpos) ?_)
  have T := fun (H : Heap) (c : Nat) hH => gbegins_ok (H := H) (c := c) hk h90 cs ts hf hH
  have h0 := fun Q hq => mins_loop0 hk hC hko hf (beginsL_bok hf) Q n 0 ⟨k.water, k.warm.lo, k.warm.hi⟩ l a a' l' (by omega) (kwok hko) hp ho hfd hq
  simp [Water.row] at h0
  simp [hlen, g1, g2, n10, n20, endsOf_ok hk, T]
  refine h0 _ (fun w' => ?_)
  simp [gleave_free, hk, kept, hlen]
end

/-! ### minutes -/
section
variable {H : Heap}
theorem minutes_ok (h79 : keep 79 = true) (k : Kettle) (cs : List Coal) (ts : List Touch) (l : List Pour) (hH : 0 < H.length)
    (f3 : H.get (H.length - 1, newKey c 3) = none) (f4 : H.get (H.length - 1, newKey c 4) = none) (f5 : H.get (H.length - 1, newKey c 5) = none) :
    gcall (KC keep) (geval (KC keep)) 79 [.pure (.agg k.row), .pure (.agg [.slice (cs.map Coal.row), .slice (ts.map Touch.row)]), .pure (.slice (l.map Pour.row))] c H =
      some (.func 93 [] [.bptr (H.length - 1, newKey c 3) 0, .bptr (H.length - 1, newKey c 4) 0, .bptr (H.length - 1, newKey c 5) 0],
        ((H.set (H.length - 1, newKey c 3) (.box (k.row.map .pure))).set (H.length - 1, newKey c 4) (.box [.pure (.slice (cs.map Coal.row)), .pure (.slice (ts.map Touch.row))])).set (H.length - 1, newKey c 5) (.box [.pure (.slice (l.map Pour.row))])) := by
  refine WPv_eq (call_enter (KC keep) needT Try.func79 rfl rfl good79 rfl (by simp) hH ?_)
  have e1 : ∀ i j : Nat, newKey c i = newKey c j ↔ i = j := fun i j => by unfold newKey; omega
  have hlt : H.length - 1 < H.length := by omega
  simp [Kettle.row, gleave_keep, h79, refs, refs2, refs1, dedup, moveOut, cleanBlk, f3, f4, f5, ren, ren2, ren1, Heap.get_set_other, e1]
end
end Go.Gh


/- Run of the program. -/
namespace Go.Gh
open Go.Proofs
set_option linter.unusedSimpArgs false
set_option linter.unusedVariables false
set_option maxRecDepth 100000
set_option maxHeartbeats 4000000

variable {keep : Nat → Bool} (hk : ∀ f, kept f = false → keep f = false) {c : Nat} {H : Heap}

section
variable {key es : Nat} {rows : List (List PV)} {fr : Fr} {H : Heap}
@[simp] theorem apK_3 {l bytes : Nat} {r : List PV} {f0 f1 f2 : Fr} (hl : H.length = l) (hf : fr.get key = none) (hb : (rows.length + 1) * bytes ≤ 1099511627776) :
    apK l key (apS (l, key) es rows) es bytes [r] (f2 :: f1 :: f0 :: apF key es rows fr :: H) = some (apS (l, key) es (rows ++ [r]), f2 :: f1 :: f0 :: apF key es (rows ++ [r]) fr :: H) := by
  subst hl
  rw [apK_apS (fun h => by subst h; simp [apF, hf]) (fun h => by simp [apF_self h]) (by simp; omega) hb]
  simp [apF]
  split
  · rfl
  · rw [Fr.ins_ins]
end

/-- The loop's block. -/
noncomputable def lb44 (S : Slots) (st : LoopState) (p : Option GX) : GLoop := { slots := S, nt := 36, params := [26, 27], assign := rgA Try.f44, body := rgB Try.f44, fn := 44, state := st, pending := p }
def fr44 (k : Kettle) (cs : List Coal) (ts : List Touch) (last : Int) (L : Nat) (rows : List (List PV)) (l : List Pour) (b : GLoop) : Fr :=
  apF 31 2 rows [(4, .box (k.row.map .pure)), (5, .box [.pure (.slice (cs.map Coal.row)), .pure (.slice (ts.map Touch.row))]), (7, .box [.pure (.int .i64 last)]), (11, .box [apS (L, 31) 2 rows]),
    (106499, .box (k.row.map .pure)), (106500, .box [.pure (.slice (cs.map Coal.row)), .pure (.slice (ts.map Touch.row))]), (106501, .box [.pure (.slice (l.map Pour.row))]), (10000009, .loop b)]

theorem ground44 (k : Kettle) (cs : List Coal) (ts : List Touch) (last m : Nat) (s : Span) (rows : List (List PV)) (l : List Pour) (F : Fr) (S : Slots) (h11 : look S 11 = .bptr (H.length, 11) 0) (h7 : look S 7 = .bptr (H.length, 7) 0) (hr : rows.length ≤ 1000) :
    ground (geval (KC keep)) (H.length, 10000009) [.pure (.int .i64 m), .pure (.agg s.row)] ([] :: F :: fr44 k cs ts last H.length rows l (lb44 S .ready none) :: H) =
      some (.pure (.bool (decide (m ≠ last))), [] :: F :: fr44 k cs ts last H.length (rows ++ [s.row]) l (lb44 S (if m ≠ last then .ready else .done) (if m ≠ last then none else some (.exit 0))) :: H) := by
  refine WPv_eq (ground_wp (KC keep) needT (l := lb44 S .ready none) (s := (27, .pure (.agg s.row)) :: (26, .pure (.int .i64 m)) :: S) ?_ rfl ?_ ?_ ?_ ?_)
  · simp [fr44]
  · simp [lb44, putParams]
  · kernel_rfl
  · kernel_rfl
  · have hb : (rows.length + 1) * 16 ≤ 1099511627776 := by omega
    show wp (KC keep) needT 44 (rgA Try.f44) _ _
    conv => arg 4; whnf
    simp [roundMid, lb44, Span.row, fr44]
    conv => arg 4; whnf
    by_cases hm : m = last
    · subst hm
      simp [h11, h7, hb, roundEnd]
    · have hm' : ((m : Int) == (last : Int)) = false := by simp; omega
      simp [h11, h7, hb, roundEnd, hm, hm']

noncomputable def C44 (k : Kettle) (cs : List Coal) (ts : List Touch) (last : Nat) (S : Slots) (H : Heap) (a : List Span × Bool) (l : List Pour) : Heap :=
  fr44 k cs ts last H.length (a.1.map Span.row) l (lb44 S (if a.2 = true then .done else .ready) (if a.2 = true then some (.exit 0) else none)) :: H
def cont44 (last : Nat) (m : Nat) (_ : Span) (_ : List Span × Bool) : Bool := decide (m ≠ last)
def next44 (last : Nat) (m : Nat) (s : Span) (a : List Span × Bool) : List Span × Bool := (a.1 ++ [s], decide (m = last))
theorem cons44 (k : Kettle) (cs : List Coal) (ts : List Touch) {last : Nat} (hlast : last ≤ 300) {S : Slots} (h11 : look S 11 = .bptr (H.length, 11) 0) (h7 : look S 7 = .bptr (H.length, 7) 0) :
    Cons keep (H.length, 10000009) (H.length, 106499) (H.length, 106500) (H.length, 106501) k cs ts (H.length + 1) (List Span × Bool) (C44 k cs ts last S H) (cont44 last) (next44 last) (fun m a => a.2 = false ∧ a.1.length = m ∧ m ≤ last) where
  pos := by omega
  lp := by simp
  l1 := by simp
  l2 := by simp
  l3 := by simp
  len := fun a l => by simp [C44]
  g1 := fun a l => by simp [C44, fr44]
  g2 := fun a l => by simp [C44, fr44]
  g3 := fun a l => by simp [C44, fr44]
  s3 := fun a l l' => by simp [C44, fr44]
  gr := fun m s a l F ho => by
    obtain ⟨h1, h2, h3⟩ := ho
    have := ground44 (keep := keep) (H := H) k cs ts last m s (a.1.map Span.row) l F S h11 h7 (by simp; omega)
    simp only [C44, h1, Bool.false_eq_true, if_false]
    rw [this]
    by_cases hm : m = last
    · subst hm; simp [cont44, next44]
    · simp [cont44, next44, hm]
  okn := fun m s a ho hc => by
    obtain ⟨h1, h2, h3⟩ := ho
    have hm : m ≠ last := by simpa [cont44] using hc
    exact ⟨by simp [next44, hm], by simp [next44, h2], by omega⟩

theorem feed44 (k : Kettle) (hs : Int → Span) (last : Nat) : ∀ (n m : Nat) (w : Water) (l : List Pour) (rows : List Span), m + n = last + 1 → 0 < n → ∃ l', feed k hs (cont44 last) (next44 last) n m (stepW k hs m w) l (rows, false) = some ((rows ++ runL k hs n m w l, true), l')
  | 0, m, w, l, rows, h, h0 => by omega
  | n + 1, m, w, l, rows, h, _ => by
    simp only [feed, runL]
    by_cases hm : m = last
    · have hn : n = 0 := by omega
      subst hm hn
      exact ⟨(poursAt m (stepW k hs m w) l).2, by simp [cont44, next44, runL]⟩
    · obtain ⟨l', hl⟩ := feed44 k hs last n (m + 1) (poursAt m (stepW k hs m w) l).1 (poursAt m (stepW k hs m w) l).2 (rows ++ [(poursAt m (stepW k hs m w) l).1.span]) (by omega) (by omega)
      refine ⟨l', ?_⟩
      have e : stepW k hs (m + 1) (poursAt m (stepW k hs m w) l).1 = heatedW k (poursAt m (stepW k hs m w) l).1 (hs m) := by
        unfold stepW
        have : ((m + 1 : Nat) : Int) - 1 = m := by omega
        simp [this]
      rw [e] at hl
      have c1 : cont44 last m (poursAt m (stepW k hs m w) l).1.span (rows, false) = true := by simp [cont44, hm]
      have c2 : next44 last m (poursAt m (stepW k hs m w) l).1.span (rows, false) = (rows ++ [(poursAt m (stepW k hs m w) l).1.span], false) := by simp [next44, hm]
      rw [if_pos c1, c2]
      rw [hl]
      simp

include hk in
theorem run_range (h90 : keep 90 = true) {k : Kettle} (hko : KOk k) {cs : List Coal} {ts : List Touch} (hf : FireOk cs ts) {l : List Pour} (hp : PsOk k.water l) {last : Nat} (hlast : last ≤ 300) (st : GSt) (Q : GX → GSt → Prop)
    (hh : st.h = [(4, .box (k.row.map .pure)), (5, .box [.pure (.slice (cs.map Coal.row)), .pure (.slice (ts.map Touch.row))]), (7, .box [.pure (.int .i64 last)]), (11, .box [.nils]), (106499, .box (k.row.map .pure)), (106500, .box [.pure (.slice (cs.map Coal.row)), .pure (.slice (ts.map Touch.row))]), (106501, .box [.pure (.slice (l.map Pour.row))])] :: H)
    (hnt : st.nt = 36) (h11 : look st.s 11 = .bptr (H.length, 11) 0) (h7 : look st.s 7 = .bptr (H.length, 7) 0) (h25 : look st.s 25 = .func 93 [] [.bptr (H.length, 106499) 0, .bptr (H.length, 106500) 0, .bptr (H.length, 106501) 0])
    (hq : ∀ l' b, Q (.exit 0) { st with h := fr44 k cs ts last H.length ((runL k (fun m => heatL cs (beginsL cs ts) m) (last + 1) 0 ⟨k.water, k.warm.lo, k.warm.hi⟩ l).map Span.row) l' b :: H }) :
    WP (KC keep) needT 44 (.rangeFunc (.tmp 25) #[26, 27] (rgA Try.f44) (rgB Try.f44)) st Q := by
  obtain ⟨l', hfd⟩ := feed44 k (fun m => heatL cs (beginsL cs ts) m) last (last + 1) 0 ⟨k.water, k.warm.lo, k.warm.hi⟩ l [] (by omega) (by omega)
  have e0 : stepW k (fun m => heatL cs (beginsL cs ts) m) 0 ⟨k.water, k.warm.lo, k.warm.hi⟩ = ⟨k.water, k.warm.lo, k.warm.hi⟩ := rfl
  rw [e0] at hfd
  have hC := cons44 (keep := keep) (H := H) k cs ts hlast h11 h7
  have h93 := fun c => mins1_ok (c := c) hk hC hko hf h90 (by omega) hp ⟨rfl, rfl, by omega⟩ hfd
  have hfr : firstRegion (rgB Try.f44) = 9 := by kernel_rfl
  refine WP_range (KC keep) needT (nm := (H.length, 10000009)) (H1 := C44 k cs ts last st.s H ([], false) l) (H2 := C44 k cs ts last st.s H ([] ++ runL k (fun m => heatL cs (beginsL cs ts) m) (last + 1) 0 ⟨k.water, k.warm.lo, k.warm.hi⟩ l, true) l') (v := .pure (.tuple [])) ?_ ?_ ?_
  · rw [hh, hfr, hnt]
    simp [gnew, gnewAt, C44, fr44, lb44, apF_nil, apS_nil]
  · simp only [ev, h25]
    exact h93 0
  · have := hq l' (lb44 st.s .exhausted (some (.exit 0)))
    simp [rangeEnd, C44, lb44, fr44] at this ⊢
    exact this

include hk in
theorem Run_ok (h79 : keep 79 = true) (h90 : keep 90 = true) (k : Kettle) (f : Fire) (l : List Pour) (n : Int) (hH : 0 < H.length) :
    gcall (KC keep) (geval (KC keep)) 44 [.pure (.agg k.row), .pure (.agg f.row), .pure (.slice (l.map Pour.row)), .pure (.int .i64 n)] c H =
      some (.pure (.tuple [.slice ((runA k f l n).1.map Span.row), .int .i64 (runA k f l n).2]), H) := by
  refine WPv_eq (call_enter (KC keep) needT Try.func44 rfl rfl good44 rfl (by simp) hH ?_)
  rw [runA_def]
  have A := fun (H : Heap) (c : Nat) hH => asked_ok (H := H) (c := c) (w := k.water) (wl := k.warm.lo) (wh := k.warm.hi) (ro := k.room) (ga := k.gain) (lo := k.lose) (si := k.sing) (bo := k.boil) (cs := f.coals) (ts := f.touches) (l := l) (n := n) hk hH
  have ek : (⟨k.water, ⟨k.warm.lo, k.warm.hi⟩, k.room, k.gain, k.lose, k.sing, k.boil⟩ : Kettle) = k := rfl
  have ef : (⟨f.coals, f.touches⟩ : Fire) = f := rfl
  rw [ek, ef] at A
  by_cases h : askedF k f l n = 0
  · obtain ⟨a1, a2, a3, a4, a5, a6, a7⟩ := asked_zero h
    obtain ⟨last, rfl⟩ : ∃ m : Nat, n = m := ⟨n.toNat, by omega⟩
    rw [if_pos h]
    have nk3 : newKey 25 3 = 106499 := rfl
    have nk4 : newKey 25 4 = 106500 := rfl
    have nk5 : newKey 25 5 = 106501 := rfl
    have M := minutes_ok (keep := keep) (c := 25) (H := [(4, .box (k.row.map .pure)), (5, .box [.pure (.slice (f.coals.map Coal.row)), .pure (.slice (f.touches.map Touch.row))]), (7, .box [.pure (.int .i64 last)]), (11, .box [.nils])] :: H) h79 k f.coals f.touches l (by simp) (by simp [nk3]) (by simp [nk4]) (by simp [nk5])
    simp [nk3, nk4, nk5, Kettle.row] at M
    simp [Kettle.row, Fire.row, A, h, M]
    refine run_range hk h90 a1 a2 a4 (last := last) (by omega) _ _ ?_ rfl rfl rfl rfl (fun l' b => ?_)
    · simp [Kettle.row]
    · have hlt : H.length - 1 < H.length := by omega
      generalize (runL k (fun m => heatL f.coals (beginsL f.coals f.touches) m) (last + 1) 0 ⟨k.water, k.warm.lo, k.warm.hi⟩ l).map Span.row = rows at *
      by_cases hr : rows = []
      · subst hr
        simp [fr44, gleave_free, hk, kept, h, clean2_apS, hlt]
      · simp [fr44, gleave_free, hk, kept, h, clean2_apS, hlt, hr]
  · have h' : (askedF k f l n != 0) = true := by simpa using h
    rw [if_neg h]
    simp [Kettle.row, Fire.row, A, h, h', gleave_free, hk, kept]
end Go.Gh


/- When the kettle sings: program and reference. -/
namespace Go.Gh
open Go.Proofs
set_option linter.unusedSimpArgs false
set_option linter.unusedVariables false
set_option maxRecDepth 100000
set_option maxHeartbeats 4000000

variable {keep : Nat → Bool} (hk : ∀ f, kept f = false → keep f = false) {c : Nat} {H : Heap}

noncomputable def verd (k : Kettle) (s : Span) : Int := singsF k.sing k.boil s.lo s.hi
def kfr (k : Kettle) (cs : List Coal) (ts : List Touch) : Fr := [(4, .box (k.row.map .pure)), (5, .box [.pure (.slice (cs.map Coal.row)), .pure (.slice (ts.map Touch.row))])]

include hk in
theorem sings_loop (k : Kettle) (cs : List Coal) (ts : List Touch) (z : List Span) (hz : z.length ≤ 1000) (Q : GX → GSt → Prop) (hH : 0 < H.length) : ∀ (n i : Nat) (rows : List (List PV)), i + n = z.length → rows.length = i →
    Q (.exit 0) ⟨[(12, apS (H.length, 37) 1 (rows ++ ((z.drop i).map (verd k)).map irow))], apF 37 1 (rows ++ ((z.drop i).map (verd k)).map irow) (kfr k cs ts) :: H, 40⟩ →
    WPL (KC keep) needT 46 (lp Try.f46 0) [4, 12, 26, 27, 28] [12] Q [(4, .bptr (H.length, 4) 0), (12, apS (H.length, 37) 1 rows), (26, .pure (.slice (z.map Span.row))), (27, .pure (.int .i64 z.length)), (28, .pure (.int .i64 i))] (apF 37 1 rows (kfr k cs ts) :: H) 40 := by
  intro n
  induction n with
  | zero =>
    intro i rows hi hr h1
    have e1 : z.drop i = [] := List.drop_of_length_le (by omega)
    rw [e1] at h1
    have : ¬ i < z.length := by omega
    apply WPL_step
    conv => arg 4; whnf
    simp [this, hH, kfr, Kettle.row]
    simpa [kfr, Kettle.row] using h1
  | succ n ih =>
    intro i rows hi hr h1
    have hia : i < z.length := by omega
    have hw := w64 (x := (i : Int) + 1) (by omega) (by omega)
    have hb : (rows.length + 1) * 8 ≤ 1099511627776 := by omega
    rw [List.drop_eq_getElem_cons hia] at h1
    have ih' := ih (i + 1) (rows ++ [irow (verd k z[i])]) (by omega) (by simp [hr]) (by simp only [List.append_assoc, List.singleton_append]; simpa only [List.map_cons] using h1)
    have T := fun (H : Heap) (c : Nat) hH => sings_ok (H := H) (c := c) (w := k.water) (wl := k.warm.lo) (wh := k.warm.hi) (ro := k.room) (ga := k.gain) (lo := k.lose) (si := k.sing) (bo := k.boil) (a := z[i].lo) (b := z[i].hi) hk hH
    unfold verd at ih'
    apply WPL_step
    conv => arg 4; whnf
    simp [hia, hH, kfr, Kettle.row, Span.row, T, hw, hb]
    simp [kfr, Kettle.row, irow] at ih'
    exact ih'
include hk in
theorem singsR_loop (k : Kettle) (cs : List Coal) (ts : List Touch) (z : List Span) (hz : z.length ≤ 1000) (Q : GX → GSt → Prop) (hH : 0 < H.length) : ∀ (n i : Nat) (rows : List (List PV)), i + n = z.length → rows.length = i →
    Q (.exit 0) ⟨[(12, apS (H.length, 39) 1 (rows ++ ((z.drop i).map (verd k)).map irow))], apF 39 1 (rows ++ ((z.drop i).map (verd k)).map irow) (kfr k cs ts) :: H, 41⟩ →
    WPL (KC keep) needT 54 (lp Try.f54 0) [4, 10, 12, 13] [12] Q [(4, .bptr (H.length, 4) 0), (10, .pure (.slice (z.map Span.row))), (12, apS (H.length, 39) 1 rows), (13, .pure (.int .i64 i))] (apF 39 1 rows (kfr k cs ts) :: H) 41 := by
  intro n
  induction n with
  | zero =>
    intro i rows hi hr h1
    have e1 : z.drop i = [] := List.drop_of_length_le (by omega)
    rw [e1] at h1
    have : ¬ i < z.length := by omega
    apply WPL_step
    conv => arg 4; whnf
    simp [this, hH, kfr, Kettle.row]
    simpa [kfr, Kettle.row] using h1
  | succ n ih =>
    intro i rows hi hr h1
    have hia : i < z.length := by omega
    have hw := w64 (x := (i : Int) + 1) (by omega) (by omega)
    have hb : (rows.length + 1) * 8 ≤ 1099511627776 := by omega
    rw [List.drop_eq_getElem_cons hia] at h1
    have ih' := ih (i + 1) (rows ++ [irow (verd k z[i])]) (by omega) (by simp [hr]) (by simp only [List.append_assoc, List.singleton_append]; simpa only [List.map_cons] using h1)
    have T := fun (H : Heap) (c : Nat) hH => singsR_ok (H := H) (c := c) (w := k.water) (wl := k.warm.lo) (wh := k.warm.hi) (ro := k.room) (ga := k.gain) (lo := k.lose) (si := k.sing) (bo := k.boil) (a := z[i].lo) (b := z[i].hi) hk hH
    unfold verd at ih'
    apply WPL_step
    conv => arg 4; whnf
    simp [hia, hH, kfr, Kettle.row, Span.row, T, hw, hb]
    simp [kfr, Kettle.row, irow] at ih'
    exact ih'

theorem runA_len (k : Kettle) (f : Fire) (l : List Pour) (n : Int) : (runA k f l n).1.length ≤ 301 ∧ ((runA k f l n).2 ≠ 0 → (runA k f l n).1 = []) ∧ ((runA k f l n).2 = 0 → ((runA k f l n).1.length : Int) = n + 1) := by
  rw [runA_def]
  split
  · rename_i h
    obtain ⟨a1, a2, a3, a4, a5, a6, a7⟩ := asked_zero h
    refine ⟨by simp [runL_len]; omega, by simp, fun _ => by simp [runL_len]; omega⟩
  · rename_i h
    exact ⟨by simp, fun _ => rfl, fun h2 => absurd h2 h⟩
include hk in
theorem Sings_ok (h79 : keep 79 = true) (h90 : keep 90 = true) (k : Kettle) (f : Fire) (l : List Pour) (n : Int) (hH : 0 < H.length) :
    gcall (KC keep) (geval (KC keep)) 46 [.pure (.agg k.row), .pure (.agg f.row), .pure (.slice (l.map Pour.row)), .pure (.int .i64 n)] c H =
      some (.pure (.tuple [.slice (((runA k f l n).1.map (verd k)).map irow), .int .i64 (runA k f l n).2]), H) := by
  refine WPv_eq (call_enter (KC keep) needT Try.func46 rfl rfl good46 rfl (by simp) hH ?_)
  obtain ⟨b1, b2, b3⟩ := runA_len k f l n
  have R := fun (H : Heap) (c : Nat) hH => Run_ok (H := H) (c := c) hk h79 h90 k f l n hH
  generalize runA k f l n = z at *
  obtain ⟨z, e⟩ := z
  simp only at b1 b2 b3 R
  have hlt : H.length - 1 < H.length := by omega
  have h0 := fun Q hq => sings_loop (keep := keep) (H := H) hk k f.coals f.touches z (by omega) Q hH z.length 0 [] (by omega) rfl hq
  simp [apS_nil, apF_nil, kfr, Kettle.row] at h0
  simp only [Kettle.row, Fire.row] at R
  by_cases h : e = 0
  · simp [Kettle.row, Fire.row, R, h]
    refine h0 _ ?_
    by_cases hz : z = []
    · simp [hz, apS_nil, apF_nil, gleave_free, hk, kept, clean2_apS, hlt]
    · simp [gleave_free, hk, kept, clean2_apS, hlt, hz]
  · have h' : (e != 0) = true := by simpa using h
    have := b2 h
    subst this
    simp [Kettle.row, Fire.row, R, h, h', gleave_free, hk, kept]
include hk in
theorem SingsR_ok (k : Kettle) (f : Fire) (l : List Pour) (n : Int) (hH : 0 < H.length) :
    gcall (KC keep) (geval (KC keep)) 54 [.pure (.agg k.row), .pure (.agg f.row), .pure (.slice (l.map Pour.row)), .pure (.int .i64 n)] c H =
      some (.pure (.tuple [.slice (((runA k f l n).1.map (verd k)).map irow), .int .i64 (runA k f l n).2]), H) := by
  refine WPv_eq (call_enter (KC keep) needT Try.func54 rfl rfl good54 rfl (by simp) hH ?_)
  obtain ⟨b1, b2, b3⟩ := runA_len k f l n
  have R := fun (H : Heap) (c : Nat) hH => RunR_ok (H := H) (c := c) hk k f l n hH
  generalize runA k f l n = z at *
  obtain ⟨z, e⟩ := z
  simp only at b1 b2 b3 R
  have hlt : H.length - 1 < H.length := by omega
  have h0 := fun Q hq => singsR_loop (keep := keep) (H := H) hk k f.coals f.touches z (by omega) Q hH z.length 0 [] (by omega) rfl hq
  simp [apS_nil, apF_nil, kfr, Kettle.row] at h0
  simp only [Kettle.row, Fire.row] at R
  by_cases h : e = 0
  · simp [Kettle.row, Fire.row, R, h]
    refine h0 _ ?_
    by_cases hz : z = []
    · simp [hz, apS_nil, apF_nil, gleave_free, hk, kept, clean2_apS, hlt]
    · simp [gleave_free, hk, kept, clean2_apS, hlt, hz]
  · have h' : (e != 0) = true := by simpa using h
    have := b2 h
    subst this
    simp [Kettle.row, Fire.row, R, h, h', gleave_free, hk, kept]

/-! ### When -/
def firstIx (p : Int → Bool) : Int → List Int → Int
  | _, [] => -1
  | i, x :: r => if p x = true then i else firstIx p (i + 1) r
theorem firstIx_drop (p : Int → Bool) (l : List Int) (i : Nat) (h : i < l.length) : firstIx p i (l.drop i) = if p l[i] = true then (i : Int) else firstIx p ((i + 1 : Nat) : Int) (l.drop (i + 1)) := by
  rw [List.drop_eq_getElem_cons h]; rfl
def isSure (v : Int) : Bool := v == 1
def isPer (v : Int) : Bool := v != 2
theorem when_loop (k : Kettle) (cs : List Coal) (ts : List Touch) (z : List Int) (hz : z.length ≤ 1000) (Q : GX → GSt → Prop) (hH : 0 < H.length) : ∀ (n i : Nat) (a b : Int), i + n = z.length →
    (∀ a' b' : Int, a' = (if a < 0 then (if firstIx isSure i (z.drop i) = -1 then a else firstIx isSure i (z.drop i)) else a) → b' = (if b < 0 then (if firstIx isPer i (z.drop i) = -1 then b else firstIx isPer i (z.drop i)) else b) → Q (.exit 0) ⟨[(8, .pure (.int .i64 a')), (9, .pure (.int .i64 b'))], kfr k cs ts :: H, 49⟩) →
    WPL (KC keep) needT 55 (lp Try.f55 0) [8, 9, 25, 26, 27] [8, 9] Q [(8, .pure (.int .i64 a)), (9, .pure (.int .i64 b)), (25, .pure (.slice (z.map irow))), (26, .pure (.int .i64 z.length)), (27, .pure (.int .i64 i))] (kfr k cs ts :: H) 49 := by
  intro n
  induction n with
  | zero =>
    intro i a b hi h1
    have e1 : z.drop i = [] := List.drop_of_length_le (by omega)
    rw [e1] at h1
    have h2 := h1 a b (by simp [firstIx]) (by simp [firstIx])
    have : ¬ i < z.length := by omega
    apply WPL_step
    conv => arg 4; whnf
    simp [this, hH, kfr, Kettle.row]
    simpa [kfr, Kettle.row] using h2
  | succ n ih =>
    intro i a b hi h1
    have hia : i < z.length := by omega
    have hw := w64 (x := (i : Int) + 1) (by omega) (by omega)
    rw [firstIx_drop isSure z i hia, firstIx_drop isPer z i hia] at h1
    have ih' := fun a b => ih (i + 1) a b (by omega)
    have ha : ∀ a', a' = (if isSure z[i] = true ∧ a < 0 then (i : Int) else a) → (if a' < 0 then (if firstIx isSure ((i + 1 : Nat) : Int) (z.drop (i + 1)) = -1 then a' else firstIx isSure ((i + 1 : Nat) : Int) (z.drop (i + 1))) else a') =
        (if a < 0 then (if (if isSure z[i] = true then (i : Int) else firstIx isSure ((i + 1 : Nat) : Int) (z.drop (i + 1))) = -1 then a else (if isSure z[i] = true then (i : Int) else firstIx isSure ((i + 1 : Nat) : Int) (z.drop (i + 1)))) else a) := by
      intro a' e
      subst e
      by_cases h1 : a < 0 <;> by_cases h2 : isSure z[i] = true <;> simp [h1, h2]
    have hb : ∀ b', b' = (if isPer z[i] = true ∧ b < 0 then (i : Int) else b) → (if b' < 0 then (if firstIx isPer ((i + 1 : Nat) : Int) (z.drop (i + 1)) = -1 then b' else firstIx isPer ((i + 1 : Nat) : Int) (z.drop (i + 1))) else b') =
        (if b < 0 then (if (if isPer z[i] = true then (i : Int) else firstIx isPer ((i + 1 : Nat) : Int) (z.drop (i + 1))) = -1 then b else (if isPer z[i] = true then (i : Int) else firstIx isPer ((i + 1 : Nat) : Int) (z.drop (i + 1)))) else b) := by
      intro b' e
      subst e
      by_cases h1 : b < 0 <;> by_cases h2 : isPer z[i] = true <;> simp [h1, h2]
    have ih2 := ih' (if isSure z[i] = true ∧ a < 0 then (i : Int) else a) (if isPer z[i] = true ∧ b < 0 then (i : Int) else b) (fun a' b' ea eb => h1 a' b' (by rw [ea, ha _ rfl]) (by rw [eb, hb _ rfl]))
    clear ih ih' h1 ha hb
    apply WPL_step
    conv => arg 4; whnf
    by_cases c1 : z[i] = 1
    · have c2 : ¬ z[i] = 2 := by omega
      by_cases d1 : a < 0 <;> by_cases d2 : b < 0 <;> (simp [hia, hH, hw, irow, kfr, c1, d1, d2]; simp [isSure, isPer, c1, d1, d2, irow, kfr] at ih2; exact ih2)
    · have c1' : (z[i] == 1) = false := by simpa using c1
      by_cases c2 : z[i] = 2
      · simp [hia, hH, hw, irow, kfr, c2]
        simp [isSure, isPer, c2, irow, kfr] at ih2
        exact ih2
      · have c2' : (z[i] != 2) = true := by simpa using c2
        by_cases d2 : b < 0 <;> (simp [hia, hH, hw, irow, kfr, c1, c1', c2, c2', d2]; simp [isSure, isPer, c1, c2, d2, irow, kfr] at ih2; exact ih2)
theorem whenR_loop (k : Kettle) (cs : List Coal) (ts : List Touch) (z : List Int) (hz : z.length ≤ 1000) (Q : GX → GSt → Prop) (hH : 0 < H.length) : ∀ (i : Nat), i ≤ z.length →
    Q (.exit 0) ⟨[(13, .pure (.int .i64 (firstIx isSure 0 z))), (14, .pure (.int .i64 (firstIx isPer 0 z)))], kfr k cs ts :: H, 48⟩ →
    WPL (KC keep) needT 56 (lp Try.f56 0) [11, 13, 14, 15] [13, 14] Q [(11, .pure (.slice (z.map irow))), (13, .pure (.int .i64 (firstIx isSure i (z.drop i)))), (14, .pure (.int .i64 (firstIx isPer i (z.drop i)))), (15, .pure (.int .i64 ((i : Int) - 1)))] (kfr k cs ts :: H) 48 := by
  intro i
  induction i with
  | zero =>
    intro hi h1
    apply WPL_step
    conv => arg 4; whnf
    simp [hH, kfr]
    simpa [kfr] using h1
  | succ i ih =>
    intro hi h1
    have hia : i < z.length := by omega
    have hw := w64 (x := (i : Int) - 1) (by omega) (by omega)
    have ih2 := ih (by omega) h1
    rw [firstIx_drop isSure z i hia, firstIx_drop isPer z i hia] at ih2
    have e : ((i + 1 : Nat) : Int) - 1 = i := by omega
    rw [e]
    generalize firstIx isSure ((i + 1 : Nat) : Int) (z.drop (i + 1)) = a at *
    generalize firstIx isPer ((i + 1 : Nat) : Int) (z.drop (i + 1)) = b at *
    apply WPL_step
    conv => arg 4; whnf
    by_cases c1 : z[i] = 1
    · simp [hia, hH, hw, irow, kfr, c1]
      simp [isSure, isPer, c1, irow, kfr] at ih2
      exact ih2
    · have c1' : (z[i] == 1) = false := by simpa using c1
      by_cases c2 : z[i] = 2
      · simp [hia, hH, hw, irow, kfr, c2]
        simp [isSure, isPer, c2, irow, kfr] at ih2
        exact ih2
      · have c2' : (z[i] != 2) = true := by simpa using c2
        simp [hia, hH, hw, irow, kfr, c1, c1', c2, c2']
        simp [isSure, isPer, c1, c2, irow, kfr] at ih2
        exact ih2
/-- What When answers. -/
noncomputable def whenA (k : Kettle) (f : Fire) (l : List Pour) (n : Int) : Int × Int × Int :=
  if (runA k f l n).2 = 0 then (firstIx isSure 0 ((runA k f l n).1.map (verd k)), firstIx isPer 0 ((runA k f l n).1.map (verd k)), 0) else (0, 0, (runA k f l n).2)
include hk in
theorem When_ok (h79 : keep 79 = true) (h90 : keep 90 = true) (k : Kettle) (f : Fire) (l : List Pour) (n : Int) (hH : 0 < H.length) :
    gcall (KC keep) (geval (KC keep)) 55 [.pure (.agg k.row), .pure (.agg f.row), .pure (.slice (l.map Pour.row)), .pure (.int .i64 n)] c H =
      some (.pure (.tuple [.int .i64 (whenA k f l n).1, .int .i64 (whenA k f l n).2.1, .int .i64 (whenA k f l n).2.2]), H) := by
  refine WPv_eq (call_enter (KC keep) needT Try.func55 rfl rfl good55 rfl (by simp) hH ?_)
  obtain ⟨b1, b2, b3⟩ := runA_len k f l n
  have R := fun (H : Heap) (c : Nat) hH => Sings_ok (H := H) (c := c) hk h79 h90 k f l n hH
  unfold whenA
  generalize runA k f l n = z at *
  obtain ⟨z, e⟩ := z
  simp only at b1 b2 b3 R ⊢
  have hzl : (z.map (verd k)).length ≤ 301 := by simpa using b1
  generalize z.map (verd k) = v at *
  have h0 := fun Q hq => when_loop (keep := keep) (H := H) k f.coals f.touches v (by omega) Q hH v.length 0 (-1) (-1) (by omega) hq
  simp [kfr, Kettle.row] at h0
  simp only [Kettle.row, Fire.row] at R
  by_cases h : e = 0
  · rw [if_pos h]
    simp [Kettle.row, Fire.row, R, h]
    refine h0 _ ?_
    have e1 : ∀ x : Int, (if x = -1 then -1 else x) = x := fun x => by split <;> omega
    simp [e1, gleave_free, hk, kept]
  · have h' : (e != 0) = true := by simpa using h
    rw [if_neg h]
    simp [Kettle.row, Fire.row, R, h, h', gleave_free, hk, kept]
include hk in
theorem WhenR_ok (k : Kettle) (f : Fire) (l : List Pour) (n : Int) (hH : 0 < H.length) :
    gcall (KC keep) (geval (KC keep)) 56 [.pure (.agg k.row), .pure (.agg f.row), .pure (.slice (l.map Pour.row)), .pure (.int .i64 n)] c H =
      some (.pure (.tuple [.int .i64 (whenA k f l n).1, .int .i64 (whenA k f l n).2.1, .int .i64 (whenA k f l n).2.2]), H) := by
  refine WPv_eq (call_enter (KC keep) needT Try.func56 rfl rfl good56 rfl (by simp) hH ?_)
  obtain ⟨b1, b2, b3⟩ := runA_len k f l n
  have R := fun (H : Heap) (c : Nat) hH => SingsR_ok (H := H) (c := c) hk k f l n hH
  unfold whenA
  generalize runA k f l n = z at *
  obtain ⟨z, e⟩ := z
  simp only at b1 b2 b3 R ⊢
  have hzl : (z.map (verd k)).length ≤ 301 := by simpa using b1
  generalize z.map (verd k) = v at *
  have h0 := fun Q hq => whenR_loop (keep := keep) (H := H) k f.coals f.touches v (by omega) Q hH v.length (by omega) hq
  have hw := w64 (x := (v.length : Int) - 1) (by omega) (by omega)
  simp [kfr, Kettle.row, firstIx] at h0
  simp only [Kettle.row, Fire.row] at R
  by_cases h : e = 0
  · rw [if_pos h]
    simp [Kettle.row, Fire.row, R, h, hw]
    refine h0 _ ?_
    simp [gleave_free, hk, kept]
  · have h' : (e != 0) = true := by simpa using h
    rw [if_neg h]
    simp [Kettle.row, Fire.row, R, h, h', gleave_free, hk, kept]
end Go.Gh


/- Pours that are made of a box. -/
namespace Go.Gh
open Go.Proofs
set_option linter.unusedSimpArgs false
set_option linter.unusedVariables false
set_option maxRecDepth 100000
set_option maxHeartbeats 4000000

variable {keep : Nat → Bool} (hk : ∀ f, kept f = false → keep f = false) {c : Nat} {H : Heap}

noncomputable def stepP : Int → Int → Int → Int → (Option Pour × Int × Int) × Int := hid fun q water minute w =>
  let a := upR w q
  let b := anyR a.2 (1 - water) (if 50 - water < 10 then 50 - water else 10)
  if b.1 = 0 ∨ 300 < minute + a.1 then ((none, water, minute + a.1), b.2)
  else ((some ⟨minute + a.1, b.1, (upR b.2 1001).1⟩, water + b.1, minute + a.1), (upR b.2 1001).2)
theorem stepP_def (q water minute w : Int) : stepP q water minute w =
  (let a := upR w q
  let b := anyR a.2 (1 - water) (if 50 - water < 10 then 50 - water else 10)
  if b.1 = 0 ∨ 300 < minute + a.1 then ((none, water, minute + a.1), b.2)
  else ((some ⟨minute + a.1, b.1, (upR b.2 1001).1⟩, water + b.1, minute + a.1), (upR b.2 1001).2)) := by rw [stepP, hid_eq]
noncomputable def poursG (q : Int) : Nat → Int → Int → Int → List Pour × Int
  | 0, _, _, w => ([], w)
  | n + 1, water, minute, w =>
    let s := stepP q water minute w
    ((match s.1.1 with | some p => [p] | none => []) ++ (poursG q n s.1.2.1 s.1.2.2 s.2).1, (poursG q n s.1.2.1 s.1.2.2 s.2).2)

theorem stepP_ok {q water minute w : Int} (hq : 1 ≤ q ∧ q ≤ 1000) (hw : 1 ≤ water ∧ water ≤ 50) (hm : 0 ≤ minute ∧ minute ≤ 1000000) :
    1 ≤ (stepP q water minute w).1.2.1 ∧ (stepP q water minute w).1.2.1 ≤ 50 ∧ minute ≤ (stepP q water minute w).1.2.2 ∧ (stepP q water minute w).1.2.2 ≤ minute + 1000 ∧
    (match (stepP q water minute w).1.1 with | some p => POk p ∧ p.minute = (stepP q water minute w).1.2.2 ∧ water + p.ladles = (stepP q water minute w).1.2.1 | none => (stepP q water minute w).1.2.1 = water) := by
  rw [stepP_def]
  simp only
  have a1 := upR_rng w q (by omega)
  generalize upR w q = a at *
  have a2 := anyR_rng a.2 (1 - water) (if 50 - water < 10 then 50 - water else 10) (by omega) (by split <;> omega) (by split <;> omega)
  generalize anyR a.2 (1 - water) (if 50 - water < 10 then 50 - water else 10) = b at *
  have a3 := upR_rng b.2 1001 (by omega)
  generalize upR b.2 1001 = d at *
  have hb : b.1 ≤ 10 ∧ b.1 ≤ 50 - water := by split at a2 <;> omega
  split
  · simp only [and_true]
    omega
  · rename_i hc
    simp only [and_true]
    exact ⟨by omega, by omega, by omega, by omega, ⟨by simp only; omega, by simp only; omega, by simp only; omega⟩⟩
theorem psOk.weak {w m m' : Int} (hm : m' ≤ m) : ∀ {l : List Pour}, psOk w m l → psOk w m' l
  | [], _ => trivial
  | p :: r, ⟨h1, h2, h3⟩ => ⟨h1, by omega, h3⟩
theorem poursG_ok (q : Int) (hq : 1 ≤ q ∧ q ≤ 1000) : ∀ (n : Nat) (water minute w : Int), 1 ≤ water ∧ water ≤ 50 → 0 ≤ minute ∧ minute + 1000 * n ≤ 1000000 → psOk water minute (poursG q n water minute w).1 ∧ (poursG q n water minute w).1.length ≤ n
  | 0, water, minute, w, _, _ => ⟨trivial, by simp [poursG]⟩
  | n + 1, water, minute, w, hw, hm => by
    have hs := stepP_ok (w := w) hq hw (show 0 ≤ minute ∧ minute ≤ 1000000 by omega)
    simp only [poursG]
    generalize stepP q water minute w = s at *
    obtain ⟨h1, h2, h3, h4, h5⟩ := hs
    obtain ⟨i1, i2⟩ := poursG_ok q hq n s.1.2.1 s.1.2.2 s.2 ⟨h1, h2⟩ (by omega)
    cases hp : s.1.1 with
    | none =>
      rw [hp] at h5
      simp only at h5
      rw [h5] at i1
      simp only [List.nil_append]
      rw [h5]
      exact ⟨i1.weak h3, by rw [h5] at i2; omega⟩
    | some p =>
      rw [hp] at h5
      simp only at h5
      obtain ⟨p1, p2, p3⟩ := h5
      refine ⟨⟨p1, by omega, by omega, by omega, ?_⟩, by simp; omega⟩
      rw [p3, p2]
      simpa using i1

include hk in
theorem poursOf_loop {k : Kettle} {nm : Nm} (hB : isBox H nm) (mins q : Int) (hq : q = mins.tdiv 2 + 1) (hq2 : 1 ≤ q ∧ q ≤ 1000) (Q : GX → GSt → Prop) : ∀ (n : Nat) (water minute w : Int) (rows : List (List PV)), 1 ≤ water ∧ water ≤ 50 → 0 ≤ minute ∧ minute + 1000 * n ≤ 1000000 → rows.length + n ≤ 1000 →
    Q (.exit 0) ⟨[(9, apS (H.length, 54) 3 (rows ++ (poursG q n water minute w).1.map Pour.row))], apF 54 3 (rows ++ (poursG q n water minute w).1.map Pour.row) [(5, .box (k.row.map .pure))] :: H.set nm (wbox (poursG q n water minute w).2), 56⟩ →
    WPL (KC keep) needT 20 (lp Try.f20 0) [0, 3, 9, 10, 11, 12] [9] Q [(0, .bptr nm 0), (3, .pure (.int .i64 mins)), (9, apS (H.length, 54) 3 rows), (10, .pure (.int .i64 water)), (11, .pure (.int .i64 minute)), (12, .pure (.int .i64 n))]
      (apF 54 3 rows [(5, .box (k.row.map .pure))] :: H.set nm (wbox w)) 56 := by
  have hl := isBox_lt hB
  have hne : ¬ nm.1 = H.length := by omega
  have hne2 : ¬ nm.1 = H.length + 1 := by omega
  have hle : nm.1 ≤ H.length := by omega
  have hB2 : ∀ fr w, isBox (fr :: H.set nm (wbox w)) nm := fun fr w => isBox_up (isBox_set' hl)
  have hB3 : ∀ f2 fr w, isBox (f2 :: fr :: H.set nm (wbox w)) nm := fun f2 fr w => isBox_up (hB2 fr w)
  have hl3 : nm.1 < H.length + 1 := by omega
  have hl2 : ∀ w, nm.1 < (H.set nm (wbox w)).length := fun w => by simpa using hl
  intro n
  induction n with
  | zero =>
    intro water minute w rows hw hm hr h1
    simp only [poursG, List.map_nil, List.append_nil] at h1
    apply WPL_step
    conv => arg 4; whnf
    simp [hle, Kettle.row]
    simpa [Kettle.row] using h1
  | succ n ih =>
    intro water minute w rows hw hm hr h1
    have hs := stepP_ok (w := w) hq2 hw (show 0 ≤ minute ∧ minute ≤ 1000000 by omega)
    obtain ⟨s1, s2, s3, s4, _⟩ := hs
    simp only [poursG] at h1
    have hp : (0 : Int) < (n : Int) + 1 := by omega
    have hwn := w64 (x := ((n + 1 : Nat) : Int) - 1) (by omega) (by omega)
    have e1 : (n : Int) + 1 - 1 = n := by omega
    simp [e1] at hwn
    have hb : (rows.length + 1) * 24 ≤ 1099511627776 := by omega
    have hu : q ≤ 9223372036854775807 := by omega
    have a1 := upR_rng w q hu
    have wq := w64 (x := mins.tdiv 2 + 1) (by omega) (by omega)
    have wq2 := w64 (x := mins.tdiv 2) (by omega) (by omega)
    have wm := w64 (x := minute + (upR w q).1) (by omega) (by omega)
    have w1 := w64 (x := 1 - water) (by omega) (by omega)
    have w2 := w64 (x := 50 - water) (by omega) (by omega)
    have U1 : (1001 : Int) ≤ 9223372036854775807 := by omega
    rw [← hq] at wq
    have ih' := fun rows hr => ih (stepP q water minute w).1.2.1 (stepP q water minute w).1.2.2 (stepP q water minute w).2 rows ⟨s1, s2⟩ (by omega) hr
    rw [stepP_def] at ih' h1
    simp only at ih' h1
    clear s1 s2 s3 s4 ih
    generalize haa : upR w q = a at *
    have a2 := anyR_rng a.2 (1 - water) (if 50 - water < 10 then 50 - water else 10) (by omega) (by split <;> omega) (by split <;> omega)
    generalize hbb : anyR a.2 (1 - water) (if 50 - water < 10 then 50 - water else 10) = b at *
    have wb := w64 (x := water + b.1) (by omega) (by split at a2 <;> omega)
    have hq' := hq.symm
    by_cases c1 : b.1 = 0
    · simp [c1] at ih' h1
      have ih2 := ih' rows (by omega) h1
      apply WPL_step
      conv => arg 4; whnf
      simp [hp, hwn, e1, Kettle.row, hne, hne2, hle, up_ok hk, any_ok hk, hu, hB2, hB3, hl, hl2, hl3, wordAt_up, hq', wq, wq2, haa, wm, w1, w2, hbb, c1]
      simp [Kettle.row] at ih2
      exact ih2
    · have c1' : (b.1 == 0) = false := by simpa using c1
      by_cases c2 : 300 < minute + a.1
      · simp [c1, c2] at ih' h1
        have ih2 := ih' rows (by omega) h1
        apply WPL_step
        conv => arg 4; whnf
        simp [hp, hwn, e1, Kettle.row, hne, hne2, hle, up_ok hk, any_ok hk, hu, hB2, hB3, hl, hl2, hl3, wordAt_up, hq', wq, wq2, haa, wm, w1, w2, hbb, c1, c1', c2]
        simp [Kettle.row] at ih2
        exact ih2
      · simp [c1, c2] at ih' h1
        have ih2 := ih' (rows ++ [Pour.row ⟨minute + a.1, b.1, (upR b.2 1001).1⟩]) (by simp; omega) (by simpa using h1)
        apply WPL_step
        conv => arg 4; whnf
        simp [hp, hwn, e1, Kettle.row, hne, hne2, hle, up_ok hk, any_ok hk, hu, U1, hB2, hB3, hl, hl2, hl3, wordAt_up, hq', wq, wq2, haa, wm, w1, w2, hbb, c1, c1', c2, wb, hb]
        simp [Kettle.row, Pour.row] at ih2
        exact ih2
noncomputable def poursOfR (k : Kettle) (most mins w : Int) : List Pour × Int := poursG (mins.tdiv 2 + 1) (upR w (most + 1)).1.toNat k.water 0 (upR w (most + 1)).2
include hk in
theorem poursOf_ok (h20 : keep 20 = false) {k : Kettle} {nm : Nm} {most mins : Int} (hm : 0 ≤ most ∧ most ≤ 100) (hmi : 0 ≤ mins ∧ mins ≤ 1000) (hkw : 1 ≤ k.water ∧ k.water ≤ 50) (hB : isBox H nm) :
    gcall (KC keep) (geval (KC keep)) 20 [.bptr nm 0, .pure (.agg k.row), .pure (.int .i64 most), .pure (.int .i64 mins)] c H =
      some (.pure (.slice ((poursOfR k most mins (wordAt H nm)).1.map Pour.row)), H.set nm (wbox (poursOfR k most mins (wordAt H nm)).2)) := by
  have hl := isBox_lt hB
  have hs := isBox_set hB
  have hne : ¬ nm.1 = H.length := by omega
  refine WPv_eq (call_enter (KC keep) needT Try.func20 rfl rfl good20 rfl (by simp) (by omega) ?_)
  have hlt : H.length - 1 < H.length := by omega
  have hB' : ∀ fr, isBox (fr :: H) nm := fun fr => isBox_up hB
  have hw := w64 (x := most + 1) (by omega) (by omega)
  have hu : most + 1 ≤ 9223372036854775807 := by omega
  have hr := upR_rng (wordAt H nm) (most + 1) hu
  unfold poursOfR
  generalize hw0 : wordAt H nm = w0 at *
  generalize hk0 : upR w0 (most + 1) = k0 at *
  obtain ⟨kk, hkk⟩ : ∃ kk : Nat, k0.1 = kk := ⟨k0.1.toNat, by omega⟩
  have e2 : mins.tdiv 2 = mins / 2 := tdiv_pos hmi.1
  have h0 := fun Q hq => poursOf_loop (k := k) hk hB mins (mins.tdiv 2 + 1) rfl (by rw [e2]; omega) Q kk k.water 0 k0.2 [] hkw (by omega) (by simp; omega) hq
  simp [apS_nil, apF_nil, Kettle.row] at h0
  simp [Kettle.row, hw, up_ok hk, hu, hB', hne, hl, wordAt_up, hw0, hk0, hkk]
  refine h0 _ ?_
  simp [gleave_free, h20, cc_apS, hlt]
end Go.Gh
