/- HearthLays. -/
import Derived.Test.YtldhcphijclmdaaFn
import Derived.Test.YtldhcphijclmdaaGl
import Derived.Test.YtldhcphijclmdaaGm
namespace Go.Gh
open Go.Proofs
set_option linter.unusedSimpArgs false
set_option linter.unusedVariables false
set_option maxRecDepth 100000
set_option maxHeartbeats 4000000

theorem findLoop_len {f : List Int → Nat → Option (List Int)} {m : Nat} (hf : ∀ ch fr x, f ch fr = some x → x.length = ch.length + m) (ch : List Int) : ∀ (j i : Nat) (x : List Int), findLoop f ch j i = some x → x.length = ch.length + (m + 1)
  | 0, i, x, h => by simp [findLoop] at h
  | j + 1, i, x, h => by
    simp only [findLoop] at h
    cases e : f (ch ++ [(i : Int)]) (i + 1) with
    | some y =>
      rw [e] at h
      simp only [Option.some.injEq] at h
      subst h
      have := hf _ _ _ e
      simp at this
      omega
    | none =>
      rw [e] at h
      exact findLoop_len hf ch j (i + 1) x h
theorem findS_len (P : List Int → Bool) (n : Nat) : ∀ (left : Nat) (ch : List Int) (fr : Nat) (x : List Int), findS P n left ch fr = some x → x.length = ch.length + left
  | 0, ch, fr, x, h => by
    simp only [findS] at h
    split at h
    · rw [← Option.some.inj h]; rfl
    · cases h
  | left + 1, ch, fr, x, h => by
    simp only [findS] at h
    exact findLoop_len (findS_len P n left) ch _ _ x h
theorem sizeLoop_len (P : List Int → Bool) (n : Nat) : ∀ (j s : Nat) (x : List Int), sizeLoop P n j s = some x → x.length < s + j
  | 0, s, x, h => by simp [sizeLoop] at h
  | j + 1, s, x, h => by
    simp only [sizeLoop] at h
    cases e : findS P n s [] 0 with
    | some y =>
      rw [e] at h
      simp only [Option.some.injEq] at h
      subst h
      have := findS_len P n s [] 0 _ e
      simp at this
      omega
    | none =>
      rw [e] at h
      have := sizeLoop_len P n j (s + 1) x h
      omega
theorem layA_len (k : Kettle) (f : Fire) (l : List Pour) (fro to : Int) : (layA k f l fro to).1.length ≤ 100 := by
  rw [layA_def]
  split
  · simp
  · split
    · simp
    · split
      · simp
      · split
        · simp
        · split
          · rename_i x e
            have := sizeLoop_len _ _ _ _ _ e
            simp only; omega
          · simp

theorem lays_loop (ks : List Kettle) (fs : List Fire) (ls : List (List Pour)) (ms ns : List Int) (n : Nat) (hn : n ≤ 1000) (l1 : ks.length = n) (l2 : fs.length = n) (l3 : ls.length = n) (l4 : ms.length = n) (l5 : ns.length = n) (hfs : ∀ f ∈ fs, f.coals.length ≤ 1000 ∧ f.touches.length ≤ 1000) (F : Fr) (Q : GX → GSt → Prop) : ∀ j i : Nat, i + j = n →
    Q (.exit 0) ⟨[(12, gdead)], [F, []], 168⟩ →
    WPL (KC kp0) needT 11 (lp Try.f11 0) [18, 19, 20, 21, 22, 23] [12] Q [(18, .pure (.slice (ks.map Kettle.row))), (19, .pure (.slice (fs.map Fire.row))), (20, .pure (.slice (ls.map fun l => [.slice (l.map Pour.row)]))), (21, .pure (.slice (ms.map irow))), (22, .pure (.slice (ns.map irow))), (23, .pure (.int .i64 i))] [F, []] 168 := by
  intro j
  induction j with
  | zero =>
    intro i hi h1
    have : ¬ i < n := by omega
    apply WPL_step
    conv => arg 4; whnf
    simp [this, l1]
    exact h1
  | succ j ih =>
    intro i hi h1
    have hi0 : i < n := by omega
    have i1 : i < ks.length := by omega
    have i2 : i < fs.length := by omega
    have i3 : i < ls.length := by omega
    have i4 : i < ms.length := by omega
    have i5 : i < ns.length := by omega
    have hw := w64 (x := (i : Int) + 1) (by omega) (by omega)
    have ih' := ih (i + 1) (by omega) h1
    obtain ⟨hf1, hf2⟩ := hfs fs[i] (List.getElem_mem i2)
    have O := fun (H : Heap) (c : Nat) hH => ownFireP_ok (keep := kp0) (H := H) (c := c) rfl hf1 hf2 hH
    have A := fun (H : Heap) (c : Nat) hH => Lay_ok (keep := kp0) (H := H) (c := c) kp0_ok rfl rfl ks[i] fs[i] ls[i] ms[i] ns[i] hH
    have B := fun (H : Heap) (c : Nat) hH => LayR_ok (keep := kp0) (H := H) (c := c) kp0_ok ks[i] fs[i] ls[i] ms[i] ns[i] hH
    have hlen := layA_len ks[i] fs[i] ls[i] ms[i] ns[i]
    generalize layA ks[i] fs[i] ls[i] ms[i] ns[i] = z at *
    have T := fun (H : Heap) (c : Nat) hH => eqInts_ok (keep := kp0) (H := H) (c := c) kp0_ok z.1 z.1 hH (by omega)
    have E := fun (H : Heap) (c : Nat) hH => eqFires_ok (keep := kp0) (H := H) (c := c) kp0_ok fs[i].coals fs[i].coals fs[i].touches fs[i].touches hH (by omega) (by omega)
    simp only [decide_true, Bool.and_self] at E
    simp only [Kettle.row, Fire.row] at A B
    apply WPL_step
    conv => arg 4; whnf
    simp (config := { maxSteps := 300000 }) [i1, i2, i3, i4, i5, hi0, l1, hw, irow, Kettle.row, Fire.row, O, A, B, T, E]
    simpa [irow] using ih'

theorem law11 (k : Kettle) (f : Fire) (l : List Pour) (a b : Int) (nums : List Int) (hn : nums.length ≤ 9223372036854775807) :
    ∃ H', gcall (KC kp0) (geval (KC kp0)) 11 [.pure (.agg k.row), .pure (.agg f.row), .pure (.slice (l.map Pour.row)), .pure (.int .i64 a), .pure (.int .i64 b), .pure (.slice (nums.map irow))] 0 [[]] = some (.pure (.bool true), H') := by
  have key : WPv (gcall (KC kp0) (geval (KC kp0)) 11 [.pure (.agg k.row), .pure (.agg f.row), .pure (.slice (l.map Pour.row)), .pure (.int .i64 a), .pure (.int .i64 b), .pure (.slice (nums.map irow))] 0 [[]]) (fun x => x.1 = .pure (.bool true)) := by
    refine call_enter (KC kp0) needT Try.func11 rfl rfl good11 rfl (by simp) (by simp) ?_
    have A := fun (fr : Fr) (c : Nat) => awake_ok fr c
    have M := fun (H : Heap) (c : Nat) hH => much_ok (keep := kp0) (H := H) (c := c) kp0_ok f.coals f.touches l hH
    have n7 : ((7 : Int) < f.coals.length) = (7 < f.coals.length) := propext ⟨by omega, by omega⟩
    have n8 : ((f.coals.length : Int) ≤ 8) = (f.coals.length ≤ 8) := propext ⟨by omega, by omega⟩
    have n4 : ((4 : Int) < f.coals.length) = (4 < f.coals.length) := propext ⟨by omega, by omega⟩
    by_cases hmu : 30 < f.coals.length ∨ 60 < f.touches.length ∨ 40 < l.length
    · simp only [hmu, decide_true] at M
      simp [Kettle.row, Fire.row, M, A, gleave_free, kp0_ok, kept]
    · simp only [hmu, decide_false] at M
      by_cases haw : (7 < f.coals.length ∧ f.coals.length ≤ 8) ∨ (40 < b ∧ b ≤ 300 ∧ 4 < f.coals.length ∧ f.coals.length ≤ 8)
      · by_cases c1 : 7 < f.coals.length
        · by_cases c2 : f.coals.length ≤ 8
          · simp [Kettle.row, Fire.row, M, A, n7, n8, n4, c1, c2, gleave_free, kp0_ok, kept]
          · omega
        · have c2 : f.coals.length ≤ 8 := by omega
          have c3 : 40 < b := by omega
          have c4 : b ≤ 300 := by omega
          have c5 : 4 < f.coals.length := by omega
          simp [Kettle.row, Fire.row, M, A, n7, n8, n4, c1, c2, c3, c4, c5, gleave_free, kp0_ok, kept]
      · have nk : newKey 61 6 = 253958 := rfl
        obtain ⟨w, hw⟩ := BoxOf_ok (keep := kp0) kp0_ok rfl (c := 61) (H := [[(6, .box (k.row.map .pure)), (7, .box (f.row.map .pure))], []]) nums hn (by simp) (by simp [nk])
        simp [nk, Kettle.row, Fire.row] at hw
        obtain ⟨G0, hG0⟩ : ∃ G0 : Int → Fr, G0 = fun w => [(6, .box (k.row.map .pure)), (7, .box (f.row.map .pure)), (253958, wbox w)] := ⟨_, rfl⟩
        have hB : ∀ w, isBox [G0 w, []] (1, 253958) := fun w => ⟨w, by simp [hG0], by simp [hG0]⟩
        have hwd : ∀ w, wordAt [G0 w, []] (1, 253958) = w := fun w => by simp [hG0, wordAt, wbox]
        have hF := fun (c : Nat) => fireOf_ok (keep := kp0) (c := c) kp0_ok (m := 5) (by omega) (hB w) rfl
        rw [hwd] at hF
        have hm := fireR_made 5 w (by omega)
        generalize fireR 5 w = fw at *
        obtain ⟨own, w1⟩ := fw
        simp only at hm
        have hmn := hm.n
        have hmt := hm.tn
        have hK := fun (c : Nat) => kettleOf_ok (keep := kp0) (c := c) kp0_ok (hB w1)
        rw [hwd] at hK
        have hko := kettleR_kok w1
        generalize kettleR w1 = kw at *
        obtain ⟨pot, w2⟩ := kw
        simp only at hko
        obtain ⟨G1, hG1⟩ : ∃ G1 : Int → Fr, G1 = fun w => [(6, .box (k.row.map .pure)), (7, .box (f.row.map .pure)), (15, .box (own.row.map .pure)), (16, .box (pot.row.map .pure)), (253958, wbox w)] := ⟨_, rfl⟩
        have hB2 : ∀ w, isBox [G1 w, []] (1, 253958) := fun w => ⟨w, by simp [hG1], by simp [hG1]⟩
        have hwd2 : ∀ w, wordAt [G1 w, []] (1, 253958) = w := fun w => by simp [hG1, wordAt, wbox]
        have hU := fun (c : Nat) => up_ok (keep := kp0) (c := c) (n := 20) kp0_ok (hB2 w2) (by omega)
        rw [hwd2] at hU
        have hur := upR_rng w2 20 (by omega)
        generalize upR w2 20 = uw at *
        obtain ⟨t, w3⟩ := uw
        simp only at hur
        have hP := fun (c : Nat) => poursOf_ok (keep := kp0) (c := c) (most := 3) (mins := 20) kp0_ok rfl (by omega) (by omega) hko.water (hB2 w3)
        rw [hwd2] at hP
        generalize poursOfR pot 3 20 w3 = pw at *
        obtain ⟨made, w4⟩ := pw
        have hU2 := fun (c : Nat) => up_ok (keep := kp0) (c := c) (n := 5) kp0_ok (hB2 w4) (by omega)
        rw [hwd2] at hU2
        have hur2 := upR_rng w4 5 (by omega)
        generalize upR w4 5 = uw2 at *
        obtain ⟨t2, w5⟩ := uw2
        simp only at hur2
        have hwt := w64 (x := t + t2) (by omega) (by omega)
        have hfs : ∀ x ∈ [f, own, own], x.coals.length ≤ 1000 ∧ x.touches.length ≤ 1000 := by
          intro x hx
          simp only [List.mem_cons, List.not_mem_nil, or_false] at hx
          rcases hx with rfl | rfl | rfl <;> omega
        have h0 := fun F Q hq => lays_loop [k, pot, pot] [f, own, own] [l, made, l] [a, t, a] [b, t + t2, b] 3 (by omega) rfl rfl rfl rfl rfl hfs F Q 3 0 (by omega) hq
        simp [Kettle.row, Fire.row, irow] at h0
        simp [hG0, Kettle.row, Fire.row] at hF hK
        simp [hG1, Kettle.row, Fire.row] at hP hU hU2
        have fin : ∀ F : Fr, True := fun _ => trivial
        by_cases c1 : 7 < f.coals.length <;> by_cases c2 : f.coals.length ≤ 8 <;> by_cases c3 : 40 < b <;> by_cases c4 : b ≤ 300 <;> by_cases c5 : 4 < f.coals.length <;>
          first
          | (exfalso; omega)
          | (simp (config := { maxSteps := 300000 }) [Kettle.row, Fire.row, M, n7, n8, n4, c1, c2, c3, c4, c5, hw, hF, hK, hP, hU, hU2, hwt]
             refine h0 _ _ ?_
             simp [A, gleave_free, kp0_ok, kept])
  obtain ⟨⟨r, H'⟩, e1, e2⟩ := key
  simp only at e2
  exact ⟨H', by rw [e1, e2]⟩
end Go.Gh


/-
  Proved here: for every kettle, fire, pours, two numbers and list of numbers HearthLays returns true and leaves its arguments as they were. No condition.
-/
namespace Go.Proofs.Ytldhcphijclmdaa
open Go.Gh Go.RowKit
set_option maxRecDepth 100000

theorem hearthLays_lifted (os : Os) (started : os.Started) (H : Type) (enc : TypeId × Value → H) :
    ReturnsInHanded {} Try.checked os 11 .any (Rows.hearthLaysSpec.pre6 enc Try.prog Try.f11 Rows.hearthLaysRow.domain false) (Rows.hearthLaysSpec.post enc Try.prog Try.f11 false true false false) := by
  refine law_lifted (C := Try.checked) (ctxOk kp0) rfl 6 own started (by kernel_rfl) laidOut Try.func11 rfl (fun ds hds => ?_) (tb := 4) rfl Try.underlying4 (by kernel_rfl)
    (ChangeSpec.witness6 (enc := enc) (C := Try.checked) false ⟨#[], #[.agg #[.int .i64 0, .int .i64 0, .int .i64 0, .int .i64 0, .int .i64 0, .int .i64 0, .int .i64 0, .int .i64 0], .agg #[.slice none 0 0, .slice none 0 0], .slice none 0 0, .int .i64 0, .int .i64 0, .slice none 0 0], []⟩ 14 (by kernel_rfl) (by kernel_rfl) (by kernel_rfl) (by kernel_rfl)) ?_
  · have hds' : ds.length = 6 := hds.trans (by kernel_rfl)
    clear hds
    match ds, hds' with
    | [d1, d2, d3, d4, d5, d6], _ => rfl
  · intro pvs h
    have e : Try.f11.params.toList = [29, 25, 30, 3, 3, 33] := by kernel_rfl
    rw [e] at h
    obtain ⟨p1, pvs, rfl, h1, h⟩ := argsP_cons h
    obtain ⟨p2, pvs, rfl, h2, h⟩ := argsP_cons h
    obtain ⟨p3, pvs, rfl, h3, h⟩ := argsP_cons h
    obtain ⟨p4, pvs, rfl, h4, h⟩ := argsP_cons h
    obtain ⟨p5, pvs, rfl, h5, h⟩ := argsP_cons h
    obtain ⟨p6, pvs, rfl, h6, h⟩ := argsP_cons h
    obtain rfl := argsP_nil h
    obtain ⟨k, rfl⟩ := arg_kettle h1
    obtain ⟨f, rfl⟩ := arg_fire h2
    obtain ⟨l, rfl⟩ := arg_pours h3
    obtain ⟨a, rfl⟩ := arg_int h4
    obtain ⟨b, rfl⟩ := arg_int h5
    obtain ⟨nums, hl, rfl⟩ := shp_ints h6
    exact law11 k f l a b nums hl

theorem hearthLays_holds : Rows.HearthLaysSaid :=
  OpenClaim.holds_of_wide 11 Try.f11 rfl rfl rfl rfl rfl rfl rfl ⟨rfl, rfl, rfl, rfl, rfl⟩ rfl rfl rfl rfl rfl (by kernel_rfl) Try.func11 (by kernel_rfl)
    (of_decide_eq_true (by kernel_rfl)) (by unfold Func.isWrapper; first | (rw [if_pos (by decide +kernel)]; kernel_rfl) | (rw [if_neg (by decide +kernel)]; exact ⟨rfl, rfl⟩))
    (fun os started H enc _ => hearthLays_lifted os started H enc)
#print axioms hearthLays_holds
end Go.Proofs.Ytldhcphijclmdaa
