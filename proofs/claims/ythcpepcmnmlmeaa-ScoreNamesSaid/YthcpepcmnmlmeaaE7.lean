/- ScoreNames. -/
import Derived.Test.YthcpepcmnmlmeaaSf
import Derived.Test.YthcpepcmnmlmeaaSe
import Derived.Test.YthcpepcmnmlmeaaGm
namespace Go.Gh
open Go.Proofs
set_option linter.unusedSimpArgs false
set_option linter.unusedVariables false
set_option linter.unnecessarySimpa false
set_option maxRecDepth 100000
set_option maxHeartbeats 4000000
theorem names_loop {fr : Fr} (hf : fr.get 49 = none) (p a o : List Int) (hn : a.length ≤ 9) (ho : o.length = 9) (ha : ∀ x ∈ a, -1 ≤ x ∧ x ≤ 8) (Q : GX → GSt → Prop) :
    ∀ k i : Nat, i + k = a.length → ∀ l : List Int, l = (a.take i).map (otherN o) → Q (.exit 0) ⟨[(4, .bptr (1, 4) 0), (5, .pure (.slice (p.map irow))), (6, .pure (.slice (a.map irow))), (8, apS (1, 49) 1 ((a.map (otherN o)).map irow))], apF 49 1 ((a.map (otherN o)).map irow) fr :: [[]], 78⟩ →
    WPL KC needT 7 (lp Try.f7 0) [4, 5, 6, 7, 8, 9] [4, 5, 6, 8] Q [(4, .bptr (1, 4) 0), (5, .pure (.slice (p.map irow))), (6, .pure (.slice (a.map irow))), (7, .pure (.slice (o.map irow))), (8, apS (1, 49) 1 (l.map irow)), (9, .pure (.int .i64 (i : Nat)))] (apF 49 1 (l.map irow) fr :: [[]]) 78 := by
  intro k
  induction k with
  | zero =>
    intro i hi l hl h1
    have e : a.take i = a := List.take_of_length_le (by omega)
    rw [e] at hl
    subst hl
    have hn : ¬ i < a.length := by omega
    apply WPL_step
    conv => arg 4; whnf
    simp [hn]
    simpa using h1
  | succ k ih =>
    intro i hi l hl h1
    have hia : i < a.length := by omega
    have hw := w64 (x := (i : Int) + 1) (by omega) (by omega)
    have hll : l.length = i := by rw [hl]; simp; omega
    have ih' := ih (i + 1) (by omega) (l ++ [otherN o a[i]]) (by rw [hl, ← List.take_append_getElem hia, List.map_append]; rfl) h1
    have hb : (l.length + 1) * 8 ≤ 1099511627776 := by omega
    have A := fun f0 (v : Int) => apK_1 (H := [[]]) (l := 1) (key := 49) (es := 1) (bytes := 8) (rows := l.map irow) (r := irow v) (fr := fr) (f0 := f0) rfl hf (by simpa using hb)
    simp only [irow] at A
    have hr := ha _ (List.getElem_mem hia)
    apply WPL_step
    conv => arg 4; whnf
    by_cases g : 0 ≤ a[i]
    · obtain ⟨m, hm⟩ : ∃ m : Nat, a[i] = m := ⟨a[i].toNat, by omega⟩
      have hmo : m < o.length := by omega
      have hmo9 : m < 9 := by omega
      have e : otherN o a[i] = o[m] := by unfold otherN; rw [if_pos g, hm, Int.toNat_natCast, getD_lt hmo]
      rw [e] at ih'
      simp [hia, irow, hm, hmo, A, hw]
      simpa [irow] using ih'
    · have e : otherN o a[i] = -1 := by unfold otherN; rw [if_neg g]
      rw [e] at ih'
      simp [hia, irow, g, A, hw]
      simpa [irow] using ih'
theorem law7 (nums : List Int) (hnums : nums.length ≤ 9223372036854775807) :
    ∃ H', gcall KC (geval KC) 7 [.pure (.slice (nums.map irow))] 0 [[]] = some (.pure (.bool true), H') := by
  suffices hs : WPv (gcall KC (geval KC) 7 [.pure (.slice (nums.map irow))] 0 [[]]) (fun x => x.1 = .pure (.bool true)) by
    obtain ⟨⟨v, H'⟩, h1, rfl⟩ := hs
    exact ⟨H', h1⟩
  refine call_enter KC needT Try.func7 rfl rfl good7 rfl rfl rfl (by simp) (by simp) ?_
  obtain ⟨w, eB⟩ := BoxOf_ok (c := 16) (H := [[], []]) nums hnums (by simp) (by simp [newKey])
  have k8 : newKey 16 6 = 24593 := by decide
  simp [k8] at eB
  obtain ⟨s, w1, hS, eS⟩ := scoring_ok (c := 18) (H := [[(24593, wbox w)], []]) (nm := (1, 24593)) ⟨_, rfl, rfl⟩
  have eA := any_ok (c := 21) (lo := 1) (hi := 9) (H := [[(24593, wbox w1)], []]) (nm := (1, 24593)) ⟨_, rfl, rfl⟩
  obtain ⟨n, w2, e2, hn1, hn9⟩ := anyR_get w1 9 (by omega) (by omega)
  have ew : wordAt [[(24593, wbox w1)], []] (1, 24593) = w1 := rfl
  rw [ew] at eA
  have e2' : anyR w1 1 9 = ((n : Int), w2) := e2
  rw [e2'] at eA
  obtain ⟨p, w3, hP, hpl, eP⟩ := part_ok (c := 22) (H := [[(24593, wbox w2)], []]) (nm := (1, 24593)) ⟨_, rfl, rfl⟩ n hn1 hn9
  obtain ⟨a, w4, hA, hal, eN⟩ := ans_ok (c := 25) (H := [[(4, .box (s.row.map .pure)), (24593, wbox w3)], []]) (nm := (1, 24593)) ⟨_, rfl, rfl⟩ p (by omega) hP.rng
  have eO := order_ok (c := 27) (H := [[(4, .box (s.row.map .pure)), (24593, wbox w4)], []]) (nm := (1, 24593)) ⟨_, rfl, rfl⟩ (n := 9) (by omega) (by omega)
  have ew2 : wordAt [[(4, .box (s.row.map .pure)), (24593, wbox w4)], []] (1, 24593) = w4 := rfl
  rw [ew2] at eO
  have hperm := orderV_perm (n := 9) w4 (by omega)
  obtain ⟨o, w5, eo⟩ : ∃ o w5, orderV 9 w4 = (o, w5) := ⟨_, _, rfl⟩
  rw [eo] at eO hperm
  simp only at hperm
  have hol : o.length = 9 := by rw [hperm.length_eq]; simp
  obtain ⟨hren, hrng⟩ := other_ren hperm hA
  have M := fun c (H : Heap) (hH : 0 < H.length) => Mark_ok (c := c) (H := H) s p a (by have := hS.len; omega) (by omega) (by omega) hH
  rw [markT_good hS.chk hP (hA.wr (by omega))] at M
  have hA2 : AnsOk (a.map (otherN o)) := fun x hx => by
    obtain ⟨y, hy, rfl⟩ := List.mem_map.1 hx
    exact hrng y hy
  have M2 := fun c (H : Heap) (hH : 0 < H.length) h2 => Mark_rd (c := c) (H := H) (gt := .pure (.slice (p.map irow))) (ga := apS (1, 49) 1 ((a.map (otherN o)).map irow)) s p (a.map (otherN o)) rfl h2 (by have := hS.len; omega) (by omega) (by simp; omega) hH
  rw [markT_good hS.chk hP (hA2.wr (by simp; omega)), markF_map s hren (by omega)] at M2
  rw [rowS] at *
  rw [rowX] at M M2
  have L := fun Q fr hf => names_loop (fr := fr) hf p a o (by omega) hol hA Q a.length 0 (by omega) [] (by simp)
  generalize markF s p a = x at *
  have hbl : (a.map (otherN o)).length ≤ 9 := by simp; omega
  generalize hb : a.map (otherN o) = b at *
  simp [apS_nil, apF_nil] at L
  simp at eS eA eP eN eO
  simp [eB, eS, eA, eP, eN, eO]
  refine L _ _ (by simp) ?_
  have R2 := fun fr => rdC_apS' (H := apF 49 1 (b.map irow) fr :: [[]]) (nm := (1, 49)) (es := 1) (rows := b.map irow) (fun h => ⟨0, false, by omega, by show (apF 49 1 (b.map irow) fr).get 49 = _; exact apF_self h⟩)
  have M3 := fun c fr => M2 c (apF 49 1 (b.map irow) fr :: [[]]) (by simp) (R2 fr)
  simp [M, M3, awake_ok, gleave_free]
end Go.Gh


/-
  Proved here: for every list of numbers ScoreNames returns true and leaves its argument as it was. No condition.
-/
namespace Go.Proofs.Ythcpepcmnmlmeaa
open Go.Gh Go.RowKit
set_option maxRecDepth 100000
theorem scoreNames_lifted (os : Os) (started : os.Started) (H : Type) (enc : TypeId × Value → H) :
    ReturnsInHanded {} Try.checked os 7 .any (Rows.scoreNamesSpec.pre6 enc Try.prog Try.f7 Rows.scoreNamesRow.domain false) (Rows.scoreNamesSpec.post enc Try.prog Try.f7 false true false false) := by
  refine law_lifted (C := Try.checked) ctxOk rfl 6 own started (by kernel_rfl) laidOut Try.func7 rfl (fun ds hds => ?_) (tb := 4) rfl Try.underlying4 (by kernel_rfl)
    (ChangeSpec.witness6 (enc := enc) (C := Try.checked) false ⟨#[], #[.slice none 0 0], []⟩ 8 (by kernel_rfl) (by kernel_rfl) (by kernel_rfl) (by kernel_rfl)) ?_
  · match ds, hds with
    | [d], _ => rfl
  · intro pvs h
    have e : Try.f7.params.toList = [22] := by kernel_rfl
    rw [e] at h
    obtain ⟨p1, pvs, rfl, h1, h⟩ := argsP_cons h
    obtain rfl := argsP_nil h
    obtain ⟨nums, hl, rfl⟩ := arg_ints h1
    exact law7 nums hl
theorem scoreNames_holds : Rows.ScoreNamesSaid :=
  OpenClaim.holds_of_wide 7 Try.f7 rfl rfl rfl rfl rfl rfl rfl ⟨rfl, rfl, rfl, rfl, rfl⟩ rfl rfl rfl rfl rfl (by kernel_rfl) Try.func7 (by kernel_rfl)
    (of_decide_eq_true (by kernel_rfl)) (by unfold Func.isWrapper; first | (rw [if_pos (by decide +kernel)]; kernel_rfl) | (rw [if_neg (by decide +kernel)]; exact ⟨rfl, rfl⟩))
    (fun os started H enc _ => scoreNames_lifted os started H enc)
#print axioms scoreNames_holds
end Go.Proofs.Ythcpepcmnmlmeaa
