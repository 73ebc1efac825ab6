/- ScoreTruth. -/
import Derived.Test.YthcpepcmnmlmeaaSf
import Derived.Test.YthcpepcmnmlmeaaGm
namespace Go.Gh
open Go.Proofs
set_option linter.unusedSimpArgs false
set_option linter.unusedVariables false
set_option linter.unnecessarySimpa false
set_option maxRecDepth 100000
set_option maxHeartbeats 4000000
theorem law8 (nums : List Int) (hnums : nums.length ≤ 9223372036854775807) :
    ∃ H', gcall KC (geval KC) 8 [.pure (.slice (nums.map irow))] 0 [[]] = some (.pure (.bool true), H') := by
  suffices hs : WPv (gcall KC (geval KC) 8 [.pure (.slice (nums.map irow))] 0 [[]]) (fun x => x.1 = .pure (.bool true)) by
    obtain ⟨⟨v, H'⟩, h1, rfl⟩ := hs
    exact ⟨H', h1⟩
  refine call_enter KC needT Try.func8 rfl rfl good8 rfl rfl rfl (by simp) (by simp) ?_
  obtain ⟨w, eB⟩ := BoxOf_ok (c := 14) (H := [[], []]) nums hnums (by simp) (by simp [newKey])
  have k8 : newKey 14 6 = 24591 := by decide
  simp [k8] at eB
  obtain ⟨s, w1, hS, eS⟩ := scoring_ok (c := 16) (H := [[(24591, wbox w)], []]) (nm := (1, 24591)) ⟨_, rfl, rfl⟩
  have eA := any_ok (c := 19) (lo := 1) (hi := 9) (H := [[(24591, wbox w1)], []]) (nm := (1, 24591)) ⟨_, rfl, rfl⟩
  obtain ⟨n, w2, e2, hn1, hn9⟩ := anyR_get w1 9 (by omega) (by omega)
  have ew : wordAt [[(24591, wbox w1)], []] (1, 24591) = w1 := rfl
  rw [ew] at eA
  have e2' : anyR w1 1 9 = ((n : Int), w2) := e2
  rw [e2'] at eA
  obtain ⟨p, w3, hP, hpl, eP⟩ := part_ok (c := 20) (H := [[(24591, wbox w2)], []]) (nm := (1, 24591)) ⟨_, rfl, rfl⟩ n hn1 hn9
  obtain ⟨a, w4, hA, hal, eN⟩ := ans_ok (c := 23) (H := [[(4, .box (s.row.map .pure)), (24591, wbox w3)], []]) (nm := (1, 24591)) ⟨_, rfl, rfl⟩ p (by omega) hP.rng
  have hks : s.keys.length ≤ 1000000 := by have := hS.len; omega
  have M1 := fun c (H : Heap) (hH : 0 < H.length) => Mark_ok (c := c) (H := H) s p p hks (by omega) (by omega) hH
  have M2 := fun c (H : Heap) (hH : 0 < H.length) => Mark_ok (c := c) (H := H) s p a hks (by omega) (by omega) hH
  have hA1 : AnsOk p := fun x hx => by have := hP.rng x hx; omega
  rw [markT_good hS.chk hP (hA1.wr rfl)] at M1
  rw [markT_good hS.chk hP (hA.wr (by omega))] at M2
  have hb := best_of hS hP hA hal
  have hfs := fun h => found_same (s := s) hP hA hal h
  have O := fun c (H : Heap) (hH : 0 < H.length) => Of_ok (c := c) (H := H) a (by omega) hH
  have eO : ofT a = [.slice ((numL a []).map irow), .int .i64 0] := by unfold ofT; rw [if_neg (by omega), if_neg (by omega)]
  rw [eO] at O
  have E1 := fun c (H : Heap) (hH : 0 < H.length) => eqI_ok (c := c) (H := H) p (by omega) hH
  have N1 := fun h0 c (H : Heap) (hH : 0 < H.length) => hasNo_ok (c := c) (H := H) a (by omega) h0 hH
  have hpn := hP.le
  rw [rowS] at *
  rw [rowX] at M1 M2
  simp at eS eA eP eN
  generalize markF s p p = y at *
  generalize markF s p a = x at *
  obtain ⟨y0, y1, y2, y3, y4, y5, y6, y7⟩ := y
  obtain ⟨x0, x1, x2, x3, x4, x5, x6, x7⟩ := x
  obtain ⟨h1, h2, h3, h4, h5, h6, h7, h8, h9, h10, h11⟩ := hb
  simp only at h1 h2 h3 h4 h5 h6 h7 h8 h9 h10 h11 hfs M1 M2
  subst h1 h2 h3 h5
  subst h4
  by_cases g : x5 = 1 ∨ x7 = 3
  · obtain ⟨k1, k2, k3⟩ := hfs g
    have N2 := N1 k2
    rw [k1] at O
    injection k3 with z0 z1 z2 z3 z4 z5 z6 z7
    subst z0 z1 z2 z3 z4 z5 z6 z7
    simp [eB, eS, eA, eP, eN, M1, M2, O, E1, N2, awake_ok, gleave_free]
  · have g1 : ¬ x5 = 1 := fun h => g (.inl h)
    have g2 : ¬ x7 = 3 := fun h => g (.inr h)
    have u1 : ¬ ((p.length : Nat) : Int) < x1 := by omega
    have u2 : ¬ y3 < x3 := by omega
    have u3 : ¬ y4 < x4 := by omega
    have u4 : ¬ ((p.length : Nat) : Int) < x6 := by omega
    have u5 : ¬ 3 < x7 := by omega
    have u6 : ¬ y0 < x0 := by omega
    simp [eB, eS, eA, eP, eN, M1, M2, g1, g2, u1, u2, u3, u4, u5, u6, awake_ok, gleave_free]
end Go.Gh


/-
  Proved here: for every list of numbers ScoreTruth returns true and leaves its argument as it was. No condition.
-/
namespace Go.Proofs.Ythcpepcmnmlmeaa
open Go.Gh Go.RowKit
set_option maxRecDepth 100000
theorem scoreTruth_lifted (os : Os) (started : os.Started) (H : Type) (enc : TypeId × Value → H) :
    ReturnsInHanded {} Try.checked os 8 .any (Rows.scoreTruthSpec.pre6 enc Try.prog Try.f8 Rows.scoreTruthRow.domain false) (Rows.scoreTruthSpec.post enc Try.prog Try.f8 false true false false) := by
  refine law_lifted (C := Try.checked) ctxOk rfl 6 own started (by kernel_rfl) laidOut Try.func8 rfl (fun ds hds => ?_) (tb := 4) rfl Try.underlying4 (by kernel_rfl)
    (ChangeSpec.witness6 (enc := enc) (C := Try.checked) false ⟨#[], #[.slice none 0 0], []⟩ 8 (by kernel_rfl) (by kernel_rfl) (by kernel_rfl) (by kernel_rfl)) ?_
  · match ds, hds with
    | [d], _ => rfl
  · intro pvs h
    have e : Try.f8.params.toList = [22] := by kernel_rfl
    rw [e] at h
    obtain ⟨p1, pvs, rfl, h1, h⟩ := argsP_cons h
    obtain rfl := argsP_nil h
    obtain ⟨nums, hl, rfl⟩ := arg_ints h1
    exact law8 nums hl
theorem scoreTruth_holds : Rows.ScoreTruthSaid :=
  OpenClaim.holds_of_wide 8 Try.f8 rfl rfl rfl rfl rfl rfl rfl ⟨rfl, rfl, rfl, rfl, rfl⟩ rfl rfl rfl rfl rfl (by kernel_rfl) Try.func8 (by kernel_rfl)
    (of_decide_eq_true (by kernel_rfl)) (by unfold Func.isWrapper; first | (rw [if_pos (by decide +kernel)]; kernel_rfl) | (rw [if_neg (by decide +kernel)]; exact ⟨rfl, rfl⟩))
    (fun os started H enc _ => scoreTruth_lifted os started H enc)
#print axioms scoreTruth_holds
end Go.Proofs.Ythcpepcmnmlmeaa
