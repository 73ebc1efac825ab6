/- RiteEnds. -/
import Derived.Test.YtkcmcjohoockcaaRj
import Derived.Test.YtkcmcjohoockcaaGm
namespace Go.Gh
open Go.Proofs
set_option linter.unusedSimpArgs false
set_option linter.unusedVariables false
set_option linter.unnecessarySimpa false
set_option maxRecDepth 100000
set_option maxHeartbeats 4000000

theorem ends1_loop {F : Fr} {s : Scene} (h4 : F.get 4 = some (sceneX s)) (hl : s.hands.length ≤ 1000000) (he : s.hands = s.hands.map fun _ => empty) (Q : GX → GSt → Prop) : ∀ k i : Nat, i + k = s.hands.length →
    Q (.exit 0) ⟨[(2, gdead), (3, .bptr (1, 3) 0), (4, .bptr (1, 4) 0)], [F, []], 98⟩ →
    WPL KC needT 5 (lp Try.f5 0) [3, 4, 9] [2, 3, 4] Q [(3, .bptr (1, 3) 0), (4, .bptr (1, 4) 0), (9, .pure (.int .i64 i))] [F, []] 98 := by
  simp only [sceneX] at h4
  intro k
  induction k with
  | zero =>
    intro i hi h1
    have hn : ¬ i < s.hands.length := by omega
    apply WPL_step
    conv => arg 4; whnf
    simp [hn, h4]
    exact h1
  | succ k ih =>
    intro i hi h1
    have hia : i < s.hands.length := by omega
    have hw := w64 (x := (i : Int) + 1) (by omega) (by omega)
    have ih' := ih (i + 1) (by omega) h1
    have hh : s.hands[i] = empty := by
      have : s.hands[i]'hia = (s.hands.map fun _ => empty)[i]'(by simpa using hia) := by congr 1
      rw [this]; simp
    have e1 : s.hands[i].l = -1 := by rw [hh]; rfl
    have e2 : s.hands[i].r = -1 := by rw [hh]; rfl
    apply WPL_step
    conv => arg 4; whnf
    simp [hia, h4, Hands.row, e1, e2, hw]
    exact ih'
theorem ends2_loop {F : Fr} {n2 n3 n5 n7 : Nat} {r : Rite} (h : RV F n2 n3 n5 n7 r) (h3 : F.get 3 = some (riteX n2 n3 n5 n7 r)) {s : Scene} (h4 : F.get 4 = some (sceneX s)) (hl : r.things.length ≤ 1000000) (hst : s.things.length = r.things.length) (he : ∀ i, i < r.things.length → s.things.getD i spot0 = ⟨(r.things.getD i thing0).home, (r.things.getD i thing0).want⟩) (Q : GX → GSt → Prop) : ∀ k i : Nat, i + k = r.things.length →
    Q (.exit 2) ⟨[(2, gdead)], [F, []], 98⟩ →
    WPL KC needT 5 (lp Try.f5 1) [3, 4, 10] [2] Q [(3, .bptr (1, 3) 0), (4, .bptr (1, 4) 0), (10, .pure (.int .i64 i))] [F, []] 98 := by
  simp only [sceneX] at h4
  simp only [riteX] at h3
  obtain ⟨v, ro, hv, g3⟩ := h.g3
  intro k
  induction k with
  | zero =>
    intro i hi h1
    have hn : ¬ i < r.things.length := by omega
    apply WPL_step
    conv => arg 4; whnf
    simp [hn, h3]
    exact h1
  | succ k ih =>
    intro i hi h1
    have hia : i < r.things.length := by omega
    have his : i < s.things.length := by omega
    have hw := w64 (x := (i : Int) + 1) (by omega) (by omega)
    have ih' := ih (i + 1) (by omega) h1
    have E := he i hia
    rw [getD_lt his, getD_lt hia] at E
    have e1 : s.things[i].cell = r.things[i].home := by rw [E]
    have e2 : s.things[i].state = r.things[i].want := by rw [E]
    apply WPL_step
    conv => arg 4; whnf
    simp [hia, his, h3, h4, g3, hv, Spot.row, Thing.row, e1, e2, hw]
    exact ih'

theorem gs_len {r0 : Rite} {acts : List RAct} {s : Scene} {m : Nat} (hR : RiteB r0 acts s m) (hm : m ≤ 40) {gs : List (List RAct)} (e1 : acts = gs.flatten) (hT : TrG r0 (firstV r0) gs) : (scenesG (firstV r0) gs).length ≤ 100 := by
  have hg : ∀ g ∈ gs, 1 ≤ g.length := fun g hg => by
    have : ∀ {gs : List (List RAct)} {s : Scene}, TrG r0 s gs → ∀ g ∈ gs, g ≠ [] := fun {gs} => by
      induction gs with
      | nil => intro s _ g h; simp at h
      | cons g0 gs ih =>
        intro s h g hg
        rcases List.mem_cons.1 hg with rfl | hg
        · exact h.1.2.1
        · exact ih h.2 g hg
    exact List.length_pos_iff.2 (this hT g hg)
  have hle : ∀ gs : List (List RAct), (∀ g ∈ gs, 1 ≤ g.length) → gs.length ≤ gs.flatten.length := fun gs => by
    induction gs with
    | nil => intro _; simp
    | cons g gs ih =>
      intro h
      have := ih fun x hx => h x (List.mem_cons_of_mem _ hx)
      have := h g (List.mem_cons_self ..)
      rw [List.flatten_cons, List.length_append, List.length_cons]
      omega
  have := hle gs hg
  rw [← e1] at this
  have := hR.len
  rw [scenes_len]; omega

theorem law5 (nums : List Int) (hnums : nums.length ≤ 9223372036854775807) :
    ∃ H', gcall KC (geval KC) 5 [.pure (.slice (nums.map irow))] 0 [[]] = some (.pure (.bool true), H') := by
  suffices hs : WPv (gcall KC (geval KC) 5 [.pure (.slice (nums.map irow))] 0 [[]]) (fun x => x.1 = .pure (.bool true)) by
    obtain ⟨⟨v, H'⟩, h1, rfl⟩ := hs
    exact ⟨H', h1⟩
  refine call_enter KC needT Try.func5 rfl rfl good5 rfl rfl rfl (by simp) (by simp) ?_
  obtain ⟨w, eB⟩ := BoxOf_ok (c := 12) (H := [[], []]) nums hnums (by simp) (by simp [newKey])
  have k8 : newKey 12 6 = 24589 := by decide
  simp [k8] at eB
  obtain ⟨r0, acts, s, wd, F1, hR, eR, hV, hk, hsr, ho⟩ := made_at (F := [(24589, wbox w)]) (H := [[]]) (kb := 24589) (c := 13) (N := 15) (by simp [Fr.srt]) (by omega) (by omega) (w := w) (by simp) (by simp [kp, newKey]) (by simp [kt, newKey]) (by simp [kl, newKey]) (by simp [ka, newKey]) (fun k => by unfold newKey; omega)
  have hr := made_runs hR (by omega)
  obtain ⟨gs, e1, hT, hP, hs, hacc⟩ := made_acc hR
  have hSn := scenes_snd (firstV_snd hR.room) hT
  have hsl := gs_len hR (by omega) e1 hT
  have hSs : Snd (finR r0 acts s) s := by
    have := hSn.2
    rw [← e1, ← hs] at this
    exact finR_Snd this
  have har : 1 ≤ (finR r0 acts s).wide * (finR r0 acts s).deep := hR.area.1
  have hemp := hR.empty
  have hend : ∀ i, i < (finR r0 acts s).things.length → s.things.getD i spot0 = ⟨((finR r0 acts s).things.getD i thing0).home, ((finR r0 acts s).things.getD i thing0).want⟩ := fun i hi => by
    have hi' : i < r0.things.length := by rwa [finR_tl] at hi
    have g : (finR r0 acts s).things.getD i thing0 = finT r0.things[i] (s.things.getD i spot0) := by
      show (finL r0.things s.things r0.things.length).getD i _ = _
      rw [getD_lt (by rw [finL_len]; exact hi'), finL_get _ _ _ _ hi', if_pos hi']
    rw [g]; rfl
  have hlast : ∃ l, firstV r0 :: scenesG (firstV r0) gs = l ++ [s] := by
    have := scenes_last (gs := gs) (s := firstV r0)
    rw [← e1, ← hs] at this
    exact ⟨_, by rw [← this]; exact (List.dropLast_concat_getLast _).symm⟩
  have p3 : F1.get 3 = none := (ho 3 (by decide) (by decide) (by decide) (by decide) (by decide)).trans (by simp)
  have p4 : F1.get 4 = none := (ho 4 (by decide) (by decide) (by decide) (by decide) (by decide)).trans (by simp)
  generalize finR r0 acts s = r at eR hV hr hacc hSs har hend
  obtain ⟨F2, hF2⟩ : ∃ F2, F1.ins 3 (riteX (kp 13) (kt 13) (kl 13) (ka 13) r) = F2 := ⟨_, rfl⟩
  have o2 : ∀ k, k ≠ 3 → F2.get k = F1.get k := fun k h => by rw [← hF2, Fr.get_ins_other _ h]
  have g23 : F2.get 3 = some (riteX (kp 13) (kt 13) (kl 13) (ka 13) r) := by rw [← hF2, Fr.get_ins]
  have V2 : RV F2 (kp 13) (kt 13) (kl 13) (ka 13) r := ⟨by rw [o2 _ (by decide)]; exact hV.g2, by rw [o2 _ (by decide)]; exact hV.g3, fun h => by rw [o2 _ (by decide)]; exact hV.g5 h, fun h => by rw [o2 _ (by decide)]; exact hV.g7 h, hV.sn⟩
  obtain ⟨F3, V3, o3, eU⟩ := Run_at (H := [[]]) V2 hr
  have g34 : F3.get 4 = none := (o3 4 (by decide) (by decide) (by decide) (by decide)).trans ((o2 4 (by decide)).trans p4)
  obtain ⟨F4, hF4⟩ : ∃ F4, F3.ins 4 (sceneX s) = F4 := ⟨_, rfl⟩
  have o4 : ∀ k, k ≠ 4 → F4.get k = F3.get k := fun k h => by rw [← hF4, Fr.get_ins_other _ h]
  have V4 : RV F4 (kp 13) (kt 13) (kl 13) (ka 13) r := ⟨by rw [o4 _ (by decide)]; exact V3.g2, by rw [o4 _ (by decide)]; exact V3.g3, fun h => by rw [o4 _ (by decide)]; exact V3.g5 h, fun h => by rw [o4 _ (by decide)]; exact V3.g7 h, V3.sn⟩
  have g43 : F4.get 3 = some (riteX (kp 13) (kt 13) (kl 13) (ka 13) r) := (o4 3 (by decide)).trans ((o3 3 (by decide) (by decide) (by decide) (by decide)).trans g23)
  obtain ⟨F5, V5, o5, eS⟩ := Scenes_at (H := [[]]) V4 hr
  have g53 : F5.get 3 = some (riteX (kp 13) (kt 13) (kl 13) (ka 13) r) := (o5 3 (by decide) (by decide) (by decide) (by decide)).trans g43
  have g54 : F5.get 4 = some (sceneX s) := (o5 4 (by decide) (by decide) (by decide) (by decide)).trans (by rw [← hF4, Fr.get_ins])
  have hhl : s.hands.length ≤ 1000000 := by rw [hSs.hl]; exact hr.w.pl
  have hpl : s.people.length ≤ 1000000 := by rw [hSs.pl]; exact hr.w.pl
  have htl : s.things.length ≤ 1000000 := by rw [hSs.tl]; exact hr.w.tl
  have L1 := fun Q => ends1_loop g54 hhl hemp Q s.hands.length 0 (by omega)
  have L2 := fun Q => ends2_loop V5 g53 g54 hr.w.tl hSs.tl hend Q r.things.length 0 (by omega)
  have SO := fun (c : Nat) => sound_ok (c := c) (H := [F5, []]) (g2 := .pure (.agg s.row)) hSs har (by have := hr.w.n6; omega) hr.w.pl hr.w.tl (V5.rd (H := [[]])) rfl (by simp)
  have EQ := fun c => eqScenes_ok (c := c) (H := [F5, []]) (g1 := .pure (.agg s.row)) (g2 := .pure (.agg s.row)) s ⟨hpl, hhl, htl⟩ rfl rfl (by simp)
  rw [hacc] at eS eU
  obtain ⟨l, hl⟩ := hlast
  have hll : (firstV r0 :: scenesG (firstV r0) gs).length = l.length + 1 := by rw [hl]; simp
  simp only [List.length_cons] at hll
  have hl100 : l.length ≤ 100 := by omega
  simp only at eS eU
  rw [hl] at eS
  simp only [riteX] at g23 g43 g53 hF2
  simp only [sceneX] at hF4 g54
  simp only [riteV, Scene.row] at eR eS eU SO EQ
  simp at eR eS eU L1 L2 SO
  have lz : ((l.length : Int) + 1 == 0) = false := by simp; omega
  have w1 := w64 (x := (l.length : Int) + 1 - 1) (by omega) (by omega)
  have w2 : ((l.length : Int) + 1 - 1) = l.length := by omega
  rw [w2] at w1
  simp [eB, eR, p3, Fr.get_ins, Fr.ins_ins, hF2, g23, eU, g34, hF4, g43, eS, g53, g54, lz, SO, w1, w2, EQ, Scene.row]
  refine L1 _ ?_
  simp
  refine L2 _ ?_
  simp [awake_ok, gleave_free]
end Go.Gh


/-
  Proved here: for every list of numbers RiteEnds returns true and leaves its argument as it was. No condition.
-/
namespace Go.Proofs.Ytkcmcjohoockcaa
open Go.Gh Go.RowKit
set_option maxRecDepth 100000

theorem riteEnds_lifted (os : Os) (started : os.Started) (H : Type) (enc : TypeId × Value → H) :
    ReturnsInHanded {} Try.checked os 5 .any (Rows.riteEndsSpec.pre6 enc Try.prog Try.f5 Rows.riteEndsRow.domain false) (Rows.riteEndsSpec.post enc Try.prog Try.f5 false true false false) := by
  refine law_lifted (C := Try.checked) ctxOk rfl 6 own started (by kernel_rfl) laidOut Try.func5 rfl (fun ds hds => ?_) (tb := 4) rfl Try.underlying4 (by kernel_rfl)
    (ChangeSpec.witness6 (enc := enc) (C := Try.checked) false ⟨#[], #[.slice none 0 0], []⟩ 8 (by kernel_rfl) (by kernel_rfl) (by kernel_rfl) (by kernel_rfl)) ?_
  · match ds, hds with
    | [d], _ => rfl
  · intro pvs h
    have e : Try.f5.params.toList = [24] := by kernel_rfl
    rw [e] at h
    obtain ⟨p1, pvs, rfl, h1, h⟩ := argsP_cons h
    obtain rfl := argsP_nil h
    obtain ⟨nums, hl, rfl⟩ := arg_ints h1
    exact law5 nums hl

theorem riteEnds_holds : Rows.RiteEndsSaid :=
  OpenClaim.holds_of_wide 5 Try.f5 rfl rfl rfl rfl rfl rfl rfl ⟨rfl, rfl, rfl, rfl, rfl⟩ rfl rfl rfl rfl rfl (by kernel_rfl) Try.func5 (by kernel_rfl)
    (of_decide_eq_true (by kernel_rfl)) (by unfold Func.isWrapper; first | (rw [if_pos (by decide +kernel)]; kernel_rfl) | (rw [if_neg (by decide +kernel)]; exact ⟨rfl, rfl⟩))
    (fun os started H enc _ => riteEnds_lifted os started H enc)
#print axioms riteEnds_holds
end Go.Proofs.Ytkcmcjohoockcaa
