/- RiteHands. -/
import Derived.Test.YtkcmcjohoockcaaRj
import Derived.Test.YtkcmcjohoockcaaGm
namespace Go.Gh
open Go.Proofs
set_option linter.unusedSimpArgs false
set_option linter.unusedVariables false
set_option linter.unnecessarySimpa false
set_option maxRecDepth 100000
set_option maxHeartbeats 4000000

/-- The box of a rite. -/
def riteX (n2 n3 n5 n7 : Nat) (r : Rite) : Blk := .box [.pure (.int .i64 r.wide), .pure (.int .i64 r.deep), .hdr (1, n2) 2 r.people.length 0 r.people.length, .hdr (1, n3) 5 r.things.length 0 r.things.length, .nils, apS (1, n5) 1 (r.lapses.map irow), apS (1, n7) 9 (r.acts.map RAct.row)]

theorem hands_loop {F : Fr} {n2 n3 n5 n7 : Nat} {r : Rite} (h : RV F n2 n3 n5 n7 r) (h3 : F.get 3 = some (riteX n2 n3 n5 n7 r)) (hr : Runs r) (ha : 1 ≤ r.wide * r.deep) (l : List Scene) (hl : l.length ≤ 1000000) (hS : ∀ x ∈ l, Snd r x) (Q : GX → GSt → Prop) : ∀ k i : Nat, i + k = l.length →
    Q (.exit 0) ⟨[(2, gdead)], [F, []], 36⟩ →
    WPL KC needT 4 (lp Try.f4 0) [3, 4, 6] [2] Q [(3, .bptr (1, 3) 0), (4, .pure (.slice (l.map Scene.row))), (6, .pure (.int .i64 i))] [F, []] 36 := by
  intro k
  induction k with
  | zero =>
    intro i hi h1
    have hn : ¬ i < l.length := by omega
    apply WPL_step
    conv => arg 4; whnf
    simp [hn]
    exact h1
  | succ k ih =>
    intro i hi h1
    have hia : i < l.length := by omega
    have hw := w64 (x := (i : Int) + 1) (by omega) (by omega)
    have ih' := ih (i + 1) (by omega) h1
    have S := fun (f : Fr) (c : Nat) => sound_ok (c := c) (H := [f, F, []]) (g2 := .pure (.agg l[i].row)) (hS _ (List.getElem_mem hia)) ha (by have := hr.w.n6; omega) hr.w.pl hr.w.tl (rdG_push (h.rd (H := [[]]))) rfl (by simp)
    simp only [riteX] at h3
    simp only [riteV, Scene.row] at S
    apply WPL_step
    conv => arg 4; whnf
    simp at S
    simp [hia, h3, Scene.row, S, hw]
    simpa [Scene.row] using ih'

theorem law4 (nums : List Int) (hnums : nums.length ≤ 9223372036854775807) :
    ∃ H', gcall KC (geval KC) 4 [.pure (.slice (nums.map irow))] 0 [[]] = some (.pure (.bool true), H') := by
  suffices hs : WPv (gcall KC (geval KC) 4 [.pure (.slice (nums.map irow))] 0 [[]]) (fun x => x.1 = .pure (.bool true)) by
    obtain ⟨⟨v, H'⟩, h1, rfl⟩ := hs
    exact ⟨H', h1⟩
  refine call_enter KC needT Try.func4 rfl rfl good4 rfl rfl rfl (by simp) (by simp) ?_
  obtain ⟨w, eB⟩ := BoxOf_ok (c := 8) (H := [[], []]) nums hnums (by simp) (by simp [newKey])
  have k8 : newKey 8 6 = 24585 := by decide
  simp [k8] at eB
  obtain ⟨r0, acts, s, wd, F1, hR, eR, hV, hk, hsr, ho⟩ := made_at (F := [(24585, wbox w)]) (H := [[]]) (kb := 24585) (c := 9) (N := 15) (by simp [Fr.srt]) (by omega) (by omega) (w := w) (by simp) (by simp [kp, newKey]) (by simp [kt, newKey]) (by simp [kl, newKey]) (by simp [ka, newKey]) (fun k => by unfold newKey; omega)
  have hr := made_runs hR (by omega)
  obtain ⟨gs, e1, hT, hP, hs, hacc⟩ := made_acc hR
  have hSn := scenes_snd (firstV_snd hR.room) hT
  have hll : (firstV r0 :: scenesG (firstV r0) gs).length ≤ 1000000 := by
    have hg : ∀ g ∈ gs, 1 ≤ g.length := fun g hg => by
      have : ∀ {gs : List (List RAct)} {s : Scene}, TrG r0 s gs → ∀ g ∈ gs, g ≠ [] := fun {gs} => by
        induction gs with
        | nil => intro s _ g h; simp at h
        | cons g0 gs ih =>
          intro s h g hg
          rcases List.mem_cons.1 hg with rfl | hg
          · exact h.1.2.1
          · exact ih h.2 g hg
      exact List.length_pos_iff.2 (this hT g hg)
    have hle : ∀ gs : List (List RAct), (∀ g ∈ gs, 1 ≤ g.length) → gs.length ≤ gs.flatten.length := fun gs => by
      induction gs with
      | nil => intro _; simp
      | cons g gs ih =>
        intro h
        have := ih fun x hx => h x (List.mem_cons_of_mem _ hx)
        have := h g (List.mem_cons_self ..)
        rw [List.flatten_cons, List.length_append, List.length_cons]
        omega
    have := hle gs hg
    rw [← e1] at this
    have := hR.len
    simp [scenes_len]; omega
  have hall : ∀ x ∈ firstV r0 :: scenesG (firstV r0) gs, Snd (finR r0 acts s) x := fun x hx => by
    rcases List.mem_cons.1 hx with rfl | hx
    · exact finR_Snd (firstV_snd hR.room)
    · exact finR_Snd (hSn.1 x hx)
  have har : 1 ≤ (finR r0 acts s).wide * (finR r0 acts s).deep := hR.area.1
  have p3 : F1.get 3 = none := (ho 3 (by decide) (by decide) (by decide) (by decide) (by decide)).trans (by simp)
  generalize finR r0 acts s = r at eR hV hr hacc hall har
  -- the rite in its box
  obtain ⟨F2, hF2⟩ : ∃ F2, F1.ins 3 (riteX (kp 9) (kt 9) (kl 9) (ka 9) r) = F2 := ⟨_, rfl⟩
  have o2 : ∀ k, k ≠ 3 → F2.get k = F1.get k := fun k h => by rw [← hF2, Fr.get_ins_other _ h]
  have g23 : F2.get 3 = some (riteX (kp 9) (kt 9) (kl 9) (ka 9) r) := by rw [← hF2, Fr.get_ins]
  have V2 : RV F2 (kp 9) (kt 9) (kl 9) (ka 9) r := ⟨by rw [o2 _ (by decide)]; exact hV.g2, by rw [o2 _ (by decide)]; exact hV.g3, fun h => by rw [o2 _ (by decide)]; exact hV.g5 h, fun h => by rw [o2 _ (by decide)]; exact hV.g7 h, hV.sn⟩
  obtain ⟨F3, V3, o3, eS⟩ := Scenes_at (H := [[]]) V2 hr
  have g33 : F3.get 3 = some (riteX (kp 9) (kt 9) (kl 9) (ka 9) r) := (o3 3 (by decide) (by decide) (by decide) (by decide)).trans g23
  have L := fun Q => hands_loop V3 g33 hr har (firstV r0 :: scenesG (firstV r0) gs) hll hall Q (scenesG (firstV r0) gs).length.succ 0 (by simp)
  rw [hacc] at eS
  have hl0 : 0 < (firstV r0 :: scenesG (firstV r0) gs).length := by simp
  generalize firstV r0 :: scenesG (firstV r0) gs = l at eS L hll hl0
  have hl1 : l ≠ [] := List.length_pos_iff.1 hl0
  have hl2 : ¬ l.length = 0 := by omega
  simp only [riteX] at g23 g33 hF2
  simp only [riteV] at eR eS
  simp at eR eS L
  have lz : ((l.length : Int) == 0) = false := by simp; exact hl1
  simp [eB, eR, p3, Fr.get_ins, Fr.ins_ins, hF2, g23, eS, hl1, lz]
  refine L _ ?_
  simp [awake_ok, gleave_free]
end Go.Gh


/-
  Proved here: for every list of numbers RiteHands returns true and leaves its argument as it was. No condition.
-/
namespace Go.Proofs.Ytkcmcjohoockcaa
open Go.Gh Go.RowKit
set_option maxRecDepth 100000

theorem riteHands_lifted (os : Os) (started : os.Started) (H : Type) (enc : TypeId × Value → H) :
    ReturnsInHanded {} Try.checked os 4 .any (Rows.riteHandsSpec.pre6 enc Try.prog Try.f4 Rows.riteHandsRow.domain false) (Rows.riteHandsSpec.post enc Try.prog Try.f4 false true false false) := by
  refine law_lifted (C := Try.checked) ctxOk rfl 6 own started (by kernel_rfl) laidOut Try.func4 rfl (fun ds hds => ?_) (tb := 4) rfl Try.underlying4 (by kernel_rfl)
    (ChangeSpec.witness6 (enc := enc) (C := Try.checked) false ⟨#[], #[.slice none 0 0], []⟩ 8 (by kernel_rfl) (by kernel_rfl) (by kernel_rfl) (by kernel_rfl)) ?_
  · match ds, hds with
    | [d], _ => rfl
  · intro pvs h
    have e : Try.f4.params.toList = [24] := by kernel_rfl
    rw [e] at h
    obtain ⟨p1, pvs, rfl, h1, h⟩ := argsP_cons h
    obtain rfl := argsP_nil h
    obtain ⟨nums, hl, rfl⟩ := arg_ints h1
    exact law4 nums hl

theorem riteHands_holds : Rows.RiteHandsSaid :=
  OpenClaim.holds_of_wide 4 Try.f4 rfl rfl rfl rfl rfl rfl rfl ⟨rfl, rfl, rfl, rfl, rfl⟩ rfl rfl rfl rfl rfl (by kernel_rfl) Try.func4 (by kernel_rfl)
    (of_decide_eq_true (by kernel_rfl)) (by unfold Func.isWrapper; first | (rw [if_pos (by decide +kernel)]; kernel_rfl) | (rw [if_neg (by decide +kernel)]; exact ⟨rfl, rfl⟩))
    (fun os started H enc _ => riteHands_lifted os started H enc)
#print axioms riteHands_holds
end Go.Proofs.Ytkcmcjohoockcaa
