/- Bytes told as strings. -/
import Derived.Test.YtgmohiojddnfgaaGreatDoorGhost31
import Derived.Lib.UnsafeStr
import Derived.Laws.BytesArg
namespace Go.Gh
set_option linter.unusedSimpArgs false
set_option linter.unusedVariables false

section
variable {w : World} {S : Nat → Prop} {μ : Mu} {H : Heap} {P : Program} {ℓ : Nat}

theorem bytesOf_some : ∀ {rows : List (List PV)} {l : List UInt8}, bytesOf rows = some l → rows = l.map fun b => [.int .u8 b.toNat]
  | [], l, h => by simp only [bytesOf, Option.some.injEq] at h; subst h; rfl
  | [.int .u8 n] :: r, l, h => by
    simp only [bytesOf] at h
    split at h
    · rename_i hn
      split at h
      · rename_i l' hl
        simp only [Option.some.injEq] at h
        subst h
        rw [bytesOf_some hl]
        have : ((UInt8.ofNat n.toNat).toNat : Int) = n := by
          rw [UInt8.toNat_ofNat']
          omega
        rw [List.map_cons, this]
      · cases h
    · cases h
  | [] :: _, l, h => by simp [bytesOf] at h
  | (_ :: _ :: _) :: _, l, h => by simp [bytesOf] at h
  | [.bool _] :: _, l, h => by simp [bytesOf] at h
  | [.str _] :: _, l, h => by simp [bytesOf] at h
  | [.slice _] :: _, l, h => by simp [bytesOf] at h
  | [.agg _] :: _, l, h => by simp [bytesOf] at h
  | [.tuple _] :: _, l, h => by simp [bytesOf] at h
  | [.fn _] :: _, l, h => by simp [bytesOf] at h
  | [.nilp] :: _, l, h => by simp [bytesOf] at h
  | [.nilf] :: _, l, h => by simp [bytesOf] at h
  | [.nilm] :: _, l, h => by simp [bytesOf] at h
  | [.nili] :: _, l, h => by simp [bytesOf] at h
  | [.iface _ _] :: _, l, h => by simp [bytesOf] at h
  | [.dead] :: _, l, h => by simp [bytesOf] at h
  | [.int .i8 _] :: _, l, h => by simp [bytesOf] at h
  | [.int .i16 _] :: _, l, h => by simp [bytesOf] at h
  | [.int .i32 _] :: _, l, h => by simp [bytesOf] at h
  | [.int .i64 _] :: _, l, h => by simp [bytesOf] at h
  | [.int .u16 _] :: _, l, h => by simp [bytesOf] at h
  | [.int .u32 _] :: _, l, h => by simp [bytesOf] at h
  | [.int .u64 _] :: _, l, h => by simp [bytesOf] at h

theorem toBytes_run {k : Nat} {src dst e : TypeId} {v : Value} {rows : List (List PV)} {l : List UInt8} (hs : P.underlying src = some (.slice e)) (he : P.underlying e = some (.int .u8)) (hd : P.underlying dst = some .string)
    (hv : VRel w S μ k v (.pure (.slice rows))) (hb : bytesOf rows = some l) (h0 : rows ≠ []) : ∃ str : ByteArray, (convert src dst v).run P w = .ok (.string str) w ∧ str.data.toList = l := by
  have hr := bytesOf_some hb
  have hp := hv.pv
  cases hp with
  | slice0 a cap => exact absurd rfl h0
  | slice b o cap es _ f hS hpos hes hf h1 hrep hc =>
    obtain ⟨r0, hr0⟩ : ∃ r0, r0 ∈ rows := by cases rows with | nil => exact absurd rfl h0 | cons r _ => exact ⟨r, List.mem_cons_self ..⟩
    have hes1 : es = 1 := by
      have := hes r0 hr0
      rw [hr] at hr0
      obtain ⟨x, _, rfl⟩ := List.mem_map.1 hr0
      simpa using this.symm
    subst hes1
    have hlen : rows.length = l.length := by rw [hr]; simp
    have hrun := run_convert_bytes_arg (P := P) w src e hs he b o rows.length cap (l.map fun b => (b.toNat : Int)) (by simp [hlen]) (fun i hi => by
      have hil : i < l.length := by omega
      have h2 := hf i 0 hi (by omega)
      have h3 := hrep i 0 hi (by omega)
      have e1 : (rows.getD i []).getD 0 .dead = .int .u8 (l[i].toNat : Int) := by rw [hr]; simp [List.getD_eq_getElem?_getD, hil]
      rw [e1] at h3
      rw [show o + i = o + (i * 1 + 0) by omega, h2]
      have e2 : (l.map fun b => (b.toNat : Int)).getD i 0 = (l[i].toNat : Int) := by simp [List.getD_eq_getElem?_getD, hil]
      rw [e2]
      generalize f i 0 = u at h3
      cases h3
      rfl) dst hd
    refine ⟨_, hrun, ?_⟩
    simp [strOfNums, Function.comp_def]

theorem cellsOf_of_size {e : TypeId} {n : Nat} (h : tsize P e = some n) : P.cellsOf e = n := by
  unfold tsize at h
  unfold Program.cellsOf
  cases hi : P.info? e with
  | none => rw [hi] at h; simp at h
  | some i => rw [hi] at h; simp at h; simp [h]

theorem sliceData_run {k : Nat} {ts : Array TypeId} {ty : TypeId} {nm : Nm} {es top len : Nat} {v : Value} (h : VRel w S μ k v (.hdr nm es top 0 len)) (h0 : 0 < top) :
    ∃ b, (Builtin.unsafeSliceData_ ts ty #[v]).run P w = .ok (.pointer (some ⟨b, 0, none⟩)) w ∧ VRel w S μ k (.pointer (some ⟨b, 0, none⟩)) (.eptr nm es top 0 0) := by
  cases h with
  | hdr _ _ _ _ _ cap b n e hl hm hc ht hsh hn =>
    refine ⟨b, ?_, ?_⟩
    · have := Go.Lib.run_unsafeSliceData_row (P := P) w ts ty ⟨b, 0, none⟩ len cap (by omega)
      simpa using this
    · have := VRel.eptr (w := w) (S := S) (μ := μ) (ℓ := k) nm es top 0 0 b hl hm
      simpa using this

theorem gunsafeStr_sound (K : Ctx) {ty pt it : TypeId} {x y v : GV} {vx vy : Value} {H' : Heap} (hH : HRel w S μ H) (hx : VRel w S μ (H.length - 1) vx x) (hy : VRel w S μ (H.length - 1) vy y)
    (h : gunsafeStr K pt H x y = some (v, H')) :
    OpOk ℓ w S μ H ((do pure (Next.value (← Builtin.unsafeString_ #[pt, it] ty #[vx, vy])) : Sem Next).run K.P w) v H' := by
  unfold gunsafeStr at h
  split at h
  · rename_i nm top n e hp
    split at h
    · rename_i rows vf hg
      split at h
      · rename_i hc
        obtain ⟨c1, c2, c3, c4, c5, c6, c7⟩ := hc
        split at h
        · rename_i l hl
          simp only [Option.some.injEq, Prod.mk.injEq] at h
          obtain ⟨rfl, rfl⟩ := h
          rw [hy.int_inv]
          have hr := bytesOf_some hl
          cases hx with
          | eptr _ _ _ _ _ b hlv hm =>
            obtain ⟨k0, k1, k2, k3, k4⟩ := hH.blk _ _ hg _ _ hm
            obtain ⟨g1, ⟨c, e', g2⟩, g3, g4⟩ := k4 _ _ hm
            have hty : tyE nm e' = e := by unfold tyE; rw [c6]
            rw [hty] at g2
            obtain ⟨_, g5⟩ := g4 c5
            have hsh : w.shape? b = some (e, c.size) := by unfold World.shape?; rw [g2]
            have hll : l.length = n.toNat := by
              have := congrArg List.length hr
              simp at this; omega
            have hcell : ∀ (j : Nat) (u : UInt8), l[j]? = some u → w.cell? ((⟨b, 0, none⟩ : Addr).add j) = some (.int .u8 u.toNat) := fun j u hj => by
              have hjl : j < l.length := by
                rcases Nat.lt_or_ge j l.length with h | h
                · exact h
                · rw [List.getElem?_eq_none h] at hj; cases hj
              obtain ⟨z, z1, z2, z3⟩ := g5 j 0 (by omega) (by omega)
              have e1 : (rows.getD j []).getD 0 .dead = .int .u8 (u.toNat : Int) := by
                have h1 : (rows.take n.toNat)[j]? = some [.int .u8 (u.toNat : Int)] := by rw [hr, List.getElem?_map, hj]; rfl
                rw [List.getElem?_take_of_lt (by omega)] at h1
                simp [List.getD_eq_getElem?_getD, h1]
              rw [e1] at z3
              cases z3
              have e2 : (⟨b, 0, none⟩ : Addr).add j = ⟨b, j * 1 + 0, none⟩ := by unfold Addr.add; split <;> simp_all
              rw [e2]; exact z1
            have hcs : n.toNat ≤ c.size := by
              have h1 := hcell (n.toNat - 1) (l[n.toNat - 1]'(by omega)) (by simp)
              have e2 : (⟨b, 0, none⟩ : Addr).add (n.toNat - 1) = ⟨b, n.toNat - 1, none⟩ := by unfold Addr.add; split <;> simp_all
              rw [e2] at h1
              unfold World.cell? at h1
              simp only [g2] at h1
              rcases Nat.lt_or_ge (n.toNat - 1) c.size with h | h
              · omega
              · simp [Array.getElem?_eq_none h] at h1
            have hrun := Go.Lib.run_unsafeString_row (P := K.P) w pt it ty e hp (cellsOf_of_size c7) b c.size hsh l (by intro e; subst e; simp at hll; omega) (by omega) (by omega) hcell
            rw [show ((l.length : Nat) : Int) = n by omega] at hrun
            have hlt := hH.lt _ _ _ hm
            have hheap : ∀ q, q ≠ b → (w.freeze ⟨b, 0, none⟩ l.length).heap[q]? = w.heap[q]? := fun q hq => by
              unfold World.freeze
              split
              · rfl
              · simp [Array.getElem?_modify, Ne.symm hq]
            have hheapb : ∃ fr, (w.freeze ⟨b, 0, none⟩ l.length).heap[b]? = some (.cells c e fr) := by
              unfold World.freeze
              split
              · exact ⟨_, g2⟩
              · simp [Array.getElem?_modify, g2]
            obtain ⟨fr, hheapb⟩ := hheapb
            have hsz : (w.freeze ⟨b, 0, none⟩ l.length).heap.size = w.heap.size := by
              unfold World.freeze
              split
              · rfl
              · simp
            have hos : (w.freeze ⟨b, 0, none⟩ l.length).os = w.os ∧ (w.freeze ⟨b, 0, none⟩ l.length).tape = w.tape ∧ (w.freeze ⟨b, 0, none⟩ l.length).output = w.output := by
              unfold World.freeze
              split <;> exact ⟨rfl, rfl, rfl⟩
            obtain ⟨t1, t2⟩ := hH.turn (w' := w.freeze ⟨b, 0, none⟩ l.length) (S' := S) (μ' := μ) (x := .gone) ℓ (Heap.get_lt hg) hos.1 hos.2.1 hos.2.2 (by rw [hsz]; omega) (fun _ h => h) (fun b h => .inl h) (fun q h => by rw [hsz]; exact hH.slt q h)
              (fun q hq ho => hheap q (by
                rintro rfl
                rcases ho with ho | ho
                · exact g3 rfl ho
                · exact ho _ hm))
              (fun q y hy => by
                by_cases e0 : q = b
                · subst e0
                  unfold World.shape? at hy ⊢
                  rw [hheapb]; rw [g2] at hy; exact hy
                · unfold World.shape? at hy ⊢
                  rw [hheap q e0]; exact hy)
              (fun q r hq => by
                by_cases e0 : q = b
                · subst e0; rw [g2] at hq; cases hq
                · exact ⟨r, by rw [hheap q e0]; exact hq⟩)
              (fun n t h => rfl) (fun t b h => h) (fun t b h => .inl ⟨t, h⟩) (fun t q h => by rw [hsz]; exact hH.lt _ _ _ h) trivial
            refine ⟨.value (.string ⟨l.toArray⟩), _, w.freeze ⟨b, 0, none⟩ l.length, S, μ, ?_, .inl rfl, ?_, t1, t2, Heap.length_set _ _ _⟩
            · simp only [Nat.zero_mul, Nat.add_zero, Nat.zero_add, Sem.run_bind, hrun, Result.andThen]; rfl
            · exact .pure _ _ (.str ⟨l.toArray⟩)
        · cases h
      · cases h
    · cases h
  · cases h
end
end Go.Gh
