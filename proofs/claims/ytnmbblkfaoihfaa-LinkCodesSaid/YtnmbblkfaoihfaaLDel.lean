/- slices.DeleteFunc of items that are known to have come. -/
import Derived.Test.YtnmbblkfaoihfaaLTick
namespace Go.Proofs.Ytnmbblkfaoihfaa
open Go.RowKit

/-- The closure of On: is the item known to have come? -/
theorem on1_any (seq tries due ack : Int) (A : Option Addr) (n c : Nat) (b : Nat) (w : World) (hb : w.cell? ⟨b, 1, none⟩ = some (.int .i64 ack)) :
    Calls Try.prog 45 #[.agg #[.int .i64 seq, .slice A n c, .int .i64 tries, .int .i64 due], .pointer (some ⟨b, 0, none⟩)] w fun e w' => e = .returned (.bool (decide (seq ≤ ack))) ∧ Below w.heap.size w w' := by
  have hlt := World.block_lt_of_cell? w _ hb
  simp only at hlt
  go_enter Try.func45, Try.ntmps45
  go_wp2
  go_ret
  exact ⟨rfl, (Below.refl _ _).alloc (Nat.le_refl _) _⟩

/-- What is kept. -/
def keepL (ack : Int) (z : LIm) : Bool := !decide (z.it.seq ≤ ack)
theorem bv_form {w : World} {z : LIm} (h : ByO w z.bv z.it.body) : ∃ A n c, z.bv = .slice A n c := by
  obtain ⟨A, c, e, _⟩ := own_slice h.1
  exact ⟨A, _, c, e⟩

set_option maxRecDepth 100000 in
set_option maxHeartbeats 2000000 in
/-- slices.IndexFunc with it: none, or the first. -/
theorem lidx_any (ack : Int) (b : Nat) (zs : List LIm) (A : Option Addr) (c : Nat) (w : World) (hm : zs.length ≤ maxLen) (hr : Rd w 4 A zs.length (zs.flatMap encL)) (hf : ∀ z ∈ zs, ByO w z.bv z.it.body) (hbx : w.cell? ⟨b, 1, none⟩ = some (.int .i64 ack)) :
    Calls Try.prog 60 #[.slice A zs.length c, .func (.func 45) #[] #[.pointer (some ⟨b, 0, none⟩)]] w fun e w' => Below w.heap.size w w' ∧
      ((e = .returned (.int .i64 (-1)) ∧ ∀ z ∈ zs, keepL ack z = true) ∨ ∃ i : Nat, e = .returned (.int .i64 i) ∧ ∃ hi : i < zs.length, keepL ack zs[i] = false ∧ ∀ j (hj : j < zs.length), j < i → keepL ack zs[j] = true) := by
  unfold maxLen at hm
  have HF := Lib.hid hf
  clear hf
  go_enter Try.func60, Try.ntmps60
  go_wp2
  go_loopw [8] (fun i wr => ∃ k : Nat, k ≤ zs.length ∧ i = .int .i64 k ∧ Below w.heap.size w wr ∧ ∀ j (hj : j < zs.length), j < k → keepL ack zs[j] = true) (fun i _ => zs.length - (intOf i).toNat)
  case atStart => exact ⟨0, Nat.zero_le _, rfl, Below.refl _ _, fun j hj hk => absurd hk (by omega)⟩
  case round =>
    obtain ⟨k, hk, rfl, hb, hq⟩ := hrel
    have HQ := Lib.hid hq
    clear hq
    by_cases hlt : k < zs.length
    · obtain ⟨g, o, rfl, hg, hcell⟩ := hr.2 (by omega)
      have hat := fun j (hj : j < 4) => flatL_at zs k j hlt hj
      obtain ⟨Ab, nb, cb, hbv⟩ := bv_form (HF.out zs[k] (List.getElem_mem _))
      have k0 : wr.cell? ⟨g, o + k * 4, none⟩ = some (.int .i64 zs[k].it.seq) := (hb.cell (p := ⟨g, o + k * 4, none⟩) hg).trans (hcell (k * 4 + 0) _ ((hat 0 (by omega)).trans (by simp only [encL]; rfl)))
      have k1 : wr.cell? ⟨g, o + k * 4 + 1, none⟩ = some (.slice Ab nb cb) := (hb.cell (p := ⟨g, o + k * 4 + 1, none⟩) hg).trans (hcell (k * 4 + 1) _ ((hat 1 (by omega)).trans (by simp only [encL, hbv]; rfl)))
      have k2 : wr.cell? ⟨g, o + k * 4 + 2, none⟩ = some (.int .i64 zs[k].it.tries) := (hb.cell (p := ⟨g, o + k * 4 + 2, none⟩) hg).trans (hcell (k * 4 + 2) _ ((hat 2 (by omega)).trans (by simp only [encL]; rfl)))
      have k3 : wr.cell? ⟨g, o + k * 4 + 3, none⟩ = some (.int .i64 zs[k].it.due) := (hb.cell (p := ⟨g, o + k * 4 + 3, none⟩) hg).trans (hcell (k * 4 + 3) _ ((hat 3 (by omega)).trans (by simp only [encL]; rfl)))
      have hbx1 : wr.cell? ⟨b, 1, none⟩ = some (.int .i64 ack) := (hb.cell (p := ⟨b, 1, none⟩) (World.block_lt_of_cell? w _ hbx)).trans hbx
      have HR := Lib.hid hr
      clear hcell hr hat hbv
      by_cases hval : decide (zs[k].it.seq ≤ ack) = true
      · have HV := Lib.hid hval
        clear hval
        have hC : Hid (∀ wx, wx.cell? ⟨b, 1, none⟩ = some (.int .i64 ack) → Calls Try.prog 45 #[.agg #[.int .i64 zs[k].it.seq, .slice Ab nb cb, .int .i64 zs[k].it.tries, .int .i64 zs[k].it.due], .pointer (some ⟨b, 0, none⟩)] wx fun e w' => e = .returned (.bool true) ∧ Below wx.heap.size wx w') := Lib.hid (fun wx h => HV.out ▸ on1_any _ _ _ ack _ _ _ b wx h)
        go_wp2_with (go_at_call 45; refine (hC.out _ hbx1).mono ?_; rintro e w1 ⟨rfl, hb1⟩)
        go_ret
        exact ⟨hb.trans (hb1.mono hb.size), .inr ⟨k, rfl, hlt, by simpa [keepL] using HV.out, fun j hj hjk => HQ.out j hj hjk⟩⟩
      · have hval' : decide (zs[k].it.seq ≤ ack) = false := by simpa using hval
        have HV := Lib.hid hval'
        clear hval hval'
        have hC : Hid (∀ wx, wx.cell? ⟨b, 1, none⟩ = some (.int .i64 ack) → Calls Try.prog 45 #[.agg #[.int .i64 zs[k].it.seq, .slice Ab nb cb, .int .i64 zs[k].it.tries, .int .i64 zs[k].it.due], .pointer (some ⟨b, 0, none⟩)] wx fun e w' => e = .returned (.bool false) ∧ Below wx.heap.size wx w') := Lib.hid (fun wx h => HV.out ▸ on1_any _ _ _ ack _ _ _ b wx h)
        go_wp2_with (go_at_call 45; refine (hC.out _ hbx1).mono ?_; rintro e w1 ⟨rfl, hb1⟩)
        go_roundw
        case rel =>
          refine ⟨k + 1, by omega, by go_num, hb.trans (hb1.mono hb.size), fun j hj hk => ?_⟩
          rcases Nat.lt_or_ge j k with h | h
          · exact HQ.out j hj h
          · obtain rfl : j = k := by omega
            simpa [keepL] using HV.out
        case measure => simp [intOf]; omega
    · go_wp2
      go_ret
      refine ⟨hb, .inl ⟨rfl, fun z hz => ?_⟩⟩
      obtain ⟨j, hj, rfl⟩ := List.getElem_of_mem hz
      exact HQ.out j hj (by omega)

theorem flatL_set4 (zs : List LIm) (k : Nat) (h : k < zs.length) (z : LIm) : ((((zs.flatMap encL).set (k * 4) (.int .i64 z.it.seq)).set (k * 4 + 1) z.bv).set (k * 4 + 2) (.int .i64 z.it.tries)).set (k * 4 + 3) (.int .i64 z.it.due) = (zs.set k z).flatMap encL := by
  induction zs generalizing k with
  | nil => simp at h
  | cons x zs ih =>
    cases k with
    | zero => simp [encL]
    | succ k =>
      have e0 : (k + 1) * 4 = 4 + (k * 4) := by omega
      have e1 : 4 + k * 4 + 1 = 4 + (k * 4 + 1) := by omega
      have e2 : 4 + k * 4 + 2 = 4 + (k * 4 + 2) := by omega
      have e3 : 4 + k * 4 + 3 = 4 + (k * 4 + 3) := by omega
      rw [List.flatMap_cons, e0, e1, e2, e3, List.set_append_right _ _ (by rw [encL_len]; omega), encL_len, Nat.add_sub_cancel_left, List.set_append_right _ _ (by rw [encL_len]; omega), encL_len, Nat.add_sub_cancel_left, List.set_append_right _ _ (by rw [encL_len]; omega), encL_len, Nat.add_sub_cancel_left, List.set_append_right _ _ (by rw [encL_len]; omega), encL_len, Nat.add_sub_cancel_left, ih k (by simpa using h)]
      simp
/-- A row that is cut off: its first cells, whatever is written behind them. -/
theorem own_cut {w : World} {base e size g n c m : Nat} {xs ys vs : List Value} (h : w.ownsRow base e size (.slice (some ⟨g, 0, none⟩) n c) n xs) (hm : m ≤ n) (hy : ys = xs.take (m * size)) (hv : vs.length ≤ (n - m) * size) :
    (w.setCells g (m * size) vs).ownsRow base e size (.slice (some ⟨g, 0, none⟩) m c) m ys := by
  obtain ⟨hl, h | ⟨g', cap, cur, hv', hb, hg, hnc, hcm, hcs, htake⟩⟩ := h
  · cases h.1
  cases hv'
  have hmn : m * size ≤ n * size := Nat.mul_le_mul_right _ hm
  have hnz : n * size ≤ c * size := Nat.mul_le_mul_right _ hnc
  have hsub : (n - m) * size = n * size - m * size := Nat.sub_mul _ _ _
  refine ⟨by rw [hy, List.length_take]; omega, .inr ⟨g, c, _, rfl, hb, block_over vs cur _ w hg, by omega, hcm, by rw [over_size, hcs], ?_⟩⟩
  rw [hy, ← htake]
  apply List.ext_getElem?
  intro t
  rw [List.getElem?_take, List.getElem?_take]
  split
  · rw [Array.getElem?_toList, over_get _ _ _ _ (by omega), if_neg (by omega), List.getElem?_take, if_pos (by omega), Array.getElem?_toList]
  · rfl
theorem zeroItem (w : World) : (zeroValue 84).run Try.prog w = .ok (.agg #[.int .i64 0, .slice none 0 0, .int .i64 0, .int .i64 0]) w := by kernel_rfl
end Go.Proofs.Ytnmbblkfaoihfaa
