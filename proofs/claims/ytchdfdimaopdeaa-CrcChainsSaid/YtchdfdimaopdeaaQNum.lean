/- Numbers as bytes, the highest first, and back: package crc and the reference. -/
import Derived.Test.YtchdfdimaopdeaaQFr
import Derived.Test.YtchdfdimaopdeaaQRMix
namespace Go.Proofs.Ytchdfdimaopdeaa
open Go.RowKit

set_option maxRecDepth 100000 in
set_option maxHeartbeats 800000 in
theorem bytesOf_any (x s : Nat) (hs : s ≤ 8) (w : World) : Calls Try.prog 29 #[.int .u64 x, .int .i64 s] w (RetO (hiN x s) w) := by
  obtain ⟨i0, hi0, hz0, hz1, hz2⟩ := info_parts Try.infoByte
  go_enter Try.func29, Try.ntmps29
  go_wp2_with fail
  go_loopw [5, 6] (fun o i wr => ∃ (t : Nat) (pre : List Nat), t ≤ s ∧ i = .int .i64 ((t : Int) - 1) ∧ pre.length = s - t ∧ pre ++ hiN x t = hiN x s ∧ wr.ownsRow w.heap.size 5 1 o pre.length (pre.map u8v) ∧ Below w.heap.size w wr) (fun _ i _ => (intOf i + 1).toNat)
  case atStart => exact ⟨s, [], Nat.le_refl _, rfl, by simp, rfl, World.ownsRow_nil _ _ _ _, Below.refl _ _⟩
  case round =>
    obtain ⟨t, pre, ht, rfl, hpl, hpre, ho, hb⟩ := hrel
    have HO := Lib.hid ho
    have HB := Lib.hid hb
    have HP := Lib.hid hpre
    have hsz := hb.size
    obtain ⟨A, c, rfl, k1, k2, _⟩ := own_slice ho
    have hc : c ≤ 9223372036854775807 := by unfold maxLen at k2; omega
    clear ho hb hpre k2
    cases t with
    | succ t =>
      have et : (((t + 1 : Nat) : Int) - 1) = (t : Int) := by omega
      rw [et]
      have hval : (x : Int) / 2 ^ (8 * t) % 256 = ((x / 256 ^ t % 256 : Nat) : Int) := by
        have e : (2 : Int) ^ (8 * t) = ((256 ^ t : Nat) : Int) := by
          rw [show (256 : Nat) = 2 ^ 8 from rfl, ← Nat.pow_mul]
          simp
        rw [e]
        rfl
      have HV := Lib.hid hval
      clear hval et
      have htl : t < 8 := by omega
      have HPL := Lib.hid hpl
      obtain ⟨L, hL⟩ : ∃ L, pre.length = L := ⟨_, rfl⟩
      have hL8 : L ≤ 8 := by omega
      rw [hL] at k1
      have HL := Lib.hid hL
      have HO' : Hid (wr.ownsRow w.heap.size 5 1 (.slice A L c) L (pre.map u8v)) := Lib.hid (by have := HO.out; rwa [hL] at this)
      clear HO
      simp only [hL]
      clear hL hpl
      go_wp2_with (at_builtin
                   refine wpList_append_own _ rfl (.tmp 13) (.tmp 19) 23 rfl w.heap.size 5 i0 (.int .u8 0) 1 1 Try.underlying23 hi0 hz0 hz1 hz2 rfl (by decide) (.slice A L c) L _ rfl (HO'.out.alloc _) ⟨wr.heap.size, 0, none⟩ 1 1 _ rfl rfl (cell_one_new _ _ _) (by simp [Value.oneCell']) (by unfold maxLen; omega) (by omega) (by simp; omega) ?_
                   intro v5 w5 hown5 hgrow5 _
                   have hb5 := grown_below (HB.out.alloc hsz _) (by simp; omega) (HO'.out.alloc _) hgrow5
                   have HO5 := Lib.hid hown5
                   have HB5 := Lib.hid hb5
                   clear hown5 hgrow5 hb5)
      go_roundw
      case rel =>
        refine ⟨t, pre ++ [x / 256 ^ t % 256], by omega, rfl, by have := HPL.out; simp; omega, by rw [List.append_assoc]; exact HP.out, ?_, HB5.out⟩
        have := HO5.out
        rw [HV.out] at this
        rw [List.length_append, HL.out, List.map_append]
        exact this
      case measure => simp [intOf]
    | zero =>
      have hfin : pre = hiN x s := by
        have := HP.out
        simpa [hiN] using this
      have HF := Lib.hid hfin
      clear hfin ht
      go_wp2_with fail
      go_ret
      refine ⟨_, rfl, ?_, HB.out⟩
      rw [← HF.out]
      exact HO.out

set_option maxRecDepth 100000 in
set_option maxHeartbeats 800000 in
theorem high_any (x s : Nat) (hs : s ≤ 8) (w : World) : Calls Try.prog 30 #[.int .u64 x, .int .i64 s] w (RetO (hiN x s) w) := by
  obtain ⟨i0, hi0, hz0, hz1, hz2⟩ := info_parts Try.infoByte
  go_enter Try.func30, Try.ntmps30
  go_wp2_with fail
  go_loopw [5, 6] (fun o i wr => ∃ (t : Nat) (pre : List Nat), t ≤ s ∧ i = .int .i64 ((t : Int) - 1) ∧ pre.length = s - t ∧ pre ++ hiN x t = hiN x s ∧ wr.ownsRow w.heap.size 5 1 o pre.length (pre.map u8v) ∧ Below w.heap.size w wr) (fun _ i _ => (intOf i + 1).toNat)
  case atStart => exact ⟨s, [], Nat.le_refl _, rfl, by simp, rfl, World.ownsRow_nil _ _ _ _, Below.refl _ _⟩
  case round =>
    obtain ⟨t, pre, ht, rfl, hpl, hpre, ho, hb⟩ := hrel
    have HO := Lib.hid ho
    have HB := Lib.hid hb
    have HP := Lib.hid hpre
    have hsz := hb.size
    obtain ⟨A, c, rfl, k1, k2, _⟩ := own_slice ho
    have hc : c ≤ 9223372036854775807 := by unfold maxLen at k2; omega
    clear ho hb hpre k2
    cases t with
    | succ t =>
      have et : (((t + 1 : Nat) : Int) - 1) = (t : Int) := by omega
      rw [et]
      have hval : (x : Int) / 2 ^ (8 * t) % 256 = ((x / 256 ^ t % 256 : Nat) : Int) := by
        have e : (2 : Int) ^ (8 * t) = ((256 ^ t : Nat) : Int) := by
          rw [show (256 : Nat) = 2 ^ 8 from rfl, ← Nat.pow_mul]
          simp
        rw [e]
        rfl
      have HV := Lib.hid hval
      clear hval et
      have htl : t < 8 := by omega
      have HPL := Lib.hid hpl
      obtain ⟨L, hL⟩ : ∃ L, pre.length = L := ⟨_, rfl⟩
      have hL8 : L ≤ 8 := by omega
      rw [hL] at k1
      have HL := Lib.hid hL
      have HO' : Hid (wr.ownsRow w.heap.size 5 1 (.slice A L c) L (pre.map u8v)) := Lib.hid (by have := HO.out; rwa [hL] at this)
      clear HO
      simp only [hL]
      clear hL hpl
      go_wp2_with (at_builtin
                   refine wpList_append_own _ rfl (.tmp 13) (.tmp 19) 23 rfl w.heap.size 5 i0 (.int .u8 0) 1 1 Try.underlying23 hi0 hz0 hz1 hz2 rfl (by decide) (.slice A L c) L _ rfl (HO'.out.alloc _) ⟨wr.heap.size, 0, none⟩ 1 1 _ rfl rfl (cell_one_new _ _ _) (by simp [Value.oneCell']) (by unfold maxLen; omega) (by omega) (by simp; omega) ?_
                   intro v5 w5 hown5 hgrow5 _
                   have hb5 := grown_below (HB.out.alloc hsz _) (by simp; omega) (HO'.out.alloc _) hgrow5
                   have HO5 := Lib.hid hown5
                   have HB5 := Lib.hid hb5
                   clear hown5 hgrow5 hb5)
      go_roundw
      case rel =>
        refine ⟨t, pre ++ [x / 256 ^ t % 256], by omega, rfl, by have := HPL.out; simp; omega, by rw [List.append_assoc]; exact HP.out, ?_, HB5.out⟩
        have := HO5.out
        rw [HV.out] at this
        rw [List.length_append, HL.out, List.map_append]
        exact this
      case measure => simp [intOf]
    | zero =>
      have hfin : pre = hiN x s := by
        have := HP.out
        simpa [hiN] using this
      have HF := Lib.hid hfin
      clear hfin ht
      go_wp2_with fail
      go_ret
      refine ⟨_, rfl, ?_, HB.out⟩
      rw [← HF.out]
      exact HO.out

set_option maxRecDepth 100000 in
set_option maxHeartbeats 400000 in
theorem number_any (v : Value) (bs : List Nat) (hb : ∀ b ∈ bs, b < 256) (hl8 : bs.length ≤ 8) (w : World) (hv : Bs w v bs) : Calls Try.prog 31 #[v] w fun e w' => e = .returned (.int .u64 (loN bs : Nat)) ∧ w = w' := by
  obtain ⟨A, c, rfl, hl, _⟩ := hv.slice
  have HV := Lib.hid hv
  have HB := Lib.hid hb
  clear hb hv
  go_enter Try.func31, Try.ntmps31
  go_wp2_with fail
  go_loop [3, 8] (fun x i => ∃ k : Nat, k ≤ bs.length ∧ i = .int .i64 k ∧ x = .int .u64 (loN (bs.take k) : Nat)) (fun _ i => bs.length - (intOf i).toNat)
  case atStart => exact ⟨0, Nat.zero_le _, rfl, rfl⟩
  case round =>
    obtain ⟨k, hk, rfl, rfl⟩ := hrel
    by_cases hlt : k < bs.length
    · obtain ⟨g, o, rfl, hc⟩ := HV.out.at_ k hlt
      have hbk := HB.out bs[k] (List.getElem_mem hlt)
      have hle : loN (bs.take k) < 72057594037927936 := by
        refine Nat.lt_of_lt_of_le (loN_lt (fun b hb => HB.out b (List.mem_of_mem_take hb))) ?_
        have : (bs.take k).length ≤ 7 := by rw [List.length_take]; omega
        exact Nat.le_trans (Nat.pow_le_pow_right (by decide) this) (by decide)
      have hor := or_low hle hbk
      have hnx : loN (bs.take (k + 1)) = bs[k] + 256 * loN (bs.take k) := by rw [List.take_succ_eq_append_getElem hlt, loN_snoc]
      rw [← hnx] at hor
      obtain ⟨b, hb⟩ : ∃ b, bs[k] = b := ⟨_, rfl⟩
      obtain ⟨M, hM⟩ : ∃ M, loN (bs.take k) = M := ⟨_, rfl⟩
      rw [hb] at hc hbk hor
      rw [hM] at hor hle
      simp only [hM]
      have HOR := Lib.hid hor
      clear hnx hb hM hor
      go_wp2_with fail
      go_round
      case rel => exact ⟨k + 1, hlt, by go_num, by rw [HOR.out]⟩
      case measure => simp [intOf]; omega
    · obtain rfl : k = bs.length := by omega
      rw [List.take_length]
      go_wp2
      go_ret
      exact ⟨rfl, rfl⟩

set_option maxRecDepth 100000 in
set_option maxHeartbeats 400000 in
theorem low_any (v : Value) (bs : List Nat) (hb : ∀ b ∈ bs, b < 256) (hl8 : bs.length ≤ 8) (w : World) (hv : Bs w v bs) : Calls Try.prog 36 #[v] w fun e w' => e = .returned (.int .u64 (loN bs : Nat)) ∧ w = w' := by
  obtain ⟨A, c, rfl, hl, _⟩ := hv.slice
  have HV := Lib.hid hv
  have HB := Lib.hid hb
  clear hb hv
  go_enter Try.func36, Try.ntmps36
  go_wp2_with fail
  go_loop [3, 4] (fun x i => ∃ k : Nat, k ≤ bs.length ∧ i = .int .i64 k ∧ x = .int .u64 (loN (bs.take k) : Nat)) (fun _ i => bs.length - (intOf i).toNat)
  case atStart => exact ⟨0, Nat.zero_le _, rfl, rfl⟩
  case round =>
    obtain ⟨k, hk, rfl, rfl⟩ := hrel
    by_cases hlt : k < bs.length
    · obtain ⟨g, o, rfl, hc⟩ := HV.out.at_ k hlt
      have hbk := HB.out bs[k] (List.getElem_mem hlt)
      have hle : loN (bs.take k) < 72057594037927936 := by
        refine Nat.lt_of_lt_of_le (loN_lt (fun b hb => HB.out b (List.mem_of_mem_take hb))) ?_
        have : (bs.take k).length ≤ 7 := by rw [List.length_take]; omega
        exact Nat.le_trans (Nat.pow_le_pow_right (by decide) this) (by decide)
      have hor := or_low hle hbk
      have hnx : loN (bs.take (k + 1)) = bs[k] + 256 * loN (bs.take k) := by rw [List.take_succ_eq_append_getElem hlt, loN_snoc]
      rw [← hnx] at hor
      obtain ⟨b, hb⟩ : ∃ b, bs[k] = b := ⟨_, rfl⟩
      obtain ⟨M, hM⟩ : ∃ M, loN (bs.take k) = M := ⟨_, rfl⟩
      rw [hb] at hc hbk hor
      rw [hM] at hor hle
      simp only [hM]
      have HOR := Lib.hid hor
      clear hnx hb hM hor
      go_wp2_with fail
      go_round
      case rel => exact ⟨k + 1, hlt, by go_num, by rw [HOR.out]⟩
      case measure => simp [intOf]; omega
    · obtain rfl : k = bs.length := by omega
      rw [List.take_length]
      go_wp2
      go_ret
      exact ⟨rfl, rfl⟩
end Go.Proofs.Ytchdfdimaopdeaa
