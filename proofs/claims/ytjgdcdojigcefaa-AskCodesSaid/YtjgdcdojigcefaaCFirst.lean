/- The contract of cells.First: the number with whose cell bytes begin. -/
import Derived.Test.YtjgdcdojigcefaaStr
import Derived.Test.YtjgdcdojigcefaaCFst
import Derived.Test.YtjgdcdojigcefaaHeld
import Derived.BigRegion
import Derived.OwnWalk
import Derived.Deep.RegionWith
import Derived.IntWalk
namespace Go.Proofs.Ytjgdcdojigcefaa
open Go.RowKit

/-- What First tells. -/
def fstV (bs : List Nat) : Value := match firstN bs with | some (n, k) => .tuple #[.int .i64 n, .int .i64 k, .int .i64 0] | none => .tuple #[.int .i64 0, .int .i64 0, .int .i64 10]
theorem fstV_some {bs : List Nat} {n : Int} {k : Nat} (h : firstN bs = some (n, k)) : fstV bs = .tuple #[.int .i64 n, .int .i64 k, .int .i64 0] := by unfold fstV; rw [h]
theorem fstV_none {bs : List Nat} (h : firstN bs = none) : fstV bs = .tuple #[.int .i64 0, .int .i64 0, .int .i64 10] := by unfold fstV; rw [h]

theorem or_byte (x c : Nat) (hx : x < 72057594037927936) (hc : c < 256) : bits .or .u64 (((x * 256 : Nat) : Int)) (c : Int) = ((x * 256 + c : Nat) : Int) := by
  show IntKind.u64.wrap (((BitVec.ofInt 64 ((x * 256 : Nat) : Int)) ||| (BitVec.ofInt 64 (c : Int))).toNat : Int) = _
  have e : (BitVec.ofInt 64 ((x * 256 : Nat) : Int) ||| BitVec.ofInt 64 (c : Int)).toNat = x * 256 + c := by
    rw [BitVec.toNat_or, BitVec.toNat_ofInt, BitVec.toNat_ofInt]
    have e1 : (((x * 256 : Nat) : Int) % ((2 ^ 64 : Nat) : Int)).toNat = x <<< 8 := by
      rw [Nat.shiftLeft_eq]
      omega
    have e2 : ((c : Int) % ((2 ^ 64 : Nat) : Int)).toNat = c := by omega
    rw [e1, e2, ← Nat.shiftLeft_add_eq_or_of_lt (by omega), Nat.shiftLeft_eq]
  rw [e]
  simp only [IntKind.wrap, IntKind.bits, IntKind.signed]
  simp
  omega
theorem xor_zero (x : Nat) (hx : x < 18446744073709551616) : bits .xor .u64 (x : Int) 0 = x := by
  show IntKind.u64.wrap (((BitVec.ofInt 64 (x : Int)) ^^^ (BitVec.ofInt 64 0)).toNat : Int) = x
  have e : (BitVec.ofInt 64 (x : Int) ^^^ BitVec.ofInt 64 0).toNat = x := by
    rw [BitVec.toNat_xor, BitVec.toNat_ofInt, BitVec.toNat_ofInt]
    simp
    omega
  rw [e]
  simp only [IntKind.wrap, IntKind.bits, IntKind.signed]
  simp
  omega
theorem xor_ones (x : Nat) (hx : x < 18446744073709551616) : bits .xor .u64 (x : Int) 18446744073709551615 = 18446744073709551615 - x := by
  show IntKind.u64.wrap (((BitVec.ofInt 64 (x : Int)) ^^^ (BitVec.ofInt 64 18446744073709551615)).toNat : Int) = _
  have e3 : BitVec.ofInt 64 18446744073709551615 = BitVec.allOnes 64 := by rfl
  have e : (BitVec.ofInt 64 (x : Int) ^^^ BitVec.allOnes 64).toNat = (18446744073709551615 - (x : Int)).toNat := by
    rw [BitVec.xor_allOnes, BitVec.toNat_not, BitVec.toNat_ofInt]
    omega
  rw [e3, e]
  simp only [IntKind.wrap, IntKind.bits, IntKind.signed]
  simp
  omega

/-- What holds between two rounds of First. -/
def FstRel (t : List Nat) (z : Nat) (u i : Value) : Prop := ∃ k : Nat, k ≤ z ∧ i = .int .i64 k ∧ u = .int .u64 (val (t.take k) : Nat)

theorem numB_head (n : Int) : (0 ≤ n → n < 128 → numB n = [n.toNat]) ∧ (128 ≤ n → numB n = (128 + (dig n.toNat).length) :: dig n.toNat) ∧ (n < 0 → numB n = (144 + (dig (-1 - n).toNat).length) :: dig (-1 - n).toNat) := by
  unfold numB
  refine ⟨fun h1 h2 => by rw [if_pos ⟨h1, h2⟩], fun h => by rw [if_neg (by omega), if_pos (by omega)], fun h => by rw [if_neg (by omega), if_neg (by omega)]⟩
/-- What First makes of the bytes, compared: the two ways of going wrong are one. -/
theorem first_cmp (h k x : Nat) (t : List Nat) (N : Int) (hk : k ≤ 8) (hh : h = 128 + k ∨ h = 144 + k) (hkt : k ≤ t.length) (hx : x = val (t.take k)) (hx64 : x < 18446744073709551616)
    (hN : (x < 9223372036854775808 → N = numH h x) ∧ (9223372036854775808 ≤ x → (h = 128 + k → N < 0) ∧ (h = 144 + k → 0 ≤ N))) :
    firstN (h :: t) = if numB N = (h :: t).take (1 + k) then some (N, 1 + k) else none := by
  have hs : sizeH h = k := by unfold sizeH; rcases hh with rfl | rfl <;> split <;> omega
  rw [firstN, if_neg (by omega), hs, if_neg (by omega), ← hx]
  by_cases hlt : x < 9223372036854775808
  · rw [hN.1 hlt]
    simp only [hlt, true_and]
  · have hge := hN.2 (by omega)
    rw [if_neg (fun hc => hlt hc.1), if_neg]
    rw [Nat.add_comm 1 k, List.take_succ_cons]
    intro e
    rcases hh with rfl | rfl
    · rw [(numB_head N).2.2 (hge.1 rfl)] at e
      injection e with e _
      omega
    · by_cases hc : N < 128
      · rw [(numB_head N).1 (hge.2 rfl) hc] at e
        injection e with e _
        omega
      · rw [(numB_head N).2.1 (by omega)] at e
        injection e with e _
        have := dig_le N.toNat
        omega

set_option maxRecDepth 100000 in
set_option maxHeartbeats 400000 in
theorem first_nil (A : Option Addr) (c : Nat) (w : World) : Calls Try.prog 60 #[.slice A 0 c] w fun e w' => e = .returned (fstV []) ∧ Below w.heap.size w w' := by
  have HV := Lib.hid (fstV_none (bs := []) rfl)
  go_enter Try.func60, Try.ntmps60
  go_wp2
  go_ret3
  rw [HV.out]
  exact ⟨rfl, Below.refl _ _⟩

set_option maxRecDepth 100000 in
set_option maxHeartbeats 400000 in
theorem first_small (g o c : Nat) (w : World) (h : Nat) (t : List Nat) (n : Nat) (hn : 0 < n) (hc : w.cell? ⟨g, o, none⟩ = some (.int .u8 h)) (hh : h < 128) : Calls Try.prog 60 #[.slice (some ⟨g, o, none⟩) n c] w fun e w' => e = .returned (fstV (h :: t)) ∧ Below w.heap.size w w' := by
  have HV := Lib.hid (fstV_some (bs := h :: t) (n := h) (k := 1) (by rw [firstN, if_pos hh]))
  go_enter Try.func60, Try.ntmps60
  go_wp2
  go_ret3
  rw [HV.out]
  exact ⟨rfl, Below.refl _ _⟩

set_option maxRecDepth 100000 in
set_option maxHeartbeats 1000000 in
theorem first_badP (g o c : Nat) (w : World) (z : Nat) (t : List Nat) (n : Nat) (hn : n = 1 + t.length) (hnm : n ≤ 9223372036854775807) (hc : w.cell? ⟨g, o, none⟩ = some (.int .u8 ((128 + z : Nat) : Int))) (hz15 : z < 16) (hz : 8 < z ∨ t.length < z) :
    Calls Try.prog 60 #[.slice (some ⟨g, o, none⟩) n c] w fun e w' => e = .returned (fstV ((128 + z) :: t)) ∧ Below w.heap.size w w' := by
  have hs : sizeH (128 + z) = z := by unfold sizeH; split <;> omega
  have HV := Lib.hid (fstV_none (bs := (128 + z) :: t) (by rw [firstN, if_neg (by omega), hs, if_pos hz]))
  clear hs
  have hz' : z ≤ 112 := by omega
  by_cases hz8 : 8 < z
  · clear hz
    go_enter Try.func60, Try.ntmps60
    go_wp2
    go_ret3
    rw [HV.out]
    exact ⟨rfl, Below.refl _ _⟩
  · have hz2 : n ≤ z := by omega
    clear hz
    go_enter Try.func60, Try.ntmps60
    go_wp2
    go_ret3
    rw [HV.out]
    exact ⟨rfl, Below.refl _ _⟩

set_option maxRecDepth 100000 in
set_option maxHeartbeats 1000000 in
theorem first_badN (g o c : Nat) (w : World) (z : Nat) (t : List Nat) (n : Nat) (hn : n = 1 + t.length) (hnm : n ≤ 9223372036854775807) (hc : w.cell? ⟨g, o, none⟩ = some (.int .u8 ((144 + z : Nat) : Int))) (hz15 : z < 112) (hz : 8 < z ∨ t.length < z) :
    Calls Try.prog 60 #[.slice (some ⟨g, o, none⟩) n c] w fun e w' => e = .returned (fstV ((144 + z) :: t)) ∧ Below w.heap.size w w' := by
  have hs : sizeH (144 + z) = z := by unfold sizeH; split <;> omega
  have HV := Lib.hid (fstV_none (bs := (144 + z) :: t) (by rw [firstN, if_neg (by omega), hs, if_pos hz]))
  clear hs
  have hz' : z ≤ 112 := by omega
  by_cases hz8 : 8 < z
  · clear hz
    go_enter Try.func60, Try.ntmps60
    go_wp2
    go_ret3
    rw [HV.out]
    exact ⟨rfl, Below.refl _ _⟩
  · have hz2 : n ≤ z := by omega
    clear hz
    go_enter Try.func60, Try.ntmps60
    go_wp2
    go_ret3
    rw [HV.out]
    exact ⟨rfl, Below.refl _ _⟩

set_option maxRecDepth 100000 in
set_option maxHeartbeats 1000000 in
theorem first_goodP (g o c : Nat) (w : World) (z : Nat) (t : List Nat) (n : Nat) (hn : n = 1 + t.length) (hnc : n ≤ c) (hnm : c ≤ 9223372036854775807) (hr : Rd w 1 (some ⟨g, o, none⟩) n (((128 + z) :: t).map u8v)) (hb : ∀ b ∈ (128 + z) :: t, b < 256) (hc1 : 1 < c) (hz8 : z ≤ 8) (hz : z ≤ t.length) :
    Calls Try.prog 60 #[.slice (some ⟨g, o, none⟩) n c] w fun e w' => e = .returned (fstV ((128 + z) :: t)) ∧ Below w.heap.size w w' := by
  have hs : sizeH (128 + z) = z := by unfold sizeH; split <;> omega
  have hcell : ∀ (j : Nat) (hj : j < t.length), w.cell? ⟨g, o + 1 + j, none⟩ = some (.int .u8 (t[j] : Int)) := by
    obtain ⟨g', o', ha, _, hcc⟩ := hr.2 (by omega)
    cases ha
    intro j hj
    have := hcc (1 + j) (u8v t[j]) (by simp [Nat.add_comm 1 j, hj])
    rw [← Nat.add_assoc] at this
    exact this
  have hc : w.cell? ⟨g, o, none⟩ = some (.int .u8 ((128 + z : Nat) : Int)) := by
    obtain ⟨g', o', ha, _, hcc⟩ := hr.2 (by omega)
    cases ha
    exact hcc 0 (u8v (128 + z)) (by simp)
  have HCell := Lib.hid hcell
  have HR := Lib.hid hr
  have HB := Lib.hid hb
  have HS := Lib.hid hs
  clear hr hb hs hcell
  go_enter Try.func60, Try.ntmps60
  go_wp2_with fail
  have ez : (128 + (z : Int) - 128) = z := by omega
  simp only [ez]
  clear ez
  go_loopw [8, 10, 41] (fun u _ i wr => FstRel t z u i ∧ wr = w) (fun _ _ i _ => (z - (intOf i).toNat))
  case atStart => exact ⟨⟨0, Nat.zero_le _, rfl, rfl⟩, rfl⟩
  case round =>
    obtain ⟨⟨k, hk, rfl, rfl⟩, rfl⟩ := hrel
    by_cases hlt : k < z
    · have hk1 := HCell.out k (by omega)
      have hu : val (t.take k) < 72057594037927936 := by
        have h1 := val_lt (t.take k) (fun b hb => HB.out b (List.mem_cons_of_mem _ (List.mem_of_mem_take hb)))
        have h2 : (t.take k).length ≤ 7 := by rw [List.length_take]; omega
        have h3 : 256 ^ (t.take k).length ≤ 256 ^ 7 := Nat.pow_le_pow_right (by omega) h2
        have h4 : (256 : Nat) ^ 7 = 72057594037927936 := by rfl
        omega
      have hlk : k < t.length := by omega
      have htk : t[k] < 256 := HB.out _ (List.mem_cons_of_mem _ (List.getElem_mem hlk))
      have hval : val (t.take (k + 1)) = val (t.take k) * 256 + t[k] := by rw [List.take_succ_eq_append_getElem hlk, val_snoc]
      have HVal := Lib.hid hval
      obtain ⟨x, hx⟩ : ∃ x, val (t.take k) = x := ⟨_, rfl⟩
      obtain ⟨b, hbk⟩ : ∃ b, t[k] = b := ⟨_, rfl⟩
      rw [hx] at hu HVal
      rw [hbk] at htk hk1 HVal
      have hor := or_byte x b hu htk
      simp only [hx]
      clear hx hbk hval
      go_wp2_with fail
      go_roundw
      case rel =>
        refine ⟨⟨k + 1, hlt, by go_num, ?_⟩, trivial⟩
        rw [HVal.out, ← hor]
        simp
      case measure => simp [intOf]; omega
    · obtain rfl : k = z := by omega
      have hx64 : val (t.take k) < 18446744073709551616 := by
        have h1 := val_lt (t.take k) (fun b hb => HB.out b (List.mem_cons_of_mem _ (List.mem_of_mem_take hb)))
        have h2 : (t.take k).length ≤ 8 := by rw [List.length_take]; omega
        have h3 : 256 ^ (t.take k).length ≤ 256 ^ 8 := Nat.pow_le_pow_right (by omega) h2
        have h4 : (256 : Nat) ^ 8 = 18446744073709551616 := by rfl
        omega
      obtain ⟨x, hx⟩ : ∃ x, val (t.take k) = x := ⟨_, rfl⟩
      rw [hx] at hx64
      have hxor := xor_zero x hx64
      obtain ⟨N, hNd⟩ : ∃ N, wrap64 (bits .xor .u64 (x : Int) 0) = N := ⟨_, rfl⟩
      have hN : I64 N ∧ (x < 9223372036854775808 → N = numH (128 + k) x) ∧ (9223372036854775808 ≤ x → ((128 + k) = 128 + k → N < 0) ∧ ((128 + k) = 144 + k → 0 ≤ N)) := by
        rw [hxor] at hNd
        unfold I64 numH
        unfold wrap64 at hNd
        split <;> omega
      have hcmp := first_cmp (128 + k) k x t N hz8 (by omega) hz hx.symm hx64 hN.2
      have hr1 : Rd wr 1 (some ⟨g, o, none⟩) (1 + k) ((((128 + k) :: t).take (1 + k)).map u8v) := by
        have := HR.out.take (k := 1 + k) (by omega)
        simpa [List.map_take] using this
      have hbt : ∀ b ∈ ((128 + k) :: t).take (1 + k), b < 256 := fun b hb => HB.out b (List.mem_of_mem_take hb)
      have hs0 := run_str wr.drew (some ⟨g, o, none⟩) (1 + k) c _ hr1 hbt
      have HI := Lib.hid hN.1
      have HCmp := Lib.hid hcmp
      have hr1d : Rd wr.drew 1 (some ⟨g, o, none⟩) (1 + k) ((((128 + k) :: t).take (1 + k)).map u8v) := hr1
      have HR1 := Lib.hid hr1d
      have HBT := Lib.hid hbt
      have s1 : IntKind.i64.wrap (1 + (k : Int)) = 1 + k := IntWalk.i64_in _ (by omega)
      have s2 : (1 + (k : Int)).toNat = 1 + k := by omega
      clear hxor hN hcmp hr1 hr1d hbt
      go_wp2_with fail
      simp only [hx, hNd]
      go_region_with (go_at_call 53; refine (num_any N _ HI.out).mono ?_; rintro e w5 ⟨v, rfl, ⟨A5, c5, rfl, hl5, hm5, hr5⟩, hb5⟩; have hs5 := run_str w5 A5 _ c5 (numB N) hr5 (numB_lt N); have hs6 := run_str w5 (some ⟨g, o, none⟩) (1 + k) c _ (HR1.out.below hb5) HBT.out; clear hl5 hm5 hr5)
      all_goals rw [strOf_beq (numB_lt N) HBT.out]
      all_goals
        by_cases hEq : numB N = ((128 + k) :: t).take (1 + k)
        · have hd : decide (numB N = ((128 + k) :: t).take (1 + k)) = true := by simpa using hEq
          rw [hd]
          have HVal := Lib.hid (fstV_some (HCmp.out.trans (if_pos hEq)))
          have HB5 := Lib.hid ((Below.refl wr.heap.size wr).drew.trans hb5)
          clear hd hEq hs0 hs5 hs6 hb5 hNd
          go_wp2
          go_ret3
          rw [HVal.out]
          exact ⟨by simp, HB5.out⟩
        · have hd : decide (numB N = ((128 + k) :: t).take (1 + k)) = false := by simpa using hEq
          rw [hd]
          have HVal := Lib.hid (fstV_none (HCmp.out.trans (if_neg hEq)))
          have HB5 := Lib.hid ((Below.refl wr.heap.size wr).drew.trans hb5)
          clear hd hEq hs0 hs5 hs6 hb5 hNd
          go_wp2
          go_ret3
          rw [HVal.out]
          exact ⟨rfl, HB5.out⟩

set_option maxRecDepth 100000 in
set_option maxHeartbeats 1000000 in
theorem first_goodN (g o c : Nat) (w : World) (z : Nat) (t : List Nat) (n : Nat) (hn : n = 1 + t.length) (hnc : n ≤ c) (hnm : c ≤ 9223372036854775807) (hr : Rd w 1 (some ⟨g, o, none⟩) n (((144 + z) :: t).map u8v)) (hb : ∀ b ∈ (144 + z) :: t, b < 256) (hc1 : 1 < c) (hz8 : z ≤ 8) (hz : z ≤ t.length) :
    Calls Try.prog 60 #[.slice (some ⟨g, o, none⟩) n c] w fun e w' => e = .returned (fstV ((144 + z) :: t)) ∧ Below w.heap.size w w' := by
  have hs : sizeH (144 + z) = z := by unfold sizeH; split <;> omega
  have hcell : ∀ (j : Nat) (hj : j < t.length), w.cell? ⟨g, o + 1 + j, none⟩ = some (.int .u8 (t[j] : Int)) := by
    obtain ⟨g', o', ha, _, hcc⟩ := hr.2 (by omega)
    cases ha
    intro j hj
    have := hcc (1 + j) (u8v t[j]) (by simp [Nat.add_comm 1 j, hj])
    rw [← Nat.add_assoc] at this
    exact this
  have hc : w.cell? ⟨g, o, none⟩ = some (.int .u8 ((144 + z : Nat) : Int)) := by
    obtain ⟨g', o', ha, _, hcc⟩ := hr.2 (by omega)
    cases ha
    exact hcc 0 (u8v (144 + z)) (by simp)
  have HCell := Lib.hid hcell
  have HR := Lib.hid hr
  have HB := Lib.hid hb
  have HS := Lib.hid hs
  clear hr hb hs hcell
  go_enter Try.func60, Try.ntmps60
  go_wp2_with fail
  have ez : (144 + (z : Int) - 144) = z := by omega
  simp only [ez]
  clear ez
  go_loopw [8, 10, 41] (fun u _ i wr => FstRel t z u i ∧ wr = w) (fun _ _ i _ => (z - (intOf i).toNat))
  case atStart => exact ⟨⟨0, Nat.zero_le _, rfl, rfl⟩, rfl⟩
  case round =>
    obtain ⟨⟨k, hk, rfl, rfl⟩, rfl⟩ := hrel
    by_cases hlt : k < z
    · have hk1 := HCell.out k (by omega)
      have hu : val (t.take k) < 72057594037927936 := by
        have h1 := val_lt (t.take k) (fun b hb => HB.out b (List.mem_cons_of_mem _ (List.mem_of_mem_take hb)))
        have h2 : (t.take k).length ≤ 7 := by rw [List.length_take]; omega
        have h3 : 256 ^ (t.take k).length ≤ 256 ^ 7 := Nat.pow_le_pow_right (by omega) h2
        have h4 : (256 : Nat) ^ 7 = 72057594037927936 := by rfl
        omega
      have hlk : k < t.length := by omega
      have htk : t[k] < 256 := HB.out _ (List.mem_cons_of_mem _ (List.getElem_mem hlk))
      have hval : val (t.take (k + 1)) = val (t.take k) * 256 + t[k] := by rw [List.take_succ_eq_append_getElem hlk, val_snoc]
      have HVal := Lib.hid hval
      obtain ⟨x, hx⟩ : ∃ x, val (t.take k) = x := ⟨_, rfl⟩
      obtain ⟨b, hbk⟩ : ∃ b, t[k] = b := ⟨_, rfl⟩
      rw [hx] at hu HVal
      rw [hbk] at htk hk1 HVal
      have hor := or_byte x b hu htk
      simp only [hx]
      clear hx hbk hval
      go_wp2_with fail
      go_roundw
      case rel =>
        refine ⟨⟨k + 1, hlt, by go_num, ?_⟩, trivial⟩
        rw [HVal.out, ← hor]
        simp
      case measure => simp [intOf]; omega
    · obtain rfl : k = z := by omega
      have hx64 : val (t.take k) < 18446744073709551616 := by
        have h1 := val_lt (t.take k) (fun b hb => HB.out b (List.mem_cons_of_mem _ (List.mem_of_mem_take hb)))
        have h2 : (t.take k).length ≤ 8 := by rw [List.length_take]; omega
        have h3 : 256 ^ (t.take k).length ≤ 256 ^ 8 := Nat.pow_le_pow_right (by omega) h2
        have h4 : (256 : Nat) ^ 8 = 18446744073709551616 := by rfl
        omega
      obtain ⟨x, hx⟩ : ∃ x, val (t.take k) = x := ⟨_, rfl⟩
      rw [hx] at hx64
      have hxor := xor_ones x hx64
      obtain ⟨N, hNd⟩ : ∃ N, wrap64 (bits .xor .u64 (x : Int) 18446744073709551615) = N := ⟨_, rfl⟩
      have hN : I64 N ∧ (x < 9223372036854775808 → N = numH (144 + k) x) ∧ (9223372036854775808 ≤ x → ((144 + k) = 128 + k → N < 0) ∧ ((144 + k) = 144 + k → 0 ≤ N)) := by
        rw [hxor] at hNd
        unfold I64 numH
        unfold wrap64 at hNd
        split <;> omega
      have hcmp := first_cmp (144 + k) k x t N hz8 (by omega) hz hx.symm hx64 hN.2
      have hr1 : Rd wr 1 (some ⟨g, o, none⟩) (1 + k) ((((144 + k) :: t).take (1 + k)).map u8v) := by
        have := HR.out.take (k := 1 + k) (by omega)
        simpa [List.map_take] using this
      have hbt : ∀ b ∈ ((144 + k) :: t).take (1 + k), b < 256 := fun b hb => HB.out b (List.mem_of_mem_take hb)
      have hs0 := run_str wr.drew (some ⟨g, o, none⟩) (1 + k) c _ hr1 hbt
      have HI := Lib.hid hN.1
      have HCmp := Lib.hid hcmp
      have hr1d : Rd wr.drew 1 (some ⟨g, o, none⟩) (1 + k) ((((144 + k) :: t).take (1 + k)).map u8v) := hr1
      have HR1 := Lib.hid hr1d
      have HBT := Lib.hid hbt
      have s1 : IntKind.i64.wrap (1 + (k : Int)) = 1 + k := IntWalk.i64_in _ (by omega)
      have s2 : (1 + (k : Int)).toNat = 1 + k := by omega
      clear hxor hN hcmp hr1 hr1d hbt
      go_wp2_with fail
      simp only [hx, hNd]
      go_region_with (go_at_call 53; refine (num_any N _ HI.out).mono ?_; rintro e w5 ⟨v, rfl, ⟨A5, c5, rfl, hl5, hm5, hr5⟩, hb5⟩; have hs5 := run_str w5 A5 _ c5 (numB N) hr5 (numB_lt N); have hs6 := run_str w5 (some ⟨g, o, none⟩) (1 + k) c _ (HR1.out.below hb5) HBT.out; clear hl5 hm5 hr5)
      all_goals rw [strOf_beq (numB_lt N) HBT.out]
      all_goals
        by_cases hEq : numB N = ((144 + k) :: t).take (1 + k)
        · have hd : decide (numB N = ((144 + k) :: t).take (1 + k)) = true := by simpa using hEq
          rw [hd]
          have HVal := Lib.hid (fstV_some (HCmp.out.trans (if_pos hEq)))
          have HB5 := Lib.hid ((Below.refl wr.heap.size wr).drew.trans hb5)
          clear hd hEq hs0 hs5 hs6 hb5 hNd
          go_wp2
          go_ret3
          rw [HVal.out]
          exact ⟨by simp, HB5.out⟩
        · have hd : decide (numB N = ((144 + k) :: t).take (1 + k)) = false := by simpa using hEq
          rw [hd]
          have HVal := Lib.hid (fstV_none (HCmp.out.trans (if_neg hEq)))
          have HB5 := Lib.hid ((Below.refl wr.heap.size wr).drew.trans hb5)
          clear hd hEq hs0 hs5 hs6 hb5 hNd
          go_wp2
          go_ret3
          rw [HVal.out]
          exact ⟨rfl, HB5.out⟩

end Go.Proofs.Ytjgdcdojigcefaa
