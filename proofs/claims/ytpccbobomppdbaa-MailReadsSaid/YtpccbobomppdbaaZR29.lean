/- Joined: The contract of the reference's First: the number with whose cell bytes begin. The contract of the reference's First: the heads of numbers below 0. The contract of the reference's First, whole: the number with whose cell any bytes begin. The contracts of the reference's Taker. -/
import Derived.Test.YtpccbobomppdbaaZR15
import Derived.Test.YtpccbobomppdbaaZR16
namespace Go.Proofs.Ytpccbobomppdbaa
open Go.RowKit

/-- What the reference's First tells. -/
def rfstV (bs : List Nat) : Value := match firstN bs with | some (n, k) => .tuple #[.int .i64 n, .int .i64 k] | none => .tuple #[.int .i64 0, .int .i64 0]
theorem rfstV_some {bs : List Nat} {n : Int} {k : Nat} (h : firstN bs = some (n, k)) : rfstV bs = .tuple #[.int .i64 n, .int .i64 k] := by unfold rfstV; rw [h]
theorem rfstV_none {bs : List Nat} (h : firstN bs = none) : rfstV bs = .tuple #[.int .i64 0, .int .i64 0] := by unfold rfstV; rw [h]

set_option maxRecDepth 100000 in
set_option maxHeartbeats 400000 in
theorem rfirst_nil (A : Option Addr) (c : Nat) (w : World) : Calls Try.prog 76 #[.slice A 0 c] w fun e w' => e = .returned (rfstV []) ∧ Below w.heap.size w w' := by
  have HV := Lib.hid (rfstV_none (bs := []) rfl)
  go_enter Try.func76, Try.ntmps76
  go_wp2
  go_ret2
  rw [HV.out]
  exact ⟨rfl, Below.refl _ _⟩

set_option maxRecDepth 100000 in
set_option maxHeartbeats 400000 in
theorem rfirst_small (g o c : Nat) (w : World) (h : Nat) (t : List Nat) (n : Nat) (hn : 0 < n) (hc : w.cell? ⟨g, o, none⟩ = some (.int .u8 h)) (hh : h < 128) : Calls Try.prog 76 #[.slice (some ⟨g, o, none⟩) n c] w fun e w' => e = .returned (rfstV (h :: t)) ∧ Below w.heap.size w w' := by
  have HV := Lib.hid (rfstV_some (bs := h :: t) (n := h) (k := 1) (by rw [firstN, if_pos hh]))
  go_enter Try.func76, Try.ntmps76
  go_wp2
  go_ret2
  rw [HV.out]
  exact ⟨rfl, Below.refl _ _⟩

set_option maxRecDepth 100000 in
set_option maxHeartbeats 400000 in
theorem rfirst_odd (g o c : Nat) (w : World) (h : Nat) (t : List Nat) (n : Nat) (hn : 0 < n) (hc : w.cell? ⟨g, o, none⟩ = some (.int .u8 h)) (hh : h = 128 ∨ (137 ≤ h ∧ h < 144) ∨ (153 ≤ h ∧ h < 256)) (hf : firstN (h :: t) = none) :
    Calls Try.prog 76 #[.slice (some ⟨g, o, none⟩) n c] w fun e w' => e = .returned (rfstV (h :: t)) ∧ Below w.heap.size w w' := by
  have HV := Lib.hid (rfstV_none hf)
  clear hf
  rcases hh with rfl | ⟨h1, h2⟩ | ⟨h1, h2⟩
  all_goals
    go_enter Try.func76, Try.ntmps76
    go_wp2
    go_ret2
    rw [HV.out]
    exact ⟨rfl, Below.refl _ _⟩

set_option maxRecDepth 100000 in
set_option maxHeartbeats 1000000 in
theorem rfirst_shortP (g o c : Nat) (w : World) (z : Nat) (t : List Nat) (n : Nat) (hn : n = 1 + t.length) (hnm : n ≤ 9223372036854775807) (hc : w.cell? ⟨g, o, none⟩ = some (.int .u8 ((128 + z : Nat) : Int))) (hz0 : 1 ≤ z) (hz8 : z ≤ 8) (hz : t.length < z) :
    Calls Try.prog 76 #[.slice (some ⟨g, o, none⟩) n c] w fun e w' => e = .returned (rfstV ((128 + z) :: t)) ∧ Below w.heap.size w w' := by
  have hs : sizeH (128 + z) = z := by unfold sizeH; split <;> omega
  have HV := Lib.hid (rfstV_none (bs := (128 + z) :: t) (by rw [firstN, if_neg (by omega), hs, if_pos (.inr hz)]))
  clear hs
  go_enter Try.func76, Try.ntmps76
  go_wp2
  go_ret2
  rw [HV.out]
  exact ⟨rfl, Below.refl _ _⟩

set_option maxRecDepth 100000 in
set_option maxHeartbeats 8000000 in
theorem rfirst_goodP (g o c : Nat) (w : World) (z : Nat) (t : List Nat) (n : Nat) (hn : n = 1 + t.length) (hnc : n ≤ c) (hnm : c ≤ 9223372036854775807) (hr : Rd w 1 (some ⟨g, o, none⟩) n (((128 + z) :: t).map u8v)) (hb : ∀ b ∈ (128 + z) :: t, b < 256) (hz0 : 1 ≤ z) (hz8 : z ≤ 8) (hz : z ≤ t.length) :
    Calls Try.prog 76 #[.slice (some ⟨g, o, none⟩) n c] w fun e w' => e = .returned (rfstV ((128 + z) :: t)) ∧ Below w.heap.size w w' := by
  have hcell : ∀ (j : Nat) (hj : j < t.length), w.cell? ⟨g, o + (1 + j), none⟩ = some (.int .u8 (t[j] : Int)) := by
    obtain ⟨g', o', ha, _, hcc⟩ := hr.2 (by omega)
    cases ha
    intro j hj
    exact hcc (1 + j) (u8v t[j]) (by simp [Nat.add_comm 1 j, hj])
  have hc : w.cell? ⟨g, o, none⟩ = some (.int .u8 ((128 + z : Nat) : Int)) := by
    obtain ⟨g', o', ha, _, hcc⟩ := hr.2 (by omega)
    cases ha
    exact hcc 0 (u8v (128 + z)) (by simp)
  have HCell := Lib.hid hcell
  have HR := Lib.hid hr
  have HB := Lib.hid hb
  clear hr hb hcell
  go_enter Try.func76, Try.ntmps76
  go_wp2_with fail
  have ez : (128 + (z : Int) - 128) = z := by omega
  simp only [ez]
  clear ez
  go_loopw [6, 7] (fun u i wr => FstRel t z u i ∧ wr = w) (fun _ i _ => (z - (intOf i).toNat))
  case atStart => exact ⟨⟨0, Nat.zero_le _, rfl, rfl⟩, rfl⟩
  case round =>
    obtain ⟨⟨k, hk, rfl, rfl⟩, rfl⟩ := hrel
    by_cases hlt : k < z
    · have hk1 := HCell.out k (by omega)
      have hu : val (t.take k) < 72057594037927936 := by
        have h1 := val_lt (t.take k) (fun b hb => HB.out b (List.mem_cons_of_mem _ (List.mem_of_mem_take hb)))
        have h2 : (t.take k).length ≤ 7 := by rw [List.length_take]; omega
        have h3 : 256 ^ (t.take k).length ≤ 256 ^ 7 := Nat.pow_le_pow_right (by omega) h2
        have h4 : (256 : Nat) ^ 7 = 72057594037927936 := by rfl
        omega
      have hlk : k < t.length := by omega
      have htk : t[k] < 256 := HB.out _ (List.mem_cons_of_mem _ (List.getElem_mem hlk))
      have hval : val (t.take (k + 1)) = val (t.take k) * 256 + t[k] := by rw [List.take_succ_eq_append_getElem hlk, val_snoc]
      have HVal := Lib.hid hval
      obtain ⟨x, hx⟩ : ∃ x, val (t.take k) = x := ⟨_, rfl⟩
      obtain ⟨b, hbk⟩ : ∃ b, t[k] = b := ⟨_, rfl⟩
      rw [hx] at hu HVal
      rw [hbk] at htk hk1 HVal
      simp only [hx]
      clear hx hbk hval
      go_wp2_with fail
      go_roundw
      case rel =>
        refine ⟨⟨k + 1, hlt, by go_num, ?_⟩, trivial⟩
        rw [HVal.out]
        simp
      case measure => simp [intOf]; omega
    · obtain rfl : k = z := by omega
      have hx64 : val (t.take k) < 18446744073709551616 := by
        have h1 := val_lt (t.take k) (fun b hb => HB.out b (List.mem_cons_of_mem _ (List.mem_of_mem_take hb)))
        have h2 : (t.take k).length ≤ 8 := by rw [List.length_take]; omega
        have h3 : 256 ^ (t.take k).length ≤ 256 ^ 8 := Nat.pow_le_pow_right (by omega) h2
        have h4 : (256 : Nat) ^ 8 = 18446744073709551616 := by rfl
        omega
      obtain ⟨x, hx⟩ : ∃ x, val (t.take k) = x := ⟨_, rfl⟩
      rw [hx] at hx64
      have hs : sizeH (128 + k) = k := by unfold sizeH; split <;> omega
      by_cases hx63 : x < 9223372036854775808
      · have hN : numH (128 + k) x = (x : Int) := by unfold numH; split <;> omega
        have hcmp := first_cmp (128 + k) k x t ((x : Int)) hz8 (by omega) hz hx.symm hx64 ⟨fun _ => hN.symm, fun h => by omega⟩
        have hr1 : Rd wr 1 (some ⟨g, o, none⟩) (1 + k) ((((128 + k) :: t).take (1 + k)).map u8v) := by
          have := HR.out.take (k := 1 + k) (by omega)
          simpa [List.map_take] using this
        have hbt : ∀ b ∈ ((128 + k) :: t).take (1 + k), b < 256 := fun b hb => HB.out b (List.mem_of_mem_take hb)
        have HCmp := Lib.hid hcmp
        have HR1 := Lib.hid hr1
        have HBT := Lib.hid hbt
        have d1 : decide ((9223372036854775808 : Int) ≤ (x : Int)) = false := by
          rw [decide_eq_false_iff_not]
          omega
        have d2 : wrap64 (x : Int) = x := by unfold wrap64; omega
        have HX := Lib.hid hx63
        clear hcmp hr1 hbt hs hN hx63 hx64
        try simp only [hx]
        clear hx
        go_wp2_with fail
        have hI : I64 ((x : Int)) := by have := HX.out; unfold I64; omega
        obtain ⟨N, hNd⟩ : ∃ N, (x : Int) = N := ⟨_, rfl⟩
        rw [hNd] at hI HCmp
        simp only [hNd]
        have d3 : wrap64 N = N := by unfold I64 at hI; unfold wrap64; omega
        have D3 := Lib.hid d3
        clear hNd d1 d2 d3
        refine (rnum_any N wr hI).mono ?_
        rintro e w5 ⟨v, rfl, ⟨A5, c5, rfl, hl5, hm5, hr5⟩, hb5⟩
        have hr5d : Rd w5.drew 1 A5 (numB N).length ((numB N).map u8v) := hr5
        have hs5 := run_str w5.drew A5 _ c5 (numB N) hr5d (numB_lt _)
        have hs6 := run_str w5.drew (some ⟨g, o, none⟩) (1 + k) c _ ((HR1.out.below hb5).below (Below.refl _ _).drew) HBT.out
        have s1 : IntKind.i64.wrap (1 + (k : Int)) = 1 + k := IntWalk.i64_in _ (by omega)
        have s2 : (1 + (k : Int)).toNat = 1 + k := by omega
        have HB5 := Lib.hid hb5
        clear hl5 hm5 hr5 hr5d hb5
        go_wp2_with fail
        go_region
        all_goals rw [strOf_beq (numB_lt _) HBT.out]
        all_goals
          by_cases hEq : numB N = ((128 + k) :: t).take (1 + k)
          · have hd : decide (numB N = ((128 + k) :: t).take (1 + k)) = true := by simpa using hEq
            rw [hd]
            have HVal := Lib.hid (rfstV_some (HCmp.out.trans (if_pos hEq)))
            clear hd hEq hs5 hs6
            go_wp2
            go_ret2
            rw [HVal.out]
            exact ⟨by simp [D3.out], HB5.out.trans (((Below.refl _ _).drew).mono HB5.out.size)⟩
          · have hd : decide (numB N = ((128 + k) :: t).take (1 + k)) = false := by simpa using hEq
            rw [hd]
            have HVal := Lib.hid (rfstV_none (HCmp.out.trans (if_neg hEq)))
            clear hd hEq hs5 hs6
            go_wp2
            go_ret2
            rw [HVal.out]
            exact ⟨rfl, HB5.out.trans (((Below.refl _ _).drew).mono HB5.out.size)⟩
      · have HVal := Lib.hid (rfstV_none (bs := (128 + k) :: t) (by rw [firstN, if_neg (by omega), hs, if_neg (by omega), hx, if_neg (fun h => hx63 h.1)]))
        have d1 : decide ((9223372036854775808 : Int) ≤ (x : Int)) = true := by
          rw [decide_eq_true_iff]
          omega
        try simp only [hx]
        clear hs hx hx63 hx64
        go_wp2
        go_ret2
        rw [HVal.out]
        exact ⟨rfl, Below.refl _ _⟩

end Go.Proofs.Ytpccbobomppdbaa

namespace Go.Proofs.Ytpccbobomppdbaa
open Go.RowKit

set_option maxRecDepth 100000 in
set_option maxHeartbeats 1000000 in
theorem rfirst_shortN (g o c : Nat) (w : World) (z : Nat) (t : List Nat) (n : Nat) (hn : n = 1 + t.length) (hnm : n ≤ 9223372036854775807) (hc : w.cell? ⟨g, o, none⟩ = some (.int .u8 ((144 + z : Nat) : Int)))  (hz8 : z ≤ 8) (hz : t.length < z) :
    Calls Try.prog 76 #[.slice (some ⟨g, o, none⟩) n c] w fun e w' => e = .returned (rfstV ((144 + z) :: t)) ∧ Below w.heap.size w w' := by
  have hs : sizeH (144 + z) = z := by unfold sizeH; split <;> omega
  have HV := Lib.hid (rfstV_none (bs := (144 + z) :: t) (by rw [firstN, if_neg (by omega), hs, if_pos (.inr hz)]))
  clear hs
  go_enter Try.func76, Try.ntmps76
  go_wp2
  go_ret2
  rw [HV.out]
  exact ⟨rfl, Below.refl _ _⟩

set_option maxRecDepth 100000 in
set_option maxHeartbeats 8000000 in
theorem rfirst_goodN (g o c : Nat) (w : World) (z : Nat) (t : List Nat) (n : Nat) (hn : n = 1 + t.length) (hnc : n ≤ c) (hnm : c ≤ 9223372036854775807) (hr : Rd w 1 (some ⟨g, o, none⟩) n (((144 + z) :: t).map u8v)) (hb : ∀ b ∈ (144 + z) :: t, b < 256)  (hz8 : z ≤ 8) (hz : z ≤ t.length) :
    Calls Try.prog 76 #[.slice (some ⟨g, o, none⟩) n c] w fun e w' => e = .returned (rfstV ((144 + z) :: t)) ∧ Below w.heap.size w w' := by
  have hcell : ∀ (j : Nat) (hj : j < t.length), w.cell? ⟨g, o + (1 + j), none⟩ = some (.int .u8 (t[j] : Int)) := by
    obtain ⟨g', o', ha, _, hcc⟩ := hr.2 (by omega)
    cases ha
    intro j hj
    exact hcc (1 + j) (u8v t[j]) (by simp [Nat.add_comm 1 j, hj])
  have hc : w.cell? ⟨g, o, none⟩ = some (.int .u8 ((144 + z : Nat) : Int)) := by
    obtain ⟨g', o', ha, _, hcc⟩ := hr.2 (by omega)
    cases ha
    exact hcc 0 (u8v (144 + z)) (by simp)
  have HCell := Lib.hid hcell
  have HR := Lib.hid hr
  have HB := Lib.hid hb
  clear hr hb hcell
  go_enter Try.func76, Try.ntmps76
  go_wp2_with fail
  have ez : (144 + (z : Int) - 144) = z := by omega
  simp only [ez]
  clear ez
  go_loopw [6, 7] (fun u i wr => FstRel t z u i ∧ wr = w) (fun _ i _ => (z - (intOf i).toNat))
  case atStart => exact ⟨⟨0, Nat.zero_le _, rfl, rfl⟩, rfl⟩
  case round =>
    obtain ⟨⟨k, hk, rfl, rfl⟩, rfl⟩ := hrel
    by_cases hlt : k < z
    · have hk1 := HCell.out k (by omega)
      have hu : val (t.take k) < 72057594037927936 := by
        have h1 := val_lt (t.take k) (fun b hb => HB.out b (List.mem_cons_of_mem _ (List.mem_of_mem_take hb)))
        have h2 : (t.take k).length ≤ 7 := by rw [List.length_take]; omega
        have h3 : 256 ^ (t.take k).length ≤ 256 ^ 7 := Nat.pow_le_pow_right (by omega) h2
        have h4 : (256 : Nat) ^ 7 = 72057594037927936 := by rfl
        omega
      have hlk : k < t.length := by omega
      have htk : t[k] < 256 := HB.out _ (List.mem_cons_of_mem _ (List.getElem_mem hlk))
      have hval : val (t.take (k + 1)) = val (t.take k) * 256 + t[k] := by rw [List.take_succ_eq_append_getElem hlk, val_snoc]
      have HVal := Lib.hid hval
      obtain ⟨x, hx⟩ : ∃ x, val (t.take k) = x := ⟨_, rfl⟩
      obtain ⟨b, hbk⟩ : ∃ b, t[k] = b := ⟨_, rfl⟩
      rw [hx] at hu HVal
      rw [hbk] at htk hk1 HVal
      simp only [hx]
      clear hx hbk hval
      go_wp2_with fail
      go_roundw
      case rel =>
        refine ⟨⟨k + 1, hlt, by go_num, ?_⟩, trivial⟩
        rw [HVal.out]
        simp
      case measure => simp [intOf]; omega
    · obtain rfl : k = z := by omega
      have hx64 : val (t.take k) < 18446744073709551616 := by
        have h1 := val_lt (t.take k) (fun b hb => HB.out b (List.mem_cons_of_mem _ (List.mem_of_mem_take hb)))
        have h2 : (t.take k).length ≤ 8 := by rw [List.length_take]; omega
        have h3 : 256 ^ (t.take k).length ≤ 256 ^ 8 := Nat.pow_le_pow_right (by omega) h2
        have h4 : (256 : Nat) ^ 8 = 18446744073709551616 := by rfl
        omega
      obtain ⟨x, hx⟩ : ∃ x, val (t.take k) = x := ⟨_, rfl⟩
      rw [hx] at hx64
      have hs : sizeH (144 + k) = k := by unfold sizeH; split <;> omega
      by_cases hx63 : x < 9223372036854775808
      · have hN : numH (144 + k) x = -1 - (x : Int) := by unfold numH; split <;> omega
        have hcmp := first_cmp (144 + k) k x t (-1 - (x : Int)) hz8 (by omega) hz hx.symm hx64 ⟨fun _ => hN.symm, fun h => by omega⟩
        have hr1 : Rd wr 1 (some ⟨g, o, none⟩) (1 + k) ((((144 + k) :: t).take (1 + k)).map u8v) := by
          have := HR.out.take (k := 1 + k) (by omega)
          simpa [List.map_take] using this
        have hbt : ∀ b ∈ ((144 + k) :: t).take (1 + k), b < 256 := fun b hb => HB.out b (List.mem_of_mem_take hb)
        have HCmp := Lib.hid hcmp
        have HR1 := Lib.hid hr1
        have HBT := Lib.hid hbt
        have d1 : decide ((9223372036854775808 : Int) ≤ (x : Int)) = false := by
          rw [decide_eq_false_iff_not]
          omega
        have d2 : wrap64 (x : Int) = x := by unfold wrap64; omega
        have HX := Lib.hid hx63
        clear hcmp hr1 hbt hs hN hx63 hx64
        try simp only [hx]
        clear hx
        go_wp2_with fail
        have hI : I64 (-1 - (x : Int)) := by have := HX.out; unfold I64; omega
        obtain ⟨N, hNd⟩ : ∃ N, -1 - (x : Int) = N := ⟨_, rfl⟩
        rw [hNd] at hI HCmp
        simp only [hNd]
        have d3 : wrap64 N = N := by unfold I64 at hI; unfold wrap64; omega
        simp only [d3]
        clear hNd d1 d2 d3
        refine (rnum_any N wr hI).mono ?_
        rintro e w5 ⟨v, rfl, ⟨A5, c5, rfl, hl5, hm5, hr5⟩, hb5⟩
        have hr5d : Rd w5.drew 1 A5 (numB N).length ((numB N).map u8v) := hr5
        have hs5 := run_str w5.drew A5 _ c5 (numB N) hr5d (numB_lt _)
        have hs6 := run_str w5.drew (some ⟨g, o, none⟩) (1 + k) c _ ((HR1.out.below hb5).below (Below.refl _ _).drew) HBT.out
        have s1 : IntKind.i64.wrap (1 + (k : Int)) = 1 + k := IntWalk.i64_in _ (by omega)
        have s2 : (1 + (k : Int)).toNat = 1 + k := by omega
        have HB5 := Lib.hid hb5
        clear hl5 hm5 hr5 hr5d hb5
        go_wp2_with fail
        go_region
        all_goals rw [strOf_beq (numB_lt _) HBT.out]
        all_goals
          by_cases hEq : numB N = ((144 + k) :: t).take (1 + k)
          · have hd : decide (numB N = ((144 + k) :: t).take (1 + k)) = true := by simpa using hEq
            rw [hd]
            have HVal := Lib.hid (rfstV_some (HCmp.out.trans (if_pos hEq)))
            clear hd hEq hs5 hs6
            go_wp2
            go_ret2
            rw [HVal.out]
            exact ⟨by simp, HB5.out.trans (((Below.refl _ _).drew).mono HB5.out.size)⟩
          · have hd : decide (numB N = ((144 + k) :: t).take (1 + k)) = false := by simpa using hEq
            rw [hd]
            have HVal := Lib.hid (rfstV_none (HCmp.out.trans (if_neg hEq)))
            clear hd hEq hs5 hs6
            go_wp2
            go_ret2
            rw [HVal.out]
            exact ⟨rfl, HB5.out.trans (((Below.refl _ _).drew).mono HB5.out.size)⟩
      · have HVal := Lib.hid (rfstV_none (bs := (144 + k) :: t) (by rw [firstN, if_neg (by omega), hs, if_neg (by omega), hx, if_neg (fun h => hx63 h.1)]))
        have d1 : decide ((9223372036854775808 : Int) ≤ (x : Int)) = true := by
          rw [decide_eq_true_iff]
          omega
        try simp only [hx]
        clear hs hx hx63 hx64
        go_wp2
        go_ret2
        rw [HVal.out]
        exact ⟨rfl, Below.refl _ _⟩

end Go.Proofs.Ytpccbobomppdbaa

namespace Go.Proofs.Ytpccbobomppdbaa
open Go.RowKit

theorem firstN_odd (h : Nat) (t : List Nat) (hh : h = 128 ∨ (137 ≤ h ∧ h < 144) ∨ (153 ≤ h ∧ h < 256)) : firstN (h :: t) = none := by
  rcases hh with rfl | ⟨h1, h2⟩ | ⟨h1, h2⟩
  · rw [firstN, if_neg (by omega), show sizeH 128 = 0 from rfl, if_neg (by omega), if_neg]
    intro h
    have := h.2
    simp [numH, val, numB] at this
  · rw [firstN, if_neg (by omega), if_pos (.inl (by unfold sizeH; rw [if_neg (by omega)]; omega))]
  · rw [firstN, if_neg (by omega), if_pos (.inl (by unfold sizeH; rw [if_pos (by omega)]; omega))]

/-- The contract of the reference's First. -/
theorem rfirst_any (A : Option Addr) (c : Nat) (bs : List Nat) (w : World) (hr : Rd w 1 A bs.length (bs.map u8v)) (hb : ∀ b ∈ bs, b < 256) (hnc : bs.length ≤ c) (hcm : c ≤ maxLen) :
    Calls Try.prog 76 #[.slice A bs.length c] w fun e w' => e = .returned (rfstV bs) ∧ Below w.heap.size w w' := by
  have hcm' : c ≤ 9223372036854775807 := by unfold maxLen at hcm; omega
  cases bs with
  | nil => exact rfirst_nil A c w
  | cons h t =>
    obtain ⟨g, o, rfl, _, hcc⟩ := hr.2 (by simp)
    have hc : w.cell? ⟨g, o, none⟩ = some (.int .u8 h) := hcc 0 (u8v h) (by simp)
    have hh : h < 256 := hb h (by simp)
    have hlen : (h :: t).length = 1 + t.length := by simp; omega
    by_cases c0 : h < 128
    · exact rfirst_small g o c w h t _ (by simp) hc c0
    · by_cases co : h = 128 ∨ (137 ≤ h ∧ h < 144) ∨ (153 ≤ h ∧ h < 256)
      · exact rfirst_odd g o c w h t _ (by simp) hc co (firstN_odd h t co)
      · by_cases c1 : h < 144
        · obtain ⟨z, rfl⟩ : ∃ z, h = 128 + z := ⟨h - 128, by omega⟩
          by_cases c2 : t.length < z
          · exact rfirst_shortP g o c w z t _ hlen (by omega) hc (by omega) (by omega) c2
          · exact rfirst_goodP g o c w z t _ hlen hnc hcm' hr hb (by omega) (by omega) (by omega)
        · obtain ⟨z, rfl⟩ : ∃ z, h = 144 + z := ⟨h - 144, by omega⟩
          by_cases c2 : t.length < z
          · exact rfirst_shortN g o c w z t _ hlen (by omega) hc (by omega) c2
          · exact rfirst_goodN g o c w z t _ hlen hnc hcm' hr hb (by omega) (by omega)

end Go.Proofs.Ytpccbobomppdbaa

namespace Go.Proofs.Ytpccbobomppdbaa
open Go.RowKit

set_option maxRecDepth 100000 in
set_option maxHeartbeats 400000 in
theorem rtnum_bad (p : Nat) (D : Option Nat) (bs : List Nat) (a b : Int) (w : World) (hT : IsT w 82 p D (bs, true)) :
    Calls Try.prog 48 #[.pointer (some ⟨p, 0, none⟩), .int .i64 a, .int .i64 b] w (RetT 82 p D (.int .i64 0) (bs, true) w) := by
  have HT := Lib.hid hT
  obtain ⟨A, c, h1, _⟩ := hT
  have c1 : w.cell? ⟨p, 1, none⟩ = some (.bool true) := cell_at h1 1
  clear h1
  go_enter Try.func48, Try.ntmps48
  go_wp2
  go_ret
  exact ⟨rfl, HT.out, Fr.refl _⟩

set_option maxRecDepth 100000 in
set_option maxHeartbeats 1000000 in
theorem rtnum_none (p : Nat) (D : Option Nat) (bs : List Nat) (a b : Int) (w : World) (hT : IsT w 82 p D (bs, false)) (hp : D ≠ some p) (hf : firstN bs = none) :
    Calls Try.prog 48 #[.pointer (some ⟨p, 0, none⟩), .int .i64 a, .int .i64 b] w (RetT 82 p D (.int .i64 0) (bs, true) w) := by
  have HT := Lib.hid hT
  have HV := Lib.hid (rfstV_none hf)
  have HD := Lib.hid hp
  obtain ⟨A, c, h1, h2, h3, h4, h5, h6, h7⟩ := hT
  simp only at h1 h2 h3 h4 h5 h6 h7
  have c0 : w.cell? ⟨p, 0, none⟩ = some (.slice A bs.length c) := cell_at h1 0
  have c1 : w.cell? ⟨p, 1, none⟩ = some (.bool false) := cell_at h1 1
  have H1 := Lib.hid h1
  have H4 := Lib.hid h4
  have H6 := Lib.hid h6
  have H3 := Lib.hid h3
  have H57 := Lib.hid (And.intro h5 h7)
  clear h1 h3 h4 h5 h6 h7 hf hp
  go_enter Try.func48, Try.ntmps48
  go_wp2_with fail
  refine (rfirst_any A c bs _ H4.out H6.out h2 H3.out).mono ?_
  rintro e w1 ⟨rfl, hb1⟩
  rw [HV.out]
  have hp1 := (Fr.of_below (B := 0) (T := []) (S := []) hb1).keep0 H1.out (by simp)
  have d1 : w1.cell? ⟨p, 1, none⟩ = some (.bool false) := cell_at hp1 1
  have d2 := frozen_at hp1 1
  have HF := Lib.hid (IsT.of_set1 hp1 h2 H3.out (H4.out.below hb1) H57.out.1 HD.out H6.out H57.out.2 true)
  have HB1 := Lib.hid hb1
  clear hb1 c0 c1 hp1
  go_wp2
  go_ret
  exact ⟨rfl, HF.out.1, (Fr.of_below HB1.out).trans HF.out.2⟩

set_option maxRecDepth 100000 in
set_option maxHeartbeats 1000000 in
theorem rtnum_out (p : Nat) (D : Option Nat) (bs : List Nat) (a b n : Int) (k : Nat) (w : World) (hT : IsT w 82 p D (bs, false)) (hp : D ≠ some p) (hf : firstN bs = some (n, k)) (ho : n < a ∨ b < n) :
    Calls Try.prog 48 #[.pointer (some ⟨p, 0, none⟩), .int .i64 a, .int .i64 b] w (RetT 82 p D (.int .i64 0) (bs, true) w) := by
  have HT := Lib.hid hT
  have HV := Lib.hid (rfstV_some hf)
  have HD := Lib.hid hp
  obtain ⟨A, c, h1, h2, h3, h4, h5, h6, h7⟩ := hT
  simp only at h1 h2 h3 h4 h5 h6 h7
  have hk3 : ((k : Int) == 0) = false := by have := (firstN_some h6 hf).2.2.1; rw [beq_eq_false_iff_ne]; omega
  have c0 : w.cell? ⟨p, 0, none⟩ = some (.slice A bs.length c) := cell_at h1 0
  have c1 : w.cell? ⟨p, 1, none⟩ = some (.bool false) := cell_at h1 1
  have H1 := Lib.hid h1
  have H4 := Lib.hid h4
  have H6 := Lib.hid h6
  have H3 := Lib.hid h3
  have H57 := Lib.hid (And.intro h5 h7)
  clear h1 h3 h4 h5 h6 h7 hf hp
  by_cases hlt : n < a
  all_goals
    go_enter Try.func48, Try.ntmps48
    go_wp2_with fail
    refine (rfirst_any A c bs _ H4.out H6.out h2 H3.out).mono ?_
    rintro e w1 ⟨rfl, hb1⟩
    rw [HV.out]
    have hp1 := (Fr.of_below (B := 0) (T := []) (S := []) hb1).keep0 H1.out (by simp)
    have d1 : w1.cell? ⟨p, 1, none⟩ = some (.bool false) := cell_at hp1 1
    have d2 := frozen_at hp1 1
    have HF := Lib.hid (IsT.of_set1 hp1 h2 H3.out (H4.out.below hb1) H57.out.1 HD.out H6.out H57.out.2 true)
    have HB1 := Lib.hid hb1
    clear hb1 c0 c1 hp1
    go_wp2
    go_ret
    exact ⟨rfl, HF.out.1, (Fr.of_below HB1.out).trans HF.out.2⟩

set_option maxRecDepth 100000 in
set_option maxHeartbeats 1000000 in
theorem rtnum_in (p : Nat) (D : Option Nat) (bs : List Nat) (a b n : Int) (k : Nat) (w : World) (hT : IsT w 82 p D (bs, false)) (hp : D ≠ some p) (hf : firstN bs = some (n, k)) (ha : a ≤ n) (hnb : n ≤ b) :
    Calls Try.prog 48 #[.pointer (some ⟨p, 0, none⟩), .int .i64 a, .int .i64 b] w (RetT 82 p D (.int .i64 n) (bs.drop k, false) w) := by
  have HV := Lib.hid (rfstV_some hf)
  have HD := Lib.hid hp
  obtain ⟨A, c, h1, h2, h3, h4, h5, h6, h7⟩ := hT
  simp only at h1 h2 h3 h4 h5 h6 h7
  obtain ⟨_, _, hk1, hk2⟩ := firstN_some h6 hf
  obtain ⟨g, o, rfl, hg, _⟩ := h4.2 (by omega)
  have hk3 : ((k : Int) == 0) = false := by rw [beq_eq_false_iff_ne]; omega
  have c0 : w.cell? ⟨p, 0, none⟩ = some (.slice (some ⟨g, o, none⟩) bs.length c) := cell_at h1 0
  have c1 : w.cell? ⟨p, 1, none⟩ = some (.bool false) := cell_at h1 1
  have hm : c ≤ 9223372036854775807 := by unfold maxLen at h3; omega
  have H1 := Lib.hid h1
  have H4 := Lib.hid h4
  have H5 := Lib.hid h5
  have H6 := Lib.hid h6
  have H3 := Lib.hid h3
  have hdl : (bs.drop k).length = bs.length - k := by simp
  have HDL := Lib.hid hdl
  have hmd : (bs.drop k).map u8v = (bs.map u8v).drop (k * 1) := by simp
  have HMD := Lib.hid hmd
  have HB6 := Lib.hid (fun x hx => h6 x (List.mem_of_mem_drop (i := k) hx))
  clear h1 h3 h4 h5 h6 h7 hf hp hg hdl hmd
  by_cases hkc : c = k
  · subst hkc
    have hfull : bs.length = c := by omega
    have HFU := Lib.hid hfull
    clear hfull
    go_enter Try.func48, Try.ntmps48
    go_wp2_with fail
    refine (rfirst_any (some ⟨g, o, none⟩) c bs _ H4.out H6.out h2 H3.out).mono ?_
    rintro e w1 ⟨rfl, hb1⟩
    rw [HV.out]
    have hp1 := (Fr.of_below (B := 0) (T := []) (S := []) hb1).keep0 H1.out (by simp)
    have c0 : w1.cell? ⟨p, 0, none⟩ = some (.slice (some ⟨g, o, none⟩) bs.length c) := cell_at hp1 0
    have c1 := frozen_at hp1 0
    have HP1 := Lib.hid hp1
    have HB1 := Lib.hid hb1
    clear hb1 hp1
    go_wp2_with fail
    go_ret
    have hn : (bs.drop c).length = 0 := by rw [HDL.out]; omega
    have := IsT.of_set0 (D := D) (bs := bs.drop c) (A := some ⟨g, o, none⟩) (c := 0) HP1.out (by omega) (Nat.zero_le _) (by rw [List.eq_nil_of_length_eq_zero hn]; exact Rd.nil) (by omega) HD.out HB6.out (.inr ⟨_, _, rfl⟩)
    rw [hn] at this
    have e : bs.length - c = 0 := by omega
    try rw [e]
    exact ⟨rfl, this.1, (Fr.of_below HB1.out).trans this.2⟩
  · have hck : k < c := by omega
    clear hkc
    go_enter Try.func48, Try.ntmps48
    go_wp2_with fail
    refine (rfirst_any (some ⟨g, o, none⟩) c bs _ H4.out H6.out h2 H3.out).mono ?_
    rintro e w1 ⟨rfl, hb1⟩
    rw [HV.out]
    have hp1 := (Fr.of_below (B := 0) (T := []) (S := []) hb1).keep0 H1.out (by simp)
    have c0 : w1.cell? ⟨p, 0, none⟩ = some (.slice (some ⟨g, o, none⟩) bs.length c) := cell_at hp1 0
    have c1 := frozen_at hp1 0
    have HP1 := Lib.hid hp1
    have HB1 := Lib.hid hb1
    clear hb1 hp1
    go_wp2_with fail
    go_ret
    have hr1 := H4.out.below (HB1.out.mono (Nat.le_refl _))
    have := IsT.of_set0 (D := D) (bs := bs.drop k) (A := some ⟨g, o + k, none⟩) (c := c - k) HP1.out (by rw [HDL.out]; omega) (by have := H3.out; omega) (by rw [HMD.out, HDL.out]; exact hr1.drop hk2 (fun _ => by simp)) (fun hn a ha => by
      cases ha
      exact H5.out (by omega) ⟨g, o, none⟩ rfl) HD.out HB6.out (.inr ⟨_, _, rfl⟩)
    rw [HDL.out] at this
    exact ⟨rfl, this.1, (Fr.of_below HB1.out).trans this.2⟩

theorem rtnum_any (p : Nat) (D : Option Nat) (s : List Nat × Bool) (a b : Int) (w : World) (hT : IsT w 82 p D s) (hp : D ≠ some p) :
    Calls Try.prog 48 #[.pointer (some ⟨p, 0, none⟩), .int .i64 a, .int .i64 b] w (RetT 82 p D (.int .i64 (numT s a b).1) (numT s a b).2 w) := by
  obtain ⟨bs, bad⟩ := s
  cases bad with
  | true => rw [numT_bad rfl]; exact rtnum_bad p D bs a b w hT
  | false =>
    cases hf : firstN bs with
    | none => rw [numT_none rfl hf]; exact rtnum_none p D bs a b w hT hp hf
    | some q =>
      obtain ⟨n, k⟩ := q
      by_cases ho : n < a ∨ b < n
      · rw [numT_out rfl hf ho]; exact rtnum_out p D bs a b n k w hT hp hf ho
      · rw [numT_in rfl hf (by omega) (by omega)]; exact rtnum_in p D bs a b n k w hT hp hf (by omega) (by omega)

end Go.Proofs.Ytpccbobomppdbaa
