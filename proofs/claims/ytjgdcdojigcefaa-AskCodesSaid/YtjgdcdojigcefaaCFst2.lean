/- The contract of cells.First, whole: the number with whose cell any bytes begin. -/
import Derived.Test.YtjgdcdojigcefaaCFirst
namespace Go.Proofs.Ytjgdcdojigcefaa
open Go.RowKit

set_option maxRecDepth 100000 in
set_option maxHeartbeats 1000000 in
theorem first_oneP (g o : Nat) (w : World) (hr : Rd w 1 (some ⟨g, o, none⟩) 1 ([128].map u8v)) :
    Calls Try.prog 60 #[.slice (some ⟨g, o, none⟩) 1 1] w fun e w' => e = .returned (.tuple #[.int .i64 0, .int .i64 0, .int .i64 10]) ∧ Below w.heap.size w w' := by
  have hc : w.cell? ⟨g, o, none⟩ = some (.int .u8 128) := by
    obtain ⟨g', o', ha, _, hcc⟩ := hr.2 (by omega)
    cases ha
    exact hcc 0 (u8v 128) (by simp)
  have HR := Lib.hid hr
  clear hr
  go_enter Try.func60, Try.ntmps60
  go_wp2_with fail
  go_loopw [8, 10, 41] (fun u _ i wr => u = .int .u64 0 ∧ i = .int .i64 0 ∧ wr = w) (fun _ _ _ _ => 0)
  case atStart => exact ⟨rfl, rfl, rfl⟩
  case round =>
    obtain ⟨rfl, rfl, rfl⟩ := hrel
    have hxor : wrap64 (bits .xor .u64 0 0) = 0 := by decide +kernel
    have hr1d : Rd wr.drew 1 (some ⟨g, o, none⟩) 1 ([128].map u8v) := HR.out
    have hs0 := run_str wr.drew (some ⟨g, o, none⟩) 1 1 _ hr1d (by simp)
    have HR1 := Lib.hid hr1d
    clear hr1d
    go_wp2_with fail
    simp only [hxor]
    go_region_with (go_at_call 53; refine (num_any 0 _ (by unfold I64; omega)).mono ?_; rintro e w5 ⟨v, rfl, ⟨A5, c5, rfl, hl5, hm5, hr5⟩, hb5⟩; have hs5 := run_str w5 A5 _ c5 (numB 0) hr5 (numB_lt 0); have hs6 := run_str w5 (some ⟨g, o, none⟩) 1 1 _ (HR1.out.below hb5) (by simp); clear hl5 hm5 hr5)
    all_goals rw [strOf_beq (numB_lt 0) (by simp)]
    all_goals
      have hd : decide (numB 0 = [128]) = false := by decide +kernel
      rw [hd]
      have HB5 := Lib.hid ((Below.refl wr.heap.size wr).drew.trans hb5)
      clear hd hs0 hs5 hs6 hb5 hxor
      go_wp2
      go_ret3
      exact ⟨rfl, HB5.out⟩

set_option maxRecDepth 100000 in
set_option maxHeartbeats 1000000 in
theorem first_oneN (g o : Nat) (w : World) (hr : Rd w 1 (some ⟨g, o, none⟩) 1 ([144].map u8v)) :
    Calls Try.prog 60 #[.slice (some ⟨g, o, none⟩) 1 1] w fun e w' => e = .returned (.tuple #[.int .i64 (-1), .int .i64 1, .int .i64 0]) ∧ Below w.heap.size w w' := by
  have hc : w.cell? ⟨g, o, none⟩ = some (.int .u8 144) := by
    obtain ⟨g', o', ha, _, hcc⟩ := hr.2 (by omega)
    cases ha
    exact hcc 0 (u8v 144) (by simp)
  have HR := Lib.hid hr
  clear hr
  go_enter Try.func60, Try.ntmps60
  go_wp2_with fail
  go_loopw [8, 10, 41] (fun u _ i wr => u = .int .u64 0 ∧ i = .int .i64 0 ∧ wr = w) (fun _ _ _ _ => 0)
  case atStart => exact ⟨rfl, rfl, rfl⟩
  case round =>
    obtain ⟨rfl, rfl, rfl⟩ := hrel
    have hxor : wrap64 (bits .xor .u64 0 18446744073709551615) = (-1) := by decide +kernel
    have hr1d : Rd wr.drew 1 (some ⟨g, o, none⟩) 1 ([144].map u8v) := HR.out
    have hs0 := run_str wr.drew (some ⟨g, o, none⟩) 1 1 _ hr1d (by simp)
    have HR1 := Lib.hid hr1d
    clear hr1d
    go_wp2_with fail
    simp only [hxor]
    go_region_with (go_at_call 53; refine (num_any (-1) _ (by unfold I64; omega)).mono ?_; rintro e w5 ⟨v, rfl, ⟨A5, c5, rfl, hl5, hm5, hr5⟩, hb5⟩; have hs5 := run_str w5 A5 _ c5 (numB (-1)) hr5 (numB_lt (-1)); have hs6 := run_str w5 (some ⟨g, o, none⟩) 1 1 _ (HR1.out.below hb5) (by simp); clear hl5 hm5 hr5)
    all_goals rw [strOf_beq (numB_lt (-1)) (by simp)]
    all_goals
      have hd : decide (numB (-1) = [144]) = true := by decide +kernel
      rw [hd]
      have HB5 := Lib.hid ((Below.refl wr.heap.size wr).drew.trans hb5)
      clear hd hs0 hs5 hs6 hb5 hxor
      go_wp2
      go_ret3
      exact ⟨rfl, HB5.out⟩

/-- The contract of cells.First. -/
theorem first_any (A : Option Addr) (c : Nat) (bs : List Nat) (w : World) (hr : Rd w 1 A bs.length (bs.map u8v)) (hb : ∀ b ∈ bs, b < 256) (hnc : bs.length ≤ c) (hcm : c ≤ maxLen) :
    Calls Try.prog 60 #[.slice A bs.length c] w fun e w' => e = .returned (fstV bs) ∧ Below w.heap.size w w' := by
  have hcm' : c ≤ 9223372036854775807 := by unfold maxLen at hcm; omega
  cases bs with
  | nil => exact first_nil A c w
  | cons h t =>
    obtain ⟨g, o, rfl, _, hcc⟩ := hr.2 (by simp)
    have hc : w.cell? ⟨g, o, none⟩ = some (.int .u8 h) := hcc 0 (u8v h) (by simp)
    have hh : h < 256 := hb h (by simp)
    have hlen : (h :: t).length = 1 + t.length := by simp; omega
    have hone : c = 1 → t = [] := fun e => by
      subst e
      rw [hlen] at hnc
      exact List.eq_nil_of_length_eq_zero (by omega)
    by_cases c0 : h < 128
    · exact first_small g o c w h t _ (by simp) hc c0
    · by_cases c1 : h < 144
      · obtain ⟨z, rfl⟩ : ∃ z, h = 128 + z := ⟨h - 128, by omega⟩
        by_cases c2 : 8 < z ∨ t.length < z
        · exact first_badP g o c w z t _ hlen (by omega) hc (by omega) c2
        · by_cases c3 : 1 < c
          · exact first_goodP g o c w z t _ hlen hnc hcm' hr hb c3 (by omega) (by omega)
          · have hc1 : c = 1 := by omega
            subst hc1
            obtain rfl := hone rfl
            obtain rfl : z = 0 := by simp at c2; omega
            have hv : fstV [128 + 0] = .tuple #[.int .i64 0, .int .i64 0, .int .i64 10] := by
              have : firstN [128 + 0] = none := by decide +kernel
              exact fstV_none this
            rw [hv]
            exact first_oneP g o w hr
      · obtain ⟨z, rfl⟩ : ∃ z, h = 144 + z := ⟨h - 144, by omega⟩
        by_cases c2 : 8 < z ∨ t.length < z
        · exact first_badN g o c w z t _ hlen (by omega) hc (by omega) c2
        · by_cases c3 : 1 < c
          · exact first_goodN g o c w z t _ hlen hnc hcm' hr hb c3 (by omega) (by omega)
          · have hc1 : c = 1 := by omega
            subst hc1
            obtain rfl := hone rfl
            obtain rfl : z = 0 := by simp at c2; omega
            have hv : fstV [144 + 0] = .tuple #[.int .i64 (-1), .int .i64 1, .int .i64 0] := by
              have : firstN [144 + 0] = some (-1, 1) := by decide +kernel
              exact fstV_some this
            rw [hv]
            exact first_oneN g o w hr

end Go.Proofs.Ytjgdcdojigcefaa
