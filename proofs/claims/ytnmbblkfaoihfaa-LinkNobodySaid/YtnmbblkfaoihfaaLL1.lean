/- The law LinkNobody: a nil end. The walk. -/
import Derived.Test.YtnmbblkfaoihfaaLLives
namespace Go.Proofs.Ytnmbblkfaoihfaa
open Go.RowKit

theorem same_zero (w : World) : Calls Try.prog 23 #[.agg #[.int .i64 0, .int .i64 0, .slice none 0 0], .agg #[.int .i64 0, .int .i64 0, .slice none 0 0]] w fun e w' => e = .returned (.bool true) ∧ Below w.heap.size w w' :=
  same_eq ⟨0, 0, []⟩ none none 0 0 w (byo_nil w).bs (byo_nil w).bs (by simp)

set_option maxRecDepth 100000 in
set_option maxHeartbeats 1000000 in
theorem nobody_any (kind now seq ack : Int) (A : Option Addr) (n c : Nat) (w : World) :
    Calls Try.prog 7 #[.agg #[.int .i64 kind, .int .i64 now, .int .i64 seq, .int .i64 ack, .slice A n c]] w fun e w' => e = .returned (.bool true) ∧ Below w.heap.size w w' := by
  go_enter Try.func7, Try.ntmps7
  go_wp2_with fail
  have hA := (Below.refl _ w).alloc (Nat.le_refl _) (.cells #[.int .i64 kind, .int .i64 now, .int .i64 seq, .int .i64 ack, .slice A n c] 57)
  have b1 := block_new w (.cells #[.int .i64 kind, .int .i64 now, .int .i64 seq, .int .i64 ack, .slice A n c] 57)
  obtain ⟨w1, hw1⟩ : ∃ w1, w.alloc (.cells #[.int .i64 kind, .int .i64 now, .int .i64 seq, .int .i64 ack, .slice A n c] 57) = w1 := ⟨_, rfl⟩
  rw [hw1] at hA b1 ⊢
  refine (lsend_nil A n c now w1).mono ?_
  rintro e w2 ⟨rfl, hb2⟩
  have hb2' := hA.trans (hb2.mono hA.size)
  have b2 := (hb2.block _ (lt_of_block b1)).trans b1
  have hB := hb2'.alloc hb2'.size (.cells #[.int .i64 0, .int .i64 0, .slice none 0 0] 43)
  have b3 := block_alloc b2 (.cells #[.int .i64 0, .int .i64 0, .slice none 0 0] 43)
  have n3 := block_new w2 (.cells #[.int .i64 0, .int .i64 0, .slice none 0 0] 43)
  have m2 := cell_at b3 2
  have m3 := cell_at b3 3
  have m4 := cell_at b3 4
  have HB := Lib.hid hB
  have B3 := Lib.hid b3
  have N3 := Lib.hid n3
  clear hA b1 hw1 hb2 hb2' b2 hB b3 n3
  go_wp2_with fail
  refine (lon_nil ⟨seq, ack, []⟩ A n c _).mono ?_
  rintro e w4 ⟨rfl, hb4⟩
  have hb4' := HB.out.trans (hb4.mono HB.out.size)
  have hC := hb4'.alloc hb4'.size (.cells #[.int .i64 0, .int .i64 0, .slice none 0 0] 43)
  have n4 := block_alloc ((hb4.block _ (lt_of_block N3.out)).trans N3.out) (.cells #[.int .i64 0, .int .i64 0, .slice none 0 0] 43)
  have b4 := block_alloc ((hb4.block _ (lt_of_block B3.out)).trans B3.out) (.cells #[.int .i64 0, .int .i64 0, .slice none 0 0] 43)
  have k4 := block_new w4 (.cells #[.int .i64 0, .int .i64 0, .slice none 0 0] 43)
  obtain ⟨w5, hw5⟩ : ∃ w5, w4.alloc (.cells #[.int .i64 0, .int .i64 0, .slice none 0 0] 43) = w5 := ⟨_, rfl⟩
  rw [hw5] at hC n4 b4 k4
  have HC := Lib.hid hC
  have N5 := Lib.hid n4
  have B5 := Lib.hid b4
  have K5 := Lib.hid k4
  have HW5 := Lib.hid hw5
  clear hb4 hb4' hC n4 b4 k4 hw5 HB B3 N3 m2 m3 m4
  go_wp2_with fail
  rw [HW5.out]
  refine (lives_any w5).mono ?_
  rintro e w6 ⟨rfl, hb6⟩
  have n6 := (hb6.block _ (lt_of_block N5.out)).trans N5.out
  have b6 := (hb6.block _ (lt_of_block B5.out)).trans B5.out
  have k6 := (hb6.block _ (lt_of_block K5.out)).trans K5.out
  have hb6' := HC.out.trans (hb6.mono HC.out.size)
  have x0 := cell_at n6 0
  have x1 := cell_at n6 1
  have x2 := cell_at n6 2
  have N6 := Lib.hid n6
  have B6 := Lib.hid b6
  have K6 := Lib.hid k6
  have HB6 := Lib.hid hb6'
  clear n6 b6 k6 hb6 hb6' HW5 N5 B5 K5 HC
  go_wp2_with fail
  refine (same_zero w6).mono ?_
  rintro e w7 ⟨rfl, hb7⟩
  have n7 := (hb7.block _ (lt_of_block N6.out)).trans N6.out
  have b7 := (hb7.block _ (lt_of_block B6.out)).trans B6.out
  have k7 := (hb7.block _ (lt_of_block K6.out)).trans K6.out
  have hb7' := HB6.out.trans (hb7.mono HB6.out.size)
  have x0 := cell_at n7 0
  have x1 := cell_at n7 1
  have x2 := cell_at n7 2
  have y0 := cell_at k7 0
  have y1 := cell_at k7 1
  have y2 := cell_at k7 2
  have z1 := cell_at b7 1
  have HB7 := Lib.hid hb7'
  clear n7 b7 k7 hb7 hb7' N6 B6 K6 HB6
  go_wp2_with fail
  refine (ltick_nil now w7).mono ?_
  rintro e w8 ⟨rfl, rfl⟩
  go_wp2_with fail
  refine (same_zero w7).mono ?_
  rintro e w8 ⟨rfl, hb8⟩
  have HB8 := Lib.hid (HB7.out.trans (hb8.mono HB7.out.size))
  clear hb8 x0 x1 x2 y0 y1 y2 z1
  go_wp2_with fail
  refine (lopen_nil w8).mono ?_
  rintro e w9 ⟨rfl, rfl⟩
  go_wp2_with fail
  refine (lmark_nil w8).mono ?_
  rintro e w9 ⟨rfl, rfl⟩
  go_wp2_with fail
  refine (lsent_nil w8).mono ?_
  rintro e w9 ⟨rfl, rfl⟩
  go_wp2
  go_ret
  exact ⟨rfl, HB8.out⟩
end Go.Proofs.Ytnmbblkfaoihfaa
