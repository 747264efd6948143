/- The law CellsNobody: nil makers and takers. The walk. -/
import Derived.Test.YtlljeghlfijdnaaCL1
namespace Go.Proofs.Ytlljeghlfijdnaa
open Go.RowKit

set_option maxRecDepth 100000 in
set_option maxHeartbeats 4000000 in
theorem nobody_any (K N L M : Int) (s : ByteArray) (w : World) (hN : I64 N) (hs : s.size ≤ 140737488351232) :
    Calls Try.prog 9 #[.agg #[.int .i64 K, .int .i64 N, .string s, .int .i64 L, .int .i64 M]] w fun e w' => e = .returned (.bool true) ∧ Below w.heap.size w w' := by
  have HI := Lib.hid hN
  clear hN
  go_enter Try.func9, Try.ntmps9
  go_wp2_with fail
  refine (mdone_nil _).mono ?_
  rintro e w1 ⟨rfl, hw1⟩
  have hp := block_new w (.cells #[.int .i64 K, .int .i64 N, .string s, .int .i64 L, .int .i64 M] 40)
  have hb1 := (Below.refl w.heap.size w).alloc (Nat.le_refl _) (.cells #[.int .i64 K, .int .i64 N, .string s, .int .i64 L, .int .i64 M] 40)
  rw [hw1] at hp hb1
  have HP := Lib.hid hp
  have HB1 := Lib.hid hb1
  clear hp hb1 hw1
  go_wp2_with fail
  refine (lives_any _).mono ?_
  rintro e w2 ⟨rfl, hb⟩
  replace HP := Lib.hid ((hb.block w.heap.size (lt_of_block HP.out)).trans HP.out)
  replace HB1 := Lib.hid (HB1.out.trans (hb.mono HB1.out.size))
  clear hb
  have q1 : w2.cell? ⟨w.heap.size, 1, none⟩ = some (.int .i64 N) := cell_at HP.out 1
  have q2 : w2.cell? ⟨w.heap.size, 2, none⟩ = some (.string s) := cell_at HP.out 2
  have q3 : w2.cell? ⟨w.heap.size, 3, none⟩ = some (.int .i64 L) := cell_at HP.out 3
  have q4 : w2.cell? ⟨w.heap.size, 4, none⟩ = some (.int .i64 M) := cell_at HP.out 4
  go_wp2_with fail
  refine (mnum_nil N _ HI.out).mono ?_
  rintro e w3 ⟨rfl, hb⟩
  replace HP := Lib.hid ((hb.block w.heap.size (lt_of_block HP.out)).trans HP.out)
  replace HB1 := Lib.hid (HB1.out.trans (hb.mono HB1.out.size))
  clear hb
  clear q1 q2 q3 q4
  have q1 : w3.cell? ⟨w.heap.size, 1, none⟩ = some (.int .i64 N) := cell_at HP.out 1
  have q2 : w3.cell? ⟨w.heap.size, 2, none⟩ = some (.string s) := cell_at HP.out 2
  have q3 : w3.cell? ⟨w.heap.size, 3, none⟩ = some (.int .i64 L) := cell_at HP.out 3
  have q4 : w3.cell? ⟨w.heap.size, 4, none⟩ = some (.int .i64 M) := cell_at HP.out 4
  go_wp2_with fail
  refine (mtext_nil s _ hs).mono ?_
  rintro e w4 ⟨rfl, hb⟩
  replace HP := Lib.hid ((hb.block w.heap.size (lt_of_block HP.out)).trans HP.out)
  replace HB1 := Lib.hid (HB1.out.trans (hb.mono HB1.out.size))
  clear hb
  clear q1 q2 q3 q4
  have q1 : w4.cell? ⟨w.heap.size, 1, none⟩ = some (.int .i64 N) := cell_at HP.out 1
  have q2 : w4.cell? ⟨w.heap.size, 2, none⟩ = some (.string s) := cell_at HP.out 2
  have q3 : w4.cell? ⟨w.heap.size, 3, none⟩ = some (.int .i64 L) := cell_at HP.out 3
  have q4 : w4.cell? ⟨w.heap.size, 4, none⟩ = some (.int .i64 M) := cell_at HP.out 4
  go_wp2_with fail
  refine (mflag_nil true _).mono ?_
  rintro e w5 ⟨rfl, hb⟩
  replace HP := Lib.hid ((hb.block w.heap.size (lt_of_block HP.out)).trans HP.out)
  replace HB1 := Lib.hid (HB1.out.trans (hb.mono HB1.out.size))
  clear hb
  clear q1 q2 q3 q4
  have q1 : w5.cell? ⟨w.heap.size, 1, none⟩ = some (.int .i64 N) := cell_at HP.out 1
  have q2 : w5.cell? ⟨w.heap.size, 2, none⟩ = some (.string s) := cell_at HP.out 2
  have q3 : w5.cell? ⟨w.heap.size, 3, none⟩ = some (.int .i64 L) := cell_at HP.out 3
  have q4 : w5.cell? ⟨w.heap.size, 4, none⟩ = some (.int .i64 M) := cell_at HP.out 4
  go_wp2_with fail
  refine (tnum_nil L M _).mono ?_
  rintro e w9 ⟨rfl, rfl⟩
  go_wp2_with fail
  refine (ttext_nil M _).mono ?_
  rintro e w9 ⟨rfl, rfl⟩
  rw [show strOf [] = (⟨#[]⟩ : ByteArray) from rfl]
  go_wp2_with fail
  refine (tflag_nil _).mono ?_
  rintro e w9 ⟨rfl, rfl⟩
  go_wp2_with fail
  refine (tleft_nil _).mono ?_
  rintro e w9 ⟨rfl, rfl⟩
  go_wp2_with fail
  refine (tdone_nil _).mono ?_
  rintro e w9 ⟨rfl, rfl⟩
  go_wp2
  go_ret
  exact ⟨rfl, HB1.out⟩
end Go.Proofs.Ytlljeghlfijdnaa
