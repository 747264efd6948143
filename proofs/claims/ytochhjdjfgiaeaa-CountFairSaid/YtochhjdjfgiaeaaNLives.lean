/- What must come of every program, of layer 5: lives returns true. -/
import Derived.Test.YtochhjdjfgiaeaaNStab
import Derived.Test.YtochhjdjfgiaeaaNTal
namespace Go.Proofs.Ytochhjdjfgiaeaa
open Go.RowKit

theorem fr_one {w w' : World} {B p : Nat} (f : Fr 0 [] [p] w w') (hp : B ≤ p) (hB : B ≤ w.heap.size) : Below B w w' :=
  ⟨f.os, f.tape, f.output, f.size, fun k hk => f.block k (by omega) (.inr ⟨by simp, fun hm => by simp at hm; omega⟩)⟩

set_option maxRecDepth 100000 in
set_option maxHeartbeats 2000000 in
theorem lives_any (w : World) : Calls Try.prog 12 #[] w fun e w' => e = .returned (.bool true) ∧ Below w.heap.size w w' := by
  have hb1 : Below w.heap.size w (w.alloc (.cells #[.int .i64 1, .int .i64 1, .int .i64 1] 3)) := (Below.refl _ w).alloc (Nat.le_refl _) _
  have hr : Rd (w.alloc (.cells #[.int .i64 1, .int .i64 1, .int .i64 1] 3)) 1 (some ⟨w.heap.size, 0, none⟩) 3 (([1, 1, 1] : List Nat).map fun x : Nat => i64v (x : Int)) := rd_fresh w 3 [.int .i64 1, .int .i64 1, .int .i64 1]
  have hs := share_small 10 3 1 [1, 1, 1] _ 3 _ (by omega) (by simp) rfl (by omega) (by simp) hr (by decide) (by simp) (by simp)
  have e1 : (bump (oL 10 3 [1, 1, 1] [1, 1, 1].length) ((insN 0 ([1, 1, 1].length - 1) (pL 10 3 [1, 1, 1] [1, 1, 1].length)).take 1)) = [4, 3, 3] := by decide
  rw [e1] at hs
  have HS := Lib.hid hs
  have HB1 := Lib.hid hb1
  have em : moveA 5 1 2 = 3 ∧ moveB 5 1 2 = 3 ∧ moveE 5 1 2 = 0 := by decide
  have el : lessR 1 2 = 0 ∧ lessE 1 2 = 51 := by decide
  have HM := Lib.hid em
  have HL := Lib.hid el
  clear hb1 hr hs e1 em el
  go_enter Try.func12, Try.ntmps12
  go_wp2_with fail
  refine HS.out.mono ?_
  rintro e w1 ⟨g, rfl, hg, hgw, h1⟩
  have HG := Lib.hid hg
  have H1 := Lib.hid (HB1.out.trans (h1.mono HB1.out.size))
  clear hg hgw h1 HS HB1
  go_wp2_with fail
  refine (move_any 5 1 2 w1).mono ?_
  rintro e w2 ⟨rfl, h2⟩
  rw [HM.out.1, HM.out.2.1, HM.out.2.2]
  have HG2 := Lib.hid ((h2.block g (lt_of_block HG.out)).trans HG.out)
  have H2 := Lib.hid (H1.out.trans (h2.mono H1.out.size))
  clear h2 HG
  go_wp2_with fail
  refine (less_any 1 2 w2).mono ?_
  rintro e w3 ⟨rfl, h3⟩
  rw [HL.out.1, HL.out.2]
  have HG3 := Lib.hid ((h3.block g (lt_of_block HG2.out)).trans HG2.out)
  have H3 := Lib.hid (H2.out.trans (h3.mono H2.out.size))
  clear h3 HG2
  go_wp2_with fail
  refine (tnew_any w3).mono ?_
  rintro e w4 ⟨rfl, hT, h4⟩
  have hg4 := (h4.block g (lt_of_block HG3.out)).trans HG3.out
  have H4 := Lib.hid (H3.out.trans (h4.mono H3.out.size))
  have HT := Lib.hid hT
  have HP : Hid (w.heap.size ≤ w3.heap.size) := Lib.hid H3.out.size
  obtain ⟨p, hp⟩ : ∃ p, w3.heap.size = p := ⟨_, rfl⟩
  rw [hp] at HT HP ⊢
  have c0 : w4.cell? ⟨g, 0, none⟩ = some (.int .i64 4) := cell_at hg4 0
  have c2 : w4.cell? ⟨g, 2, none⟩ = some (.int .i64 3) := cell_at hg4 2
  clear hT h4 hg4 hp
  go_wp2_with fail
  refine (mark_in p _ false 0 (by omega) 5 w4 HT.out).mono ?_
  rintro e w5 ⟨rfl, hw5⟩
  have hT5 := HT.out.set (i := 0) (by omega) (wrapI (0 + 5))
  have h5 : Below w.heap.size w w5 := by rw [hw5]; exact H4.out.trans ((Below.refl _ _).setCell (p := ⟨p, 0, none⟩) HP.out _)
  simp only [List.getElem_cons_zero] at hw5 ⊢
  rw [← hw5] at hT5
  have hv : wrapI (0 + 5) = 5 := by decide
  rw [hv]
  have HT5 := Lib.hid hT5
  have H5 := Lib.hid h5
  clear hw5 hT5 h5 hv c0 c2
  go_wp2_with fail
  refine (start_first p _ w5 HT5.out).mono ?_
  rintro e w6 ⟨rfl, hT6, hf6⟩
  have HT6 := Lib.hid hT6
  have H6 := Lib.hid (H5.out.trans (fr_one hf6 HP.out H5.out.size))
  clear hT6 hf6
  go_wp2_with fail
  refine (start_again p _ w6 HT6.out).mono ?_
  rintro e w7 ⟨rfl, h7⟩
  have H7 := Lib.hid (H6.out.trans (h7.mono H6.out.size))
  clear h7
  go_wp2
  go_ret
  exact ⟨rfl, H7.out⟩
end Go.Proofs.Ytochhjdjfgiaeaa
