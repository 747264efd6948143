/- The law CountNobody: a nil tally. The walk. -/
import Derived.Test.YtochhjdjfgiaeaaNLives
import Derived.Test.YtochhjdjfgiaeaaNTal2
import Derived.Test.YtochhjdjfgiaeaaNEq
namespace Go.Proofs.Ytochhjdjfgiaeaa
open Go.RowKit

set_option maxRecDepth 100000 in
set_option maxHeartbeats 2000000 in
theorem nobody_any (k i n : Int) (w : World) :
    Calls Try.prog 9 #[.agg #[.int .i64 k, .int .i64 i, .int .i64 n]] w fun e w' => e = .returned (.bool true) ∧ Below w.heap.size w w' := by
  obtain ⟨w0, hw0⟩ : ∃ w0, w.alloc (.cells #[.int .i64 k, .int .i64 i, .int .i64 n] 43) = w0 := ⟨_, rfl⟩
  have hb0 : Below w.heap.size w w0 := by rw [← hw0]; exact (Below.refl _ w).alloc (Nat.le_refl _) _
  have hq0 : w0.heap[w.heap.size]? = some (.cells #[.int .i64 k, .int .i64 i, .int .i64 n] 43 (0, 0)) := by rw [← hw0]; exact block_new w _
  have hz0 : w0.heap.size = w.heap.size + 1 := by rw [← hw0]; simp
  have HQ : Hid (∀ W, Below w0.heap.size w0 W → W.cell? ⟨w.heap.size, 1, none⟩ = some (.int .i64 i) ∧ W.cell? ⟨w.heap.size, 2, none⟩ = some (.int .i64 n)) := Lib.hid (fun W hW => by
    have e := (hW.block w.heap.size (by omega)).trans hq0
    exact ⟨cell_at e 1, cell_at e 2⟩)
  have HW0 := Lib.hid hw0
  have HB0 := Lib.hid hb0
  clear hw0 hb0 hq0 hz0
  go_enter Try.func9, Try.ntmps9
  go_wp2_with fail
  rw [HW0.out]
  refine (lives_any w0).mono ?_
  rintro e w1 ⟨rfl, h1⟩
  have H1 := Lib.hid h1
  obtain ⟨c1, c2⟩ := HQ.out w1 h1
  clear h1
  go_wp2_with fail
  refine (mark_nil i n w1).mono ?_
  rintro e w2 ⟨rfl, rfl⟩
  go_wp2_with fail
  refine (get_nil i w1).mono ?_
  rintro e w2 ⟨rfl, rfl⟩
  go_wp2_with fail
  refine (most_nil i n w1).mono ?_
  rintro e w2 ⟨rfl, h2⟩
  have h2' := H1.out.trans (h2.mono H1.out.size)
  have H2 := Lib.hid h2'
  clear c1 c2
  obtain ⟨c1, c2⟩ := HQ.out w2 h2'
  clear h2 h2'
  go_wp2_with fail
  refine (take_nil i n w2).mono ?_
  rintro e w3 ⟨rfl, h3⟩
  have H3 := Lib.hid (H2.out.trans (h3.mono H2.out.size))
  clear h3 c1 c2
  go_wp2_with fail
  refine (all_core (.pointer none) [0, 0, 0, 0, 0, 0, 0, 0] rfl w3 (fun k hk W _ => (get_nil _ W).mono fun e W' ⟨he, hw⟩ => ⟨by rw [he]; match k, hk with | 0, _ => rfl | 1, _ => rfl | 2, _ => rfl | 3, _ => rfl | 4, _ => rfl | 5, _ => rfl | 6, _ => rfl | 7, _ => rfl, hw⟩)).mono ?_
  rintro e w4 ⟨rfl, h4⟩
  have H4 := Lib.hid (H3.out.trans (h4.mono H3.out.size))
  clear h4
  simp only [List.map_cons, List.map_nil, i64v]
  have heq := fun W => eq8_same 0 0 0 0 0 0 0 0 W
  go_wp2_with fail
  refine (start_nil w4).mono ?_
  rintro e w5 ⟨rfl, h5⟩
  have H5 := Lib.hid (HB0.out.trans ((H4.out.trans (h5.mono H4.out.size)).mono HB0.out.size))
  clear h5
  go_wp2
  go_ret
  exact ⟨rfl, H5.out⟩
end Go.Proofs.Ytochhjdjfgiaeaa
