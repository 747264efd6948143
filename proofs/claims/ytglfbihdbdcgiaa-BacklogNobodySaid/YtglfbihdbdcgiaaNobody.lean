/- The law BacklogNobody: for every call the law returns true. -/
import Derived.Test.YtglfbihdbdcgiaaIter
import Derived.Test.YtglfbihdbdcgiaaDrop
import Derived.Test.YtglfbihdbdcgiaaRow
namespace Go.Proofs.Ytglfbihdbdcgiaa
open Go.RowKit Go.Shelf
attribute [local go_sem] Oper.semAt_some

set_option maxHeartbeats 400000 in
theorem out_nil (w : World) : Calls Try.prog 27 #[.pointer none] w fun e w' => e = .returned (.int .i64 0) ∧ w = w' := by
  go_enter Try.func27, Try.ntmps27
  go_wp2
  go_ret
  exact ⟨rfl, rfl⟩

set_option maxRecDepth 100000 in
set_option maxHeartbeats 4000000 in
theorem nobody_any (K N : Int) (w : World) :
    Calls Try.prog 7 #[.agg #[.int .i64 K, .int .i64 N]] w fun e w' => e = .returned (.bool true) ∧ Below w.heap.size w w' := by
  have hfn : ∀ (fn : Fn) (a b : Array Value) (w : World), (binOp .eql 46 (.func fn a b) .nilFunc).run Try.prog w = .ok (.bool false) w := fun _ _ _ _ => by rfl
  refine (callsIn_wide (n := 9)).1 ?_
  refine callsIn_of_wp_marks Try.func7 rfl trivial ?_ rfl
  simp only [Try.ntmps7, List.size_toArray, List.length_cons, List.length_nil, Nat.reduceAdd, Nat.reduceSub, Array.replicate_succ, Array.replicate_zero, List.push_toArray, List.append_toArray, List.nil_append, List.cons_append]
  gi_wp2_with fail
  refine ⟨trivial, (callsIn_wide.2 (all_any none _)).mono ?_⟩
  rintro e w1 ⟨rfl, hw1⟩
  obtain ⟨W, hW⟩ : ∃ W, (w.alloc (.cells #[.int .i64 K, .int .i64 N] 28)).alloc (.cells #[.bool false] 4) = W := ⟨_, rfl⟩
  have hWs : W.heap.size = w.heap.size + 1 + 1 := by rw [← hW]; simp
  have hr0 : W.heap[w.heap.size + 1]? = some (.cells #[.bool false] 4 (0, 0)) := by
    rw [← hW]
    have := block_new (w.alloc (.cells #[.int .i64 K, .int .i64 N] 28)) (.cells #[.bool false] 4)
    simpa using this
  have ho0 : W.heap[w.heap.size]? = some (.cells #[.int .i64 K, .int .i64 N] 28 (0, 0)) := by
    rw [← hW]
    exact block_alloc (block_new _ _) _
  have hB0 : Below w.heap.size w W := by rw [← hW]; exact ((Below.refl _ _).alloc (Nat.le_refl _) _).alloc (by simp) _
  rw [hW] at hw1 ⊢
  have hr1 := block_alloc hr0 (.cells #[.pointer none] 23)
  have ho1 := block_alloc ho0 (.cells #[.pointer none] 23)
  have hb1 := block_new W (.cells #[.pointer none] 23)
  have hB1 := hB0.alloc hB0.size (.cells #[.pointer none] 23)
  rw [hw1] at hr1 ho1 hb1 hB1
  clear hr0 ho0 hB0 hw1 hW
  gi_wp2_with fail
  refine ⟨trivial, (callsIn_wide.2 (lives_any _)).mono ?_⟩
  rintro e w2 ⟨rfl, b2⟩
  have f2 : Fr w.heap.size [] [] w1 w2 := Fr.of_below b2
  have hr2 := f2.keep hr1 (by simp) (by simp)
  have ho2 := f2.keep ho1 (by simp) (by simp)
  have hb2 := f2.keep hb1 (by simp) (by simp)
  have hB2 := hB1.trans (b2.mono hB1.size)
  clear hr1 ho1 hb1 hB1 b2 f2
  gi_wp2_with fail
  refine wpIn_rangeFunc_ownF rfl (by omega) (gf := 36) (lb := #[.pointer (some ⟨w.heap.size + 1 + 1, 0, none⟩)]) rfl trivial (enters_of Try.func36 (by kernel_rfl) rfl)
    (iter_nil _ w.heap.size (w.heap.size + 1 + 1) w2 (by rw [← hWs, cell_at hb2]; rfl)) belowK_t (belowK_b (by exact hB2.size)) (Below.refl _ _) (fun _ => rfl)
    (fun _ W' => ((W'.cell? ⟨w.heap.size + 1, 0, none⟩ = some (.bool false) ∧ W'.frozen? ⟨w.heap.size + 1, 0, none⟩ = false) ∧ W'.cell? ⟨w.heap.size, 1, none⟩ = some (.int .i64 N)) ∧ Below w.heap.size w W')
    (fun _ _ _ => False)
    (OwnFrom.and (Own.from (fun s A B row hs hg hr => ⟨⟨cell_kept hs.1.1 hg hr, (frozen_kept hs.1.1 hg hr).trans hs.1.2⟩, cell_kept hs.2 hg hr⟩) _) (ownFrom_below (Nat.le_refl _) (by exact hB2.size)))
    (fun _ _ _ _ _ hs _ _ => hs)
    ⟨⟨⟨by rw [cell_at hr2]; rfl, frozen_at hr2 0⟩, by rw [cell_at ho2]; rfl⟩, hB2⟩ (fun x => { tmps := #[.agg #[.int .i64 K, .int .i64 N], .pointer (some ⟨w.heap.size, 0, none⟩), .pointer (some ⟨w.heap.size + 1, 0, none⟩), .pointer none, .func (.func 36) #[] #[.pointer (some ⟨w.heap.size + 1 + 1, 0, none⟩)], undef, undef, .pointer none, .func (.func 36) #[] #[.pointer (some ⟨w.heap.size + 1 + 1, 0, none⟩)], .bool true, .bool false, .bool false, .func (.func 36) #[] #[.pointer (some ⟨w.heap.size + 1 + 1, 0, none⟩)], .bool false, .bool false, .func (.func 36) #[] #[.pointer (some ⟨w.heap.size + 1 + 1, 0, none⟩)], .int .i64 x.1, .bool x.2, undef, undef, undef, undef, undef, undef, undef, undef, undef, undef, undef, undef, undef, undef, undef, undef, undef, undef, undef, undef, undef, undef, undef, undef, undef, undef, undef, undef, undef, undef, undef, undef, undef, undef, undef, undef, undef, undef, undef, undef, undef, undef, undef, undef, undef, undef, undef, undef, undef, undef, undef], defers := [] }) ?assign ?body ?done ?stop
  case assign =>
    intro l x W K hK
    gi_wp2
    exact hK
  case body =>
    rintro l pre x W _ hlt
    exact absurd hlt (Nat.not_lt_zero _)
  case stop =>
    rintro D c pre W _ _ h _
    exact h.elim
  case done =>
    rintro D ys W3 hD rfl ⟨⟨⟨hc, hf⟩, ho⟩, hB⟩ hK
    gi_wp2_with fail
    refine ⟨trivial, (callsIn_wide.2 (news_nil _)).mono ?_⟩
    rintro e w4 ⟨rfl, rfl⟩
    gi_wp2_with fail
    refine ⟨trivial, (callsIn_wide.2 (try_nil _)).mono ?_⟩
    rintro e w4 ⟨rfl, rfl⟩
    gi_wp2_with fail
    refine ⟨trivial, (callsIn_wide.2 (push_nil N _)).mono ?_⟩
    rintro e w4 ⟨rfl, rfl⟩
    gi_wp2_with fail
    refine ⟨trivial, (callsIn_wide.2 (drop_nil N _)).mono ?_⟩
    rintro e w4 ⟨rfl, b4⟩
    have hc4 := (b4.cell (p := ⟨w.heap.size + 1, 0, none⟩) (World.block_lt_of_cell? _ _ hc)).trans hc
    have hf4 := (b4.frozen (p := ⟨w.heap.size + 1, 0, none⟩) (World.block_lt_of_cell? _ _ hc)).trans hf
    have ho4 := (b4.cell (p := ⟨w.heap.size, 1, none⟩) (World.block_lt_of_cell? _ _ ho)).trans ho
    have hK4 := (b4.block D (lt_of_block hK)).trans hK
    have hB4 := hB.trans (b4.mono hB.size)
    clear hc hf ho hK hB b4
    gi_wp2_with fail
    refine ⟨trivial, (callsIn_wide.2 (back_nil N _)).mono ?_⟩
    rintro e w5 ⟨rfl, rfl⟩
    gi_wp2_with fail
    refine ⟨trivial, (callsIn_wide.2 (out_nil _)).mono ?_⟩
    rintro e w5 ⟨rfl, rfl⟩
    gi_wp2_with fail
    refine ⟨trivial, (callsIn_wide.2 (place_nil N _)).mono ?_⟩
    rintro e w5 ⟨rfl, b5⟩
    have hc5 := (b5.cell (p := ⟨w.heap.size + 1, 0, none⟩) (World.block_lt_of_cell? _ _ hc4)).trans hc4
    have hf5 := (b5.frozen (p := ⟨w.heap.size + 1, 0, none⟩) (World.block_lt_of_cell? _ _ hc4)).trans hf4
    have ho5 := (b5.cell (p := ⟨w.heap.size, 1, none⟩) (World.block_lt_of_cell? _ _ ho4)).trans ho4
    have hK5 := (b5.block D (lt_of_block hK4)).trans hK4
    have hB5 := hB4.trans (b5.mono hB4.size)
    clear hc4 hf4 ho4 hK4 hB4 b5
    gi_wp2_with fail
    refine ⟨trivial, (callsIn_wide.2 (len_nil _)).mono ?_⟩
    rintro e w6 ⟨rfl, rfl⟩
    gi_wp2
    have hK' := (KeepsOthers.setCell w5 ⟨w.heap.size + 1, 0, none⟩ (.bool true)).same D _ hK5 rfl
    refine ⟨by simp, .inl ⟨_, _, rfl, run_takeDeferred hK', ?_⟩⟩
    have hc6 := cell_kept (World.cell?_setCell_same' w5 ⟨w.heap.size + 1, 0, none⟩ (.bool true) (by rw [hc5]; rfl)) (grownBy_putObj' _ D (.deferred none)) (fun r e => by cases e; exact ⟨_, hK', rfl⟩)
    refine ⟨.bool true, ?_, rfl, (hB5.setCell (p := ⟨w.heap.size + 1, 0, none⟩) (by simp) _).trans (belowK_b (w := w) (Nat.le_refl _) _ D _ _ (by have := hB2.size; omega) hK' rfl rfl)⟩
    simp [results, Try.f7, go_sem, hc6]

end Go.Proofs.Ytglfbihdbdcgiaa
