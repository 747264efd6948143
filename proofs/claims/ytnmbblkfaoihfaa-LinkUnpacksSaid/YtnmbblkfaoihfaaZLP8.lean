/- Package link: New, Open, Mark, Sent, packet. -/
import Derived.Test.YtnmbblkfaoihfaaZLP7
namespace Go.Proofs.Ytnmbblkfaoihfaa
open Go.RowKit

theorem lopen_nil (w : World) : Calls Try.prog 15 #[.pointer none] w fun e w' => e = .returned (.int .i64 0) ∧ w = w' := by
  go_enter Try.func15, Try.ntmps15
  go_wp2
  go_ret
  exact ⟨rfl, rfl⟩
theorem lopen_any (p : Nat) (G : Option Nat) (s : LSt) (w : World) (h : IsE w 84 80 p G s) : Calls Try.prog 15 #[.pointer (some ⟨p, 0, none⟩)] w fun e w' => e = .returned (.int .i64 s.l.length) ∧ w = w' := by
  obtain ⟨v, h1, zs, _, h2, _⟩ := h
  obtain ⟨A, c, rfl, _, _, _, _⟩ := own_slice h2
  have c0 := cell_at h1 0
  clear h1 h2
  go_enter Try.func15, Try.ntmps15
  go_wp2
  go_ret
  exact ⟨rfl, rfl⟩
theorem lmark_nil (w : World) : Calls Try.prog 26 #[.pointer none] w fun e w' => e = .returned (.int .i64 0) ∧ w = w' := by
  go_enter Try.func26, Try.ntmps26
  go_wp2
  go_ret
  exact ⟨rfl, rfl⟩
theorem lmark_any (p : Nat) (G : Option Nat) (s : LSt) (w : World) (h : IsE w 84 80 p G s) : Calls Try.prog 26 #[.pointer (some ⟨p, 0, none⟩)] w fun e w' => e = .returned (.int .i64 s.mark) ∧ w = w' := by
  obtain ⟨v, h1, zs, _, h2, _⟩ := h
  obtain ⟨A, c, rfl, _, _, _, _⟩ := own_slice h2
  have c0 := cell_at h1 2
  clear h1 h2
  go_enter Try.func26, Try.ntmps26
  go_wp2
  go_ret
  exact ⟨rfl, rfl⟩
theorem lsent_nil (w : World) : Calls Try.prog 27 #[.pointer none] w fun e w' => e = .returned (.int .i64 0) ∧ w = w' := by
  go_enter Try.func27, Try.ntmps27
  go_wp2
  go_ret
  exact ⟨rfl, rfl⟩
theorem lsent_any (p : Nat) (G : Option Nat) (s : LSt) (w : World) (h : IsE w 84 80 p G s) : Calls Try.prog 27 #[.pointer (some ⟨p, 0, none⟩)] w fun e w' => e = .returned (.int .i64 s.sent) ∧ w = w' := by
  obtain ⟨v, h1, zs, _, h2, _⟩ := h
  obtain ⟨A, c, rfl, _, _, _, _⟩ := own_slice h2
  have c0 := cell_at h1 1
  clear h1 h2
  go_enter Try.func27, Try.ntmps27
  go_wp2
  go_ret
  exact ⟨rfl, rfl⟩
theorem lnew_any (w : World) : Calls Try.prog 18 #[] w fun e w' => e = .returned (.pointer (some ⟨w.heap.size, 0, none⟩)) ∧ IsE w' 84 80 w.heap.size none ⟨[], 0, 0⟩ ∧ Below w.heap.size w w' := by
  go_enter Try.func18, Try.ntmps18
  go_wp2
  go_ret
  exact ⟨rfl, ⟨.slice none 0 0, block_new _ _, [], rfl, World.ownsRow_nil _ _ _ _, rfl, by simp⟩, (Below.refl _ _).alloc (Nat.le_refl _) _⟩

set_option maxRecDepth 100000 in
set_option maxHeartbeats 2000000 in
theorem packet_any (p : Nat) (G : Option Nat) (s : LSt) (seq tries due : Int) (bv : Value) (bs : List Nat) (w : World) (h : IsE w 84 80 p G s) (hb : ByO w bv bs) (hl : bs.length ≤ 140737488351232) :
    Calls Try.prog 43 #[.pointer (some ⟨p, 0, none⟩), .agg #[.int .i64 seq, bv, .int .i64 tries, .int .i64 due]] w fun e w' => ∃ v, e = .returned v ∧ IsP w' v ⟨seq, s.mark, bs⟩ ∧ Below w.heap.size w w' := by
  obtain ⟨v, h1, zs, _, h2, _⟩ := h
  have c0 := cell_at h1 2
  have hp := lt_of_block h1
  obtain ⟨A, c, rfl, k1, k2, k3, _⟩ := byo_slice hb
  have HB := Lib.hid hb
  clear h1 h2 hb k1 k2 k3
  go_enter Try.func43, Try.ntmps43
  go_wp2_with fail
  obtain ⟨W0, hW0⟩ : ∃ W0, (w.alloc (.cells #[.int .i64 seq, .slice A bs.length c, .int .i64 tries, .int .i64 due] 84)).alloc (.cells #[.int .i64 0, .int .i64 0, .slice none 0 0] 43) = W0 := ⟨_, rfl⟩
  have b3 := block_alloc (block_new w (.cells #[.int .i64 seq, .slice A bs.length c, .int .i64 tries, .int .i64 due] 84)) (.cells #[.int .i64 0, .int .i64 0, .slice none 0 0] 43)
  have b4 := block_new (w.alloc (.cells #[.int .i64 seq, .slice A bs.length c, .int .i64 tries, .int .i64 due] 84)) (.cells #[.int .i64 0, .int .i64 0, .slice none 0 0] 43)
  have hB0 := ((Below.refl _ w).alloc (Nat.le_refl _) (.cells #[.int .i64 seq, .slice A bs.length c, .int .i64 tries, .int .i64 due] 84)).alloc (by simp) (.cells #[.int .i64 0, .int .i64 0, .slice none 0 0] 43)
  rw [hW0] at b3 b4 hB0 ⊢
  simp only [World.size_alloc] at b4
  have hs3 := lt_of_block b3
  have hs4 := lt_of_block b4
  have C3 := Lib.hid b3
  have C4 := Lib.hid b4
  have HB0 := Lib.hid hB0
  have cp : W0.cell? ⟨p, 2, none⟩ = some (.int .i64 s.mark) := (hB0.cell (p := ⟨p, 2, none⟩) hp).trans c0
  have hp0 : p < W0.heap.size := by have := hB0.size; omega
  have HP := Lib.hid cp
  clear hW0 b3 b4 hB0 c0 cp
  refine wp_region_flow (fun W => Below W0.heap.size W0 W) [0, 1, 2, 3, 4, 5, 6, 7, 8, 9, 10] (by kernel_rfl) (by kernel_rfl) (by kernel_rfl) ((Below.refl _ W0).drew) ?_
  refine flow_val ?_ rfl (by kernel_rfl) (by rfl) (fun W hW => ?_) ?_
  rotate_left 1
  · go_simp <;> with_reducible rfl
  simp only [Act.put, List.setIfInBounds_toArray, List.set_cons_succ, List.set_cons_zero]
  refine flow_val ?_ rfl (by kernel_rfl) (by rfl) (fun W hW => ?_) ?_
  rotate_left 1
  · have c1 : W.cell? ⟨w.heap.size, 0, none⟩ = some (.int .i64 seq) := (hW.cell (p := ⟨w.heap.size, 0, none⟩) hs3).trans (cell_at C3.out 0); go_simp <;> with_reducible rfl
  simp only [Act.put, List.setIfInBounds_toArray, List.set_cons_succ, List.set_cons_zero]
  refine flow_val ?_ rfl (by kernel_rfl) (by rfl) (fun W hW => ?_) ?_
  rotate_left 1
  · go_simp <;> with_reducible rfl
  simp only [Act.put, List.setIfInBounds_toArray, List.set_cons_succ, List.set_cons_zero]
  refine flow_val ?_ rfl (by kernel_rfl) (by rfl) (fun W hW => ?_) ?_
  rotate_left 1
  · go_simp <;> with_reducible rfl
  simp only [Act.put, List.setIfInBounds_toArray, List.set_cons_succ, List.set_cons_zero]
  refine flow_val ?_ rfl (by kernel_rfl) (by rfl) (fun W hW => ?_) ?_
  rotate_left 1
  · go_simp <;> with_reducible rfl
  simp only [Act.put, List.setIfInBounds_toArray, List.set_cons_succ, List.set_cons_zero]
  refine flow_val ?_ rfl (by kernel_rfl) (by rfl) (fun W hW => ?_) ?_
  rotate_left 1
  · have c1 : W.cell? ⟨p, 2, none⟩ = some (.int .i64 s.mark) := (hW.cell (p := ⟨p, 2, none⟩) hp0).trans (HP.out); go_simp <;> with_reducible rfl
  simp only [Act.put, List.setIfInBounds_toArray, List.set_cons_succ, List.set_cons_zero]
  refine flow_val ?_ rfl (by kernel_rfl) (by rfl) (fun W hW => ?_) ?_
  rotate_left 1
  · go_simp <;> with_reducible rfl
  simp only [Act.put, List.setIfInBounds_toArray, List.set_cons_succ, List.set_cons_zero]
  refine flow_val ?_ rfl (by kernel_rfl) (by rfl) (fun W hW => ?_) ?_
  rotate_left 1
  · have c1 : W.cell? ⟨w.heap.size, 1, none⟩ = some (.slice A bs.length c) := (hW.cell (p := ⟨w.heap.size, 1, none⟩) hs3).trans (cell_at C3.out 1); go_simp <;> with_reducible rfl
  simp only [Act.put, List.setIfInBounds_toArray, List.set_cons_succ, List.set_cons_zero]
  refine flow_gcall (fun v W' => ByO W' v bs) rfl (by kernel_rfl) (by rfl) (by kernel_rfl) (fun W hW _ => ⟨_, _, _, by go_simp, (clone_any (.slice A bs.length c) bs W ((HB.out.below (HB0.out.trans (hW.mono HB0.out.size))).bs) (by omega)).mono fun e w1 ⟨v, he, hv, hb1⟩ => ⟨v, he, hW.trans (hb1.mono hW.size), RowU.of (own_low hv (Nat.zero_le _)), HB.out.2⟩⟩) ?_
  rintro v13 ⟨_, _, hv13, _⟩
  simp only [Act.put, List.setIfInBounds_toArray, List.set_cons_succ, List.set_cons_zero]
  obtain ⟨A13, c13, rfl, _, _, _, _⟩ := RowU.slice hv13
  clear hv13
  refine flow_val ?_ rfl (by kernel_rfl) (by rfl) (fun W hW => ?_) ?_
  rotate_left 1
  · go_simp <;> with_reducible rfl
  simp only [Act.put, List.setIfInBounds_toArray, List.set_cons_succ, List.set_cons_zero]
  refine flow_bar (fun W' => W'.heap[w.heap.size + 1]? = some (.cells #[.int .i64 seq, .int .i64 s.mark, .slice A13 bs.length c13] 43 (0, 0)) ∧ ByO W' (.slice A13 bs.length c13) bs ∧ Below w.heap.size w W') (fun _ => True) rfl (by kernel_rfl) (by rfl) (by kernel_rfl) (by kernel_rfl) (fun W hW hC => ?_) ?_
  · obtain ⟨hW, _⟩ := hW
    have h4 := (hW.block _ hs4).trans C4.out
    have q0 := cell_at h4 0
    have q1 := cell_at h4 1
    have q2 := cell_at h4 2
    have f0 := frozen_at h4 0
    have f1 := frozen_at h4 1
    have f2 := frozen_at h4 2
    have H4 := Lib.hid h4
    have HC := Lib.hid hC
    have HW := Lib.hid hW
    clear h4 hC hW
    refine ⟨_, by go_simp <;> with_reducible rfl, ⟨?_, ?_, ?_⟩, trivial⟩
    · simpa using block_set (block_set (block_set H4.out 0 (.int .i64 seq)) 1 (.int .i64 s.mark)) 2 (.slice A13 bs.length c13)
    · exact HC.out.frame (S := [w.heap.size + 1]) (T := []) ((((Fr.refl W).setCell (p := ⟨w.heap.size + 1, 0, none⟩) _ (Nat.zero_le _) (.inl (by simp))).setCell (p := ⟨w.heap.size + 1, 1, none⟩) _ (Nat.zero_le _) (.inl (by simp))).setCell (p := ⟨w.heap.size + 1, 2, none⟩) _ (Nat.zero_le _) (.inl (by simp))) (by simp) (fun k hk cs fz e => by
        simp at hk
        subst hk
        rw [H4.out] at e
        injection e with e
        injection e with _ e _
        exact absurd e (by decide))
    · exact (((HB0.out.trans (HW.out.mono HB0.out.size)).setCell (p := ⟨w.heap.size + 1, 0, none⟩) (by simp) _).setCell (p := ⟨w.heap.size + 1, 1, none⟩) (by simp) _).setCell (p := ⟨w.heap.size + 1, 2, none⟩) (by simp) _
  refine flow_done2 ?_
  rintro W ⟨⟨r1, r2, r3⟩, _⟩ _
  have q0 := cell_at r1 0
  have q1 := cell_at r1 1
  have q2 := cell_at r1 2
  clear r1
  go_wp2
  refine bodyPost_ret (v := .agg #[.int .i64 seq, .int .i64 s.mark, .slice A13 bs.length c13]) (by simp [results, Try.f43, go_sem, q0, q1, q2]) rfl ?_
  exact ⟨_, rfl, ⟨_, rfl, r2⟩, r3⟩
end Go.Proofs.Ytnmbblkfaoihfaa
