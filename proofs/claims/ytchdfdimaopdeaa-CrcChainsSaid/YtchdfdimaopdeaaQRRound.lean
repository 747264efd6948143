/- The reference: a round of four words. -/
import Derived.Test.YtchdfdimaopdeaaQLe
namespace Go.Proofs.Ytchdfdimaopdeaa
open Go.RowKit

theorem St.o {T : TypeId} {W : World} {p k i : Nat} {v : W4} {u : Value} (h : St T W p v) (hk : k ≠ p) : St T (W.setCell ⟨k, i, none⟩ u) p v := h.keep (Below.heap_setCell W ⟨k, i, none⟩ u p (by simpa using hk.symm))
theorem St.drw {T : TypeId} {W : World} {p : Nat} {v : W4} (h : St T W p v) : St T W.drew p v := h.keep rfl
/-- Four words as a value. -/
def W4.val (v : W4) : Value := .agg #[.int .u64 v.a, .int .u64 v.b, .int .u64 v.c, .int .u64 v.d]

set_option maxRecDepth 100000 in
set_option maxHeartbeats 800000 in
theorem rround_any (v : W4) (w : World) : Calls Try.prog 35 #[v.val] w fun e w' => e = .returned (roundI v).val ∧ Below w.heap.size w w' := by
  obtain ⟨a, b, c, d⟩ := v
  obtain ⟨N, hN⟩ : ∃ N, w.heap.size = N := ⟨_, rfl⟩
  obtain ⟨w0, hw0⟩ : ∃ w0, (w.alloc (.cells #[.int .u64 a, .int .u64 b, .int .u64 c, .int .u64 d] 73)).alloc (.cells #[.int .u64 0, .int .u64 0, .int .u64 0, .int .u64 0] 73) = w0 := ⟨_, rfl⟩
  have H : Hid (St 73 w0 N ⟨a, b, c, d⟩) := Lib.hid (by rw [← hw0, ← hN]; exact block_alloc (block_new w _) _)
  have HR : Hid (St 73 w0 (N + 1) ⟨0, 0, 0, 0⟩) := Lib.hid (by rw [← hw0, ← hN]; have := block_new (w.alloc (.cells #[.int .u64 a, .int .u64 b, .int .u64 c, .int .u64 d] 73)) (.cells #[.int .u64 0, .int .u64 0, .int .u64 0, .int .u64 0] 73); rwa [World.size_alloc] at this)
  have HB : Hid (Below N w w0) := Lib.hid (by rw [← hw0, ← hN]; exact ((Below.refl _ w).alloc (Nat.le_refl _) _).alloc (by simp) _)
  unfold W4.val
  go_enter Try.func35, Try.ntmps35
  obtain ⟨a1, ha1⟩ : ∃ x, addI a b = x := ⟨_, rfl⟩
  have ka1 : IntKind.u64.wrap (a + b) = a1 := ha1
  have Ea1 := Lib.hid ha1
  clear ha1
  have c0 := H.out.c0
  have z0 := H.out.z 0
  have c1 := H.out.c1
  have z1 := H.out.z 1
  go_wp2_with fail
  have H1 := Lib.hid (H.out.s0 a1)
  have R1 := Lib.hid (HR.out.o (k := N) (i := 0) (u := .int .u64 a1) (by omega))
  have B1 := Lib.hid (HB.out.setCell (p := ⟨N, 0, none⟩) (Nat.le_refl N) (.int .u64 a1))
  clear ka1 c0 z0 c1 z1
  refine wp_region_flow (fun W => St 73 W N ⟨a1, b, c, d⟩ ∧ St 73 W (N + 1) ⟨0, 0, 0, 0⟩ ∧ Below N w W) [0, 1, 3, 4, 2, 5, 6, 7] (by kernel_rfl) (by kernel_rfl) (by kernel_rfl) (⟨H1.out.keep rfl, R1.out.keep rfl, B1.out.drew⟩) ?_
  refine flow_val ?_ rfl (by kernel_rfl) (by rfl) (fun W hW => ?_) ?_
  rotate_left 1
  · go_simp <;> with_reducible rfl
  simp only [Act.put, List.setIfInBounds_toArray, List.set_cons_succ, List.set_cons_zero]
  refine flow_val ?_ rfl (by kernel_rfl) (by rfl) (fun W hW => ?_) ?_
  rotate_left 1
  · have c1 := hW.1.c1; go_simp <;> with_reducible rfl
  simp only [Act.put, List.setIfInBounds_toArray, List.set_cons_succ, List.set_cons_zero]
  refine flow_val ?_ rfl (by kernel_rfl) (by rfl) (fun W hW => ?_) ?_
  rotate_left 1
  · go_simp <;> with_reducible rfl
  simp only [Act.put, List.setIfInBounds_toArray, List.set_cons_succ, List.set_cons_zero]
  refine flow_val ?_ rfl (by kernel_rfl) (by rfl) (fun W hW => ?_) ?_
  rotate_left 1
  · have c0 := hW.1.c0; go_simp <;> with_reducible rfl
  simp only [Act.put, List.setIfInBounds_toArray, List.set_cons_succ, List.set_cons_zero]
  refine flow_call (.int .u64 (rotI 8192 2251799813685248 b)) rfl (by kernel_rfl) (by rfl) (by kernel_rfl) (fun W hW => ⟨_, _, _, by go_simp, (turn13 b W).mono fun e w' ⟨he, hw'⟩ => ⟨he, by rw [hw']; exact ⟨hW.1.keep rfl, hW.2.1.keep rfl, hW.2.2.drew⟩⟩⟩) ?_
  simp only [Act.put, List.setIfInBounds_toArray, List.set_cons_succ, List.set_cons_zero]
  refine flow_val ?_ rfl (by kernel_rfl) (by rfl) (fun W hW => ?_) ?_
  rotate_left 1
  · go_simp <;> with_reducible rfl
  simp only [Act.put, List.setIfInBounds_toArray, List.set_cons_succ, List.set_cons_zero]
  refine flow_val ?_ rfl (by kernel_rfl) (by rfl) (fun W hW => ?_) ?_
  rotate_left 1
  · go_simp <;> with_reducible rfl
  simp only [Act.put, List.setIfInBounds_toArray, List.set_cons_succ, List.set_cons_zero]
  refine flow_bar (fun W => St 73 W N ⟨a1, (xorI (rotI 8192 2251799813685248 b) a1), c, d⟩ ∧ St 73 W (N + 1) ⟨0, 0, 0, 0⟩ ∧ Below N w W) (fun _ => True) rfl (by kernel_rfl) (by rfl) (by kernel_rfl) (by kernel_rfl) (fun W hW hC => ?_) ?_
  · have hc := hW.1.1.c1
    have hz := hW.1.1.z 1
    refine ⟨_, by go_simp <;> with_reducible rfl, ⟨?_, ?_, ?_⟩, trivial⟩
    · exact hW.1.1.s1 _
    · exact hW.1.2.1.o (by omega)
    · exact hW.1.2.2.setCell (p := ⟨N, 1, none⟩) (Nat.le_refl N) _
  refine flow_done2 ?_
  obtain ⟨b2, hb2⟩ : ∃ x, xorI (rotI 8192 2251799813685248 b) a1 = x := ⟨_, rfl⟩
  rw [hb2]
  rintro W2 ⟨⟨r1, r2, r3⟩, _⟩ _
  have H2 := Lib.hid r1
  have R2 := Lib.hid r2
  have B2 := Lib.hid r3
  have Eb2 := Lib.hid hb2
  clear r1 r2 r3 hb2
  obtain ⟨a3, ha3⟩ : ∃ x, rotI 4294967296 4294967296 a1 = x := ⟨_, rfl⟩
  have Ea3 := Lib.hid ha3
  obtain ⟨c4, hc4⟩ : ∃ x, addI c d = x := ⟨_, rfl⟩
  have kc4 : IntKind.u64.wrap (c + d) = c4 := hc4
  have Ec4 := Lib.hid hc4
  clear hc4
  have c0 := H2.out.c0
  have z0 := H2.out.z 0
  have c2 := H2.out.c2
  have z2 := H2.out.z 2
  have c3 := H2.out.c3
  have z3 := H2.out.z 3
  go_wp2_with fail
  refine (turn32 a1 _).mono ?_
  rintro e w1 ⟨rfl, rfl⟩
  rw [ha3]
  clear ha3
  go_wp2_with fail
  have H4 := Lib.hid (((H2.out.drw).s0 a3).s2 c4)
  have R4 := Lib.hid (((R2.out.drw).o (k := N) (i := 0) (u := .int .u64 a3) (by omega)).o (k := N) (i := 2) (u := .int .u64 c4) (by omega))
  have B4 := Lib.hid (((B2.out.drew).setCell (p := ⟨N, 0, none⟩) (Nat.le_refl N) (.int .u64 a3)).setCell (p := ⟨N, 2, none⟩) (Nat.le_refl N) (.int .u64 c4))
  clear kc4 c0 z0 c2 z2 c3 z3
  refine wp_region_flow (fun W => St 73 W N ⟨a3, b2, c4, d⟩ ∧ St 73 W (N + 1) ⟨0, 0, 0, 0⟩ ∧ Below N w W) [0, 1, 3, 4, 2, 5, 6, 7] (by kernel_rfl) (by kernel_rfl) (by kernel_rfl) (⟨H4.out.keep rfl, R4.out.keep rfl, B4.out.drew⟩) ?_
  refine flow_val ?_ rfl (by kernel_rfl) (by rfl) (fun W hW => ?_) ?_
  rotate_left 1
  · go_simp <;> with_reducible rfl
  simp only [Act.put, List.setIfInBounds_toArray, List.set_cons_succ, List.set_cons_zero]
  refine flow_val ?_ rfl (by kernel_rfl) (by rfl) (fun W hW => ?_) ?_
  rotate_left 1
  · have c3 := hW.1.c3; go_simp <;> with_reducible rfl
  simp only [Act.put, List.setIfInBounds_toArray, List.set_cons_succ, List.set_cons_zero]
  refine flow_val ?_ rfl (by kernel_rfl) (by rfl) (fun W hW => ?_) ?_
  rotate_left 1
  · go_simp <;> with_reducible rfl
  simp only [Act.put, List.setIfInBounds_toArray, List.set_cons_succ, List.set_cons_zero]
  refine flow_val ?_ rfl (by kernel_rfl) (by rfl) (fun W hW => ?_) ?_
  rotate_left 1
  · have c2 := hW.1.c2; go_simp <;> with_reducible rfl
  simp only [Act.put, List.setIfInBounds_toArray, List.set_cons_succ, List.set_cons_zero]
  refine flow_call (.int .u64 (rotI 65536 281474976710656 d)) rfl (by kernel_rfl) (by rfl) (by kernel_rfl) (fun W hW => ⟨_, _, _, by go_simp, (turn16 d W).mono fun e w' ⟨he, hw'⟩ => ⟨he, by rw [hw']; exact ⟨hW.1.keep rfl, hW.2.1.keep rfl, hW.2.2.drew⟩⟩⟩) ?_
  simp only [Act.put, List.setIfInBounds_toArray, List.set_cons_succ, List.set_cons_zero]
  refine flow_val ?_ rfl (by kernel_rfl) (by rfl) (fun W hW => ?_) ?_
  rotate_left 1
  · go_simp <;> with_reducible rfl
  simp only [Act.put, List.setIfInBounds_toArray, List.set_cons_succ, List.set_cons_zero]
  refine flow_val ?_ rfl (by kernel_rfl) (by rfl) (fun W hW => ?_) ?_
  rotate_left 1
  · go_simp <;> with_reducible rfl
  simp only [Act.put, List.setIfInBounds_toArray, List.set_cons_succ, List.set_cons_zero]
  refine flow_bar (fun W => St 73 W N ⟨a3, b2, c4, (xorI (rotI 65536 281474976710656 d) c4)⟩ ∧ St 73 W (N + 1) ⟨0, 0, 0, 0⟩ ∧ Below N w W) (fun _ => True) rfl (by kernel_rfl) (by rfl) (by kernel_rfl) (by kernel_rfl) (fun W hW hC => ?_) ?_
  · have hc := hW.1.1.c3
    have hz := hW.1.1.z 3
    refine ⟨_, by go_simp <;> with_reducible rfl, ⟨?_, ?_, ?_⟩, trivial⟩
    · exact hW.1.1.s3 _
    · exact hW.1.2.1.o (by omega)
    · exact hW.1.2.2.setCell (p := ⟨N, 3, none⟩) (Nat.le_refl N) _
  refine flow_done2 ?_
  obtain ⟨d5, hd5⟩ : ∃ x, xorI (rotI 65536 281474976710656 d) c4 = x := ⟨_, rfl⟩
  rw [hd5]
  rintro W5 ⟨⟨r1, r2, r3⟩, _⟩ _
  have H5 := Lib.hid r1
  have R5 := Lib.hid r2
  have B5 := Lib.hid r3
  have Ed5 := Lib.hid hd5
  clear r1 r2 r3 hd5
  obtain ⟨a6, ha6⟩ : ∃ x, addI a3 d5 = x := ⟨_, rfl⟩
  have ka6 : IntKind.u64.wrap (a3 + d5) = a6 := ha6
  have Ea6 := Lib.hid ha6
  clear ha6
  have c0 := H5.out.c0
  have z0 := H5.out.z 0
  have c3 := H5.out.c3
  have z3 := H5.out.z 3
  go_wp2_with fail
  have H6 := Lib.hid (H5.out.s0 a6)
  have R6 := Lib.hid (R5.out.o (k := N) (i := 0) (u := .int .u64 a6) (by omega))
  have B6 := Lib.hid (B5.out.setCell (p := ⟨N, 0, none⟩) (Nat.le_refl N) (.int .u64 a6))
  clear ka6 c0 z0 c3 z3
  refine wp_region_flow (fun W => St 73 W N ⟨a6, b2, c4, d5⟩ ∧ St 73 W (N + 1) ⟨0, 0, 0, 0⟩ ∧ Below N w W) [0, 1, 3, 4, 2, 5, 6, 7] (by kernel_rfl) (by kernel_rfl) (by kernel_rfl) (⟨H6.out.keep rfl, R6.out.keep rfl, B6.out.drew⟩) ?_
  refine flow_val ?_ rfl (by kernel_rfl) (by rfl) (fun W hW => ?_) ?_
  rotate_left 1
  · go_simp <;> with_reducible rfl
  simp only [Act.put, List.setIfInBounds_toArray, List.set_cons_succ, List.set_cons_zero]
  refine flow_val ?_ rfl (by kernel_rfl) (by rfl) (fun W hW => ?_) ?_
  rotate_left 1
  · have c3 := hW.1.c3; go_simp <;> with_reducible rfl
  simp only [Act.put, List.setIfInBounds_toArray, List.set_cons_succ, List.set_cons_zero]
  refine flow_val ?_ rfl (by kernel_rfl) (by rfl) (fun W hW => ?_) ?_
  rotate_left 1
  · go_simp <;> with_reducible rfl
  simp only [Act.put, List.setIfInBounds_toArray, List.set_cons_succ, List.set_cons_zero]
  refine flow_val ?_ rfl (by kernel_rfl) (by rfl) (fun W hW => ?_) ?_
  rotate_left 1
  · have c0 := hW.1.c0; go_simp <;> with_reducible rfl
  simp only [Act.put, List.setIfInBounds_toArray, List.set_cons_succ, List.set_cons_zero]
  refine flow_call (.int .u64 (rotI 2097152 8796093022208 d5)) rfl (by kernel_rfl) (by rfl) (by kernel_rfl) (fun W hW => ⟨_, _, _, by go_simp, (turn21 d5 W).mono fun e w' ⟨he, hw'⟩ => ⟨he, by rw [hw']; exact ⟨hW.1.keep rfl, hW.2.1.keep rfl, hW.2.2.drew⟩⟩⟩) ?_
  simp only [Act.put, List.setIfInBounds_toArray, List.set_cons_succ, List.set_cons_zero]
  refine flow_val ?_ rfl (by kernel_rfl) (by rfl) (fun W hW => ?_) ?_
  rotate_left 1
  · go_simp <;> with_reducible rfl
  simp only [Act.put, List.setIfInBounds_toArray, List.set_cons_succ, List.set_cons_zero]
  refine flow_val ?_ rfl (by kernel_rfl) (by rfl) (fun W hW => ?_) ?_
  rotate_left 1
  · go_simp <;> with_reducible rfl
  simp only [Act.put, List.setIfInBounds_toArray, List.set_cons_succ, List.set_cons_zero]
  refine flow_bar (fun W => St 73 W N ⟨a6, b2, c4, (xorI (rotI 2097152 8796093022208 d5) a6)⟩ ∧ St 73 W (N + 1) ⟨0, 0, 0, 0⟩ ∧ Below N w W) (fun _ => True) rfl (by kernel_rfl) (by rfl) (by kernel_rfl) (by kernel_rfl) (fun W hW hC => ?_) ?_
  · have hc := hW.1.1.c3
    have hz := hW.1.1.z 3
    refine ⟨_, by go_simp <;> with_reducible rfl, ⟨?_, ?_, ?_⟩, trivial⟩
    · exact hW.1.1.s3 _
    · exact hW.1.2.1.o (by omega)
    · exact hW.1.2.2.setCell (p := ⟨N, 3, none⟩) (Nat.le_refl N) _
  refine flow_done2 ?_
  obtain ⟨d7, hd7⟩ : ∃ x, xorI (rotI 2097152 8796093022208 d5) a6 = x := ⟨_, rfl⟩
  rw [hd7]
  rintro W7 ⟨⟨r1, r2, r3⟩, _⟩ _
  have H7 := Lib.hid r1
  have R7 := Lib.hid r2
  have B7 := Lib.hid r3
  have Ed7 := Lib.hid hd7
  clear r1 r2 r3 hd7
  obtain ⟨c8, hc8⟩ : ∃ x, addI c4 b2 = x := ⟨_, rfl⟩
  have kc8 : IntKind.u64.wrap (c4 + b2) = c8 := hc8
  have Ec8 := Lib.hid hc8
  clear hc8
  have c1 := H7.out.c1
  have z1 := H7.out.z 1
  have c2 := H7.out.c2
  have z2 := H7.out.z 2
  go_wp2_with fail
  have H8 := Lib.hid (H7.out.s2 c8)
  have R8 := Lib.hid (R7.out.o (k := N) (i := 2) (u := .int .u64 c8) (by omega))
  have B8 := Lib.hid (B7.out.setCell (p := ⟨N, 2, none⟩) (Nat.le_refl N) (.int .u64 c8))
  clear kc8 c1 z1 c2 z2
  refine wp_region_flow (fun W => St 73 W N ⟨a6, b2, c8, d7⟩ ∧ St 73 W (N + 1) ⟨0, 0, 0, 0⟩ ∧ Below N w W) [0, 1, 3, 4, 2, 5, 6, 7] (by kernel_rfl) (by kernel_rfl) (by kernel_rfl) (⟨H8.out.keep rfl, R8.out.keep rfl, B8.out.drew⟩) ?_
  refine flow_val ?_ rfl (by kernel_rfl) (by rfl) (fun W hW => ?_) ?_
  rotate_left 1
  · go_simp <;> with_reducible rfl
  simp only [Act.put, List.setIfInBounds_toArray, List.set_cons_succ, List.set_cons_zero]
  refine flow_val ?_ rfl (by kernel_rfl) (by rfl) (fun W hW => ?_) ?_
  rotate_left 1
  · have c1 := hW.1.c1; go_simp <;> with_reducible rfl
  simp only [Act.put, List.setIfInBounds_toArray, List.set_cons_succ, List.set_cons_zero]
  refine flow_val ?_ rfl (by kernel_rfl) (by rfl) (fun W hW => ?_) ?_
  rotate_left 1
  · go_simp <;> with_reducible rfl
  simp only [Act.put, List.setIfInBounds_toArray, List.set_cons_succ, List.set_cons_zero]
  refine flow_val ?_ rfl (by kernel_rfl) (by rfl) (fun W hW => ?_) ?_
  rotate_left 1
  · have c2 := hW.1.c2; go_simp <;> with_reducible rfl
  simp only [Act.put, List.setIfInBounds_toArray, List.set_cons_succ, List.set_cons_zero]
  refine flow_call (.int .u64 (rotI 131072 140737488355328 b2)) rfl (by kernel_rfl) (by rfl) (by kernel_rfl) (fun W hW => ⟨_, _, _, by go_simp, (turn17 b2 W).mono fun e w' ⟨he, hw'⟩ => ⟨he, by rw [hw']; exact ⟨hW.1.keep rfl, hW.2.1.keep rfl, hW.2.2.drew⟩⟩⟩) ?_
  simp only [Act.put, List.setIfInBounds_toArray, List.set_cons_succ, List.set_cons_zero]
  refine flow_val ?_ rfl (by kernel_rfl) (by rfl) (fun W hW => ?_) ?_
  rotate_left 1
  · go_simp <;> with_reducible rfl
  simp only [Act.put, List.setIfInBounds_toArray, List.set_cons_succ, List.set_cons_zero]
  refine flow_val ?_ rfl (by kernel_rfl) (by rfl) (fun W hW => ?_) ?_
  rotate_left 1
  · go_simp <;> with_reducible rfl
  simp only [Act.put, List.setIfInBounds_toArray, List.set_cons_succ, List.set_cons_zero]
  refine flow_bar (fun W => St 73 W N ⟨a6, (xorI (rotI 131072 140737488355328 b2) c8), c8, d7⟩ ∧ St 73 W (N + 1) ⟨0, 0, 0, 0⟩ ∧ Below N w W) (fun _ => True) rfl (by kernel_rfl) (by rfl) (by kernel_rfl) (by kernel_rfl) (fun W hW hC => ?_) ?_
  · have hc := hW.1.1.c1
    have hz := hW.1.1.z 1
    refine ⟨_, by go_simp <;> with_reducible rfl, ⟨?_, ?_, ?_⟩, trivial⟩
    · exact hW.1.1.s1 _
    · exact hW.1.2.1.o (by omega)
    · exact hW.1.2.2.setCell (p := ⟨N, 1, none⟩) (Nat.le_refl N) _
  refine flow_done2 ?_
  obtain ⟨b9, hb9⟩ : ∃ x, xorI (rotI 131072 140737488355328 b2) c8 = x := ⟨_, rfl⟩
  rw [hb9]
  rintro W9 ⟨⟨r1, r2, r3⟩, _⟩ _
  have H9 := Lib.hid r1
  have R9 := Lib.hid r2
  have B9 := Lib.hid r3
  have Eb9 := Lib.hid hb9
  clear r1 r2 r3 hb9
  obtain ⟨c10, hc10⟩ : ∃ x, rotI 4294967296 4294967296 c8 = x := ⟨_, rfl⟩
  have Ec10 := Lib.hid hc10
  have c0 := H9.out.c0
  have z0 := H9.out.z 0
  have c1 := H9.out.c1
  have z1 := H9.out.z 1
  have c2 := H9.out.c2
  have z2 := H9.out.z 2
  have c3 := H9.out.c3
  have z3 := H9.out.z 3
  have y0 := R9.out.z 0
  have x0 := R9.out.c0
  have y1 := R9.out.z 1
  have x1 := R9.out.c1
  have y2 := R9.out.z 2
  have x2 := R9.out.c2
  have y3 := R9.out.z 3
  have x3 := R9.out.c3
  go_wp2_with fail
  refine (turn32 c8 _).mono ?_
  rintro e w1 ⟨rfl, rfl⟩
  rw [hc10]
  clear hc10
  go_wp2_with fail
  have H10 := Lib.hid ((H9.out.drw).s2 c10)
  have R10 := Lib.hid ((R9.out.drw).o (k := N) (i := 2) (u := .int .u64 c10) (by omega))
  have B10 := Lib.hid ((B9.out.drew).setCell (p := ⟨N, 2, none⟩) (Nat.le_refl N) (.int .u64 c10))
  clear  c0 z0 c1 z1 c2 z2 c3 z3
  have hv : roundI ⟨a, b, c, d⟩ = ⟨a6, b9, c10, d7⟩ := by
    simp only [roundI, Ea1.out, Eb2.out, Ea3.out, Ec4.out, Ed5.out, Ea6.out, Ed7.out, Ec8.out, Eb9.out, Ec10.out]
  have qr := (((((R9.out.o (k := N) (i := 2) (u := .int .u64 c10) (by omega)).s0 a6).s1 b9).s2 c10).s3 d7).drw
  have qb := ((((((B9.out.setCell (p := ⟨N, 2, none⟩) (Nat.le_refl N) (.int .u64 c10)).setCell (p := ⟨N + 1, 0, none⟩) (by simp) (.int .u64 a6)).setCell (p := ⟨N + 1, 1, none⟩) (by simp) (.int .u64 b9)).setCell (p := ⟨N + 1, 2, none⟩) (by simp) (.int .u64 c10)).setCell (p := ⟨N + 1, 3, none⟩) (by simp) (.int .u64 d7)).drew)
  revert qr qb
  generalize (_ : World).drew = W9
  intro qr qb
  have u0 := qr.c0
  have u1 := qr.c1
  have u2 := qr.c2
  have u3 := qr.c3
  rw [hv, hN]
  refine bodyPost_ret (v := .agg #[.int .u64 a6, .int .u64 b9, .int .u64 c10, .int .u64 d7]) (by simp [results, Try.f35, go_sem, u0, u1, u2, u3]) rfl ?_
  exact ⟨rfl, qb⟩
end Go.Proofs.Ytchdfdimaopdeaa
