/- Package count: a tally in memory: Most, Take, All. -/
import Derived.Test.YtochhjdjfgiaeaaNTal
import Derived.Test.YtochhjdjfgiaeaaFlow
namespace Go.Proofs.Ytochhjdjfgiaeaa
open Go.RowKit

theorem IsTal.cellD {W : World} {p : Nat} {xs : List Int} {d : Bool} (h : IsTal W p xs d) {i : Nat} (hi : i < 8) : W.cell? ⟨p, i, none⟩ = some (.int .i64 (xs.getD i 0)) := by
  rw [h.cell hi]
  have hi' : i < xs.length := by rw [h.2]; exact hi
  simp [hi']
theorem aload_any (p i : Nat) (x : Int) (w : World) (hc : w.cell? ⟨p, i, none⟩ = some (.int .i64 x)) : Calls Try.prog 40 #[.pointer (some ⟨p, i, none⟩)] w fun e w' => e = .returned (.int .i64 x) ∧ w = w' := by
  have hl := run_call_load (P := Try.prog) Try.func50 (by kernel_rfl) (by kernel_rfl) (by kernel_rfl) .i64 (by kernel_rfl) hc
  go_enter Try.func40, Try.ntmps40
  go_wp2
  go_ret
  exact ⟨rfl, rfl⟩
theorem acas_any (p i : Nat) (x y : Int) (w : World) (hc : w.cell? ⟨p, i, none⟩ = some (.int .i64 x)) (hz : w.frozen? ⟨p, i, none⟩ = false) : Calls Try.prog 47 #[.pointer (some ⟨p, i, none⟩), .int .i64 x, .int .i64 y] w fun e w' => e = .returned (.bool true) ∧ w' = w.setCell ⟨p, i, none⟩ (.int .i64 y) := by
  have hcas := run_call_cas_hit (P := Try.prog) Try.func55 (by kernel_rfl) (by kernel_rfl) (by kernel_rfl) .i64 (by kernel_rfl) (y := y) hc hz
  go_enter Try.func47, Try.ntmps47
  go_wp2
  go_ret
  exact ⟨rfl, rfl⟩
set_option maxRecDepth 100000 in
theorem most1_any (x n : Int) (b : Nat) (w : World) (hb : w.cell? ⟨b, 0, none⟩ = some (.int .i64 n)) :
    Calls Try.prog 36 #[.int .i64 x, .pointer (some ⟨b, 0, none⟩)] w fun e w' => e = .returned (.tuple #[.int .i64 n, .bool (decide (x < n))]) ∧ Below w.heap.size w w' := by
  have HB : Hid (w.drew.cell? ⟨b, 0, none⟩ = some (.int .i64 n)) := Lib.hid (by rw [World.cell?_drew]; exact hb)
  clear hb
  go_enter Try.func36, Try.ntmps36
  go_wp2_with fail
  refine wp_region_flow (fun W => W = w.drew) [0, 1, 2, 3, 4, 5] (by kernel_rfl) (by kernel_rfl) (by kernel_rfl) (rfl) ?_
  refine flow_val ?_ rfl (by kernel_rfl) (by rfl) (fun W hW => ?_) ?_
  rotate_left 1
  · subst hW; have c0 := HB.out; go_simp <;> with_reducible rfl
  simp only [Act.put, List.setIfInBounds_toArray, List.set_cons_succ, List.set_cons_zero]
  refine flow_val ?_ rfl (by kernel_rfl) (by rfl) (fun W hW => ?_) ?_
  rotate_left 1
  · subst hW; have c0 := HB.out; go_simp <;> with_reducible rfl
  simp only [Act.put, List.setIfInBounds_toArray, List.set_cons_succ, List.set_cons_zero]
  refine flow_val ?_ rfl (by kernel_rfl) (by rfl) (fun W hW => ?_) ?_
  rotate_left 1
  · go_simp <;> with_reducible rfl
  simp only [Act.put, List.setIfInBounds_toArray, List.set_cons_succ, List.set_cons_zero]
  refine flow_val ?_ rfl (by kernel_rfl) (by rfl) (fun W hW => ?_) ?_
  rotate_left 1
  · go_simp <;> with_reducible rfl
  simp only [Act.put, List.setIfInBounds_toArray, List.set_cons_succ, List.set_cons_zero]
  refine flow_val ?_ rfl (by kernel_rfl) (by rfl) (fun W hW => ?_) ?_
  rotate_left 1
  · go_simp <;> with_reducible rfl
  simp only [Act.put, List.setIfInBounds_toArray, List.set_cons_succ, List.set_cons_zero]
  refine flow_val ?_ rfl (by kernel_rfl) (by rfl) (fun W hW => ?_) ?_
  rotate_left 1
  · go_simp <;> with_reducible rfl
  simp only [Act.put, List.setIfInBounds_toArray, List.set_cons_succ, List.set_cons_zero]
  refine flow_done ?_
  intro W hW
  subst hW
  go_wp2
  go_ret2
  exact ⟨rfl, (Below.refl _ _).drew⟩
set_option maxRecDepth 100000 in
theorem take1_any (x n : Int) (b : Nat) (w : World) (hb : w.cell? ⟨b, 0, none⟩ = some (.int .i64 n)) :
    Calls Try.prog 37 #[.int .i64 x, .pointer (some ⟨b, 0, none⟩)] w fun e w' => e = .returned (.tuple #[.int .i64 (wrapI (x - n)), .bool (decide (0 ≤ n ∧ n ≤ x))]) ∧ Below w.heap.size w w' := by
  have HB : Hid (w.drew.cell? ⟨b, 0, none⟩ = some (.int .i64 n)) := Lib.hid (by rw [World.cell?_drew]; exact hb)
  obtain ⟨D, hD⟩ : ∃ D, IntKind.i64.wrap (x - n) = D := ⟨_, rfl⟩
  have hD' : wrapI (x - n) = D := hD
  rw [hD']
  clear hb hD'
  by_cases h0 : 0 ≤ n
  · by_cases h1 : n ≤ x
    · have hv : Hid (decide (0 ≤ n ∧ n ≤ x) = true) := Lib.hid (by simp [h0, h1])
      rw [hv.out]
      go_enter Try.func37, Try.ntmps37
      go_wp2_with fail
      refine wp_region_flow (fun W => W = w.drew) [0, 1, 2, 3, 4, 5, 6, 7, 8, 9, 10, 11] (by kernel_rfl) (by kernel_rfl) (by kernel_rfl) (rfl) ?_
      refine flow_val ?_ rfl (by kernel_rfl) (by rfl) (fun W hW => ?_) ?_
      rotate_left 1
      · go_simp <;> with_reducible rfl
      simp only [Act.put, List.setIfInBounds_toArray, List.set_cons_succ, List.set_cons_zero]
      refine flow_val ?_ rfl (by kernel_rfl) (by rfl) (fun W hW => ?_) ?_
      rotate_left 1
      · subst hW; have c0 := HB.out; go_simp <;> with_reducible rfl
      simp only [Act.put, List.setIfInBounds_toArray, List.set_cons_succ, List.set_cons_zero]
      refine flow_val ?_ rfl (by kernel_rfl) (by rfl) (fun W hW => ?_) ?_
      rotate_left 1
      · go_simp <;> with_reducible rfl
      simp only [Act.put, List.setIfInBounds_toArray, List.set_cons_succ, List.set_cons_zero]
      refine flow_val ?_ rfl (by kernel_rfl) (by rfl) (fun W hW => ?_) ?_
      rotate_left 1
      · subst hW; have c0 := HB.out; go_simp <;> with_reducible rfl
      simp only [Act.put, List.setIfInBounds_toArray, List.set_cons_succ, List.set_cons_zero]
      refine flow_val ?_ rfl (by kernel_rfl) (by rfl) (fun W hW => ?_) ?_
      rotate_left 1
      · go_simp <;> with_reducible rfl
      simp only [Act.put, List.setIfInBounds_toArray, List.set_cons_succ, List.set_cons_zero]
      refine flow_val ?_ rfl (by kernel_rfl) (by rfl) (fun W hW => ?_) ?_
      rotate_left 1
      · go_simp <;> with_reducible rfl
      simp only [Act.put, List.setIfInBounds_toArray, List.set_cons_succ, List.set_cons_zero]
      refine flow_val ?_ rfl (by kernel_rfl) (by rfl) (fun W hW => ?_) ?_
      rotate_left 1
      · go_simp <;> with_reducible rfl
      simp only [Act.put, List.setIfInBounds_toArray, List.set_cons_succ, List.set_cons_zero]
      refine flow_val ?_ rfl (by kernel_rfl) (by rfl) (fun W hW => ?_) ?_
      rotate_left 1
      · subst hW; have c0 := HB.out; go_simp <;> with_reducible rfl
      simp only [Act.put, List.setIfInBounds_toArray, List.set_cons_succ, List.set_cons_zero]
      refine flow_val ?_ rfl (by kernel_rfl) (by rfl) (fun W hW => ?_) ?_
      rotate_left 1
      · go_simp <;> with_reducible rfl
      simp only [Act.put, List.setIfInBounds_toArray, List.set_cons_succ, List.set_cons_zero]
      refine flow_val ?_ rfl (by kernel_rfl) (by rfl) (fun W hW => ?_) ?_
      rotate_left 1
      · go_simp <;> with_reducible rfl
      simp only [Act.put, List.setIfInBounds_toArray, List.set_cons_succ, List.set_cons_zero]
      refine flow_val ?_ rfl (by kernel_rfl) (by rfl) (fun W hW => ?_) ?_
      rotate_left 1
      · go_simp <;> with_reducible rfl
      simp only [Act.put, List.setIfInBounds_toArray, List.set_cons_succ, List.set_cons_zero]
      refine flow_val ?_ rfl (by kernel_rfl) (by rfl) (fun W hW => ?_) ?_
      rotate_left 1
      · go_simp <;> with_reducible rfl
      simp only [Act.put, List.setIfInBounds_toArray, List.set_cons_succ, List.set_cons_zero]
      refine flow_done ?_
      intro W hW
      subst hW
      go_wp2
      go_ret2
      exact ⟨rfl, (Below.refl _ _).drew⟩
    · have hv : Hid (decide (0 ≤ n ∧ n ≤ x) = false) := Lib.hid (by simp [h0, h1])
      have h2 : decide (n ≤ x) = false := by simp [h1]
      rw [hv.out]
      clear h1
      go_enter Try.func37, Try.ntmps37
      go_wp2_with fail
      refine wp_region_flow (fun W => W = w.drew) [0, 1, 2, 3, 4, 5, 6, 7, 8, 9, 10, 11] (by kernel_rfl) (by kernel_rfl) (by kernel_rfl) (rfl) ?_
      refine flow_val ?_ rfl (by kernel_rfl) (by rfl) (fun W hW => ?_) ?_
      rotate_left 1
      · go_simp <;> with_reducible rfl
      simp only [Act.put, List.setIfInBounds_toArray, List.set_cons_succ, List.set_cons_zero]
      refine flow_val ?_ rfl (by kernel_rfl) (by rfl) (fun W hW => ?_) ?_
      rotate_left 1
      · subst hW; have c0 := HB.out; go_simp <;> with_reducible rfl
      simp only [Act.put, List.setIfInBounds_toArray, List.set_cons_succ, List.set_cons_zero]
      refine flow_val ?_ rfl (by kernel_rfl) (by rfl) (fun W hW => ?_) ?_
      rotate_left 1
      · go_simp <;> with_reducible rfl
      simp only [Act.put, List.setIfInBounds_toArray, List.set_cons_succ, List.set_cons_zero]
      refine flow_val ?_ rfl (by kernel_rfl) (by rfl) (fun W hW => ?_) ?_
      rotate_left 1
      · subst hW; have c0 := HB.out; go_simp <;> with_reducible rfl
      simp only [Act.put, List.setIfInBounds_toArray, List.set_cons_succ, List.set_cons_zero]
      refine flow_val ?_ rfl (by kernel_rfl) (by rfl) (fun W hW => ?_) ?_
      rotate_left 1
      · go_simp <;> with_reducible rfl
      simp only [Act.put, List.setIfInBounds_toArray, List.set_cons_succ, List.set_cons_zero]
      refine flow_val ?_ rfl (by kernel_rfl) (by rfl) (fun W hW => ?_) ?_
      rotate_left 1
      · go_simp <;> with_reducible rfl
      simp only [Act.put, List.setIfInBounds_toArray, List.set_cons_succ, List.set_cons_zero]
      refine flow_val ?_ rfl (by kernel_rfl) (by rfl) (fun W hW => ?_) ?_
      rotate_left 1
      · go_simp <;> with_reducible rfl
      simp only [Act.put, List.setIfInBounds_toArray, List.set_cons_succ, List.set_cons_zero]
      refine flow_val ?_ rfl (by kernel_rfl) (by rfl) (fun W hW => ?_) ?_
      rotate_left 1
      · subst hW; have c0 := HB.out; go_simp <;> with_reducible rfl
      simp only [Act.put, List.setIfInBounds_toArray, List.set_cons_succ, List.set_cons_zero]
      refine flow_val ?_ rfl (by kernel_rfl) (by rfl) (fun W hW => ?_) ?_
      rotate_left 1
      · go_simp <;> with_reducible rfl
      simp only [Act.put, List.setIfInBounds_toArray, List.set_cons_succ, List.set_cons_zero]
      refine flow_val ?_ rfl (by kernel_rfl) (by rfl) (fun W hW => ?_) ?_
      rotate_left 1
      · go_simp <;> with_reducible rfl
      simp only [Act.put, List.setIfInBounds_toArray, List.set_cons_succ, List.set_cons_zero]
      refine flow_val ?_ rfl (by kernel_rfl) (by rfl) (fun W hW => ?_) ?_
      rotate_left 1
      · go_simp <;> with_reducible rfl
      simp only [Act.put, List.setIfInBounds_toArray, List.set_cons_succ, List.set_cons_zero]
      refine flow_val ?_ rfl (by kernel_rfl) (by rfl) (fun W hW => ?_) ?_
      rotate_left 1
      · go_simp <;> with_reducible rfl
      simp only [Act.put, List.setIfInBounds_toArray, List.set_cons_succ, List.set_cons_zero]
      refine flow_done ?_
      intro W hW
      subst hW
      go_wp2
      go_ret2
      exact ⟨rfl, (Below.refl _ _).drew⟩
  · have hv : Hid (decide (0 ≤ n ∧ n ≤ x) = false) := Lib.hid (by simp [h0])
    have h2 : decide (0 ≤ n) = false := by simp [h0]
    rw [hv.out]
    clear h0
    go_enter Try.func37, Try.ntmps37
    go_wp2_with fail
    refine wp_region_flow (fun W => W = w.drew) [0, 1, 2, 3, 4, 5, 6, 7, 8, 9, 10, 11] (by kernel_rfl) (by kernel_rfl) (by kernel_rfl) (rfl) ?_
    refine flow_val ?_ rfl (by kernel_rfl) (by rfl) (fun W hW => ?_) ?_
    rotate_left 1
    · go_simp <;> with_reducible rfl
    simp only [Act.put, List.setIfInBounds_toArray, List.set_cons_succ, List.set_cons_zero]
    refine flow_val ?_ rfl (by kernel_rfl) (by rfl) (fun W hW => ?_) ?_
    rotate_left 1
    · subst hW; have c0 := HB.out; go_simp <;> with_reducible rfl
    simp only [Act.put, List.setIfInBounds_toArray, List.set_cons_succ, List.set_cons_zero]
    refine flow_val ?_ rfl (by kernel_rfl) (by rfl) (fun W hW => ?_) ?_
    rotate_left 1
    · go_simp <;> with_reducible rfl
    simp only [Act.put, List.setIfInBounds_toArray, List.set_cons_succ, List.set_cons_zero]
    refine flow_val ?_ rfl (by kernel_rfl) (by rfl) (fun W hW => ?_) ?_
    rotate_left 1
    · subst hW; have c0 := HB.out; go_simp <;> with_reducible rfl
    simp only [Act.put, List.setIfInBounds_toArray, List.set_cons_succ, List.set_cons_zero]
    refine flow_val ?_ rfl (by kernel_rfl) (by rfl) (fun W hW => ?_) ?_
    rotate_left 1
    · go_simp <;> with_reducible rfl
    simp only [Act.put, List.setIfInBounds_toArray, List.set_cons_succ, List.set_cons_zero]
    refine flow_val ?_ rfl (by kernel_rfl) (by rfl) (fun W hW => ?_) ?_
    rotate_left 1
    · go_simp <;> with_reducible rfl
    simp only [Act.put, List.setIfInBounds_toArray, List.set_cons_succ, List.set_cons_zero]
    refine flow_off rfl (by kernel_rfl) (by rfl) ?_
    simp only [Act.put, List.setIfInBounds_toArray, List.set_cons_succ, List.set_cons_zero]
    refine flow_off rfl (by kernel_rfl) (by rfl) ?_
    simp only [Act.put, List.setIfInBounds_toArray, List.set_cons_succ, List.set_cons_zero]
    refine flow_off rfl (by kernel_rfl) (by rfl) ?_
    simp only [Act.put, List.setIfInBounds_toArray, List.set_cons_succ, List.set_cons_zero]
    refine flow_val ?_ rfl (by kernel_rfl) (by rfl) (fun W hW => ?_) ?_
    rotate_left 1
    · go_simp <;> with_reducible rfl
    simp only [Act.put, List.setIfInBounds_toArray, List.set_cons_succ, List.set_cons_zero]
    refine flow_val ?_ rfl (by kernel_rfl) (by rfl) (fun W hW => ?_) ?_
    rotate_left 1
    · go_simp <;> with_reducible rfl
    simp only [Act.put, List.setIfInBounds_toArray, List.set_cons_succ, List.set_cons_zero]
    refine flow_val ?_ rfl (by kernel_rfl) (by rfl) (fun W hW => ?_) ?_
    rotate_left 1
    · go_simp <;> with_reducible rfl
    simp only [Act.put, List.setIfInBounds_toArray, List.set_cons_succ, List.set_cons_zero]
    refine flow_done ?_
    intro W hW
    subst hW
    go_wp2
    go_ret2
    exact ⟨rfl, (Below.refl _ _).drew⟩

theorem mostc_nil (i : Int) (b : Nat) (w : World) : Calls Try.prog 35 #[.pointer none, .int .i64 i, .func (.func 36) #[] #[.pointer (some ⟨b, 0, none⟩)]] w fun e w' => e = .returned (.bool false) ∧ w = w' := by
  go_enter Try.func35, Try.ntmps35
  go_wp2_with fail
  refine (at_nil i w).mono ?_
  rintro e w1 ⟨rfl, rfl⟩
  go_wp2
  go_ret
  exact ⟨rfl, rfl⟩
theorem mostc_out (p : Nat) (i : Int) (hi : inT i = false) (b : Nat) (w : World) : Calls Try.prog 35 #[.pointer (some ⟨p, 0, none⟩), .int .i64 i, .func (.func 36) #[] #[.pointer (some ⟨b, 0, none⟩)]] w fun e w' => e = .returned (.bool false) ∧ w = w' := by
  go_enter Try.func35, Try.ntmps35
  go_wp2_with fail
  refine (at_out p i hi w).mono ?_
  rintro e w1 ⟨rfl, rfl⟩
  clear hi
  go_wp2
  go_ret
  exact ⟨rfl, rfl⟩
set_option maxRecDepth 100000 in
set_option maxHeartbeats 1000000 in
theorem mostc_in (p : Nat) (xs : List Int) (d : Bool) (i : Nat) (hi : i < 8) (n : Int) (b : Nat) (w : World) (h : IsTal w p xs d) (hb : w.cell? ⟨b, 0, none⟩ = some (.int .i64 n)) (x : Int) (hx : xs.getD i 0 = x) :
    Calls Try.prog 35 #[.pointer (some ⟨p, 0, none⟩), .int .i64 i, .func (.func 36) #[] #[.pointer (some ⟨b, 0, none⟩)]] w fun e w' => e = .returned (.bool (decide (x < n))) ∧ IsTal w' p (if (decide (x < n)) = true then xs.set i (n) else xs) d ∧ Fr 0 [] [p] w w' := by
  have hc := h.cellD hi
  rw [hx] at hc
  have HL := Lib.hid (aload_any p i x w hc)
  have HT := Lib.hid h
  have hto := most1_any x n b w hb
  obtain ⟨N, hN⟩ : ∃ N, (n) = N := ⟨_, rfl⟩
  obtain ⟨M, hM⟩ : ∃ M, (decide (x < n) : Bool) = M := ⟨_, rfl⟩
  rw [hM, hN] at hto
  rw [hM, hN]
  have HTO := Lib.hid hto
  clear h hc hN hM hto
  go_enter Try.func35, Try.ntmps35
  go_wp2_with fail
  refine (at_in p i hi w).mono ?_
  rintro e w1 ⟨rfl, rfl⟩
  go_wp2_with fail
  go_loopw [8] (fun _ wr => w = wr) (fun _ _ => 0)
  case atStart => rfl
  case round =>
    obtain rfl := hrel
    go_wp2_with fail
    refine HL.out.mono ?_
    rintro e w1 ⟨rfl, rfl⟩
    go_wp2_with fail
    refine HTO.out.mono ?_
    rintro e w1 ⟨rfl, h1⟩
    have hT1 := HT.out.below h1
    have hc1 := hT1.cellD hi
    rw [hx] at hc1
    cases M
    · have HT1 := Lib.hid hT1
      have HF := Lib.hid (Fr.of_below (B := 0) (T := []) (S := [p]) h1)
      clear hT1 hc1 h1
      go_wp2
      go_ret
      exact ⟨rfl, HT1.out, HF.out⟩
    · have HC := Lib.hid (acas_any p i x N w1 hc1 (hT1.frozen i))
      have HT1 := Lib.hid (hT1.set hi N)
      have HF := Lib.hid ((Fr.of_below (B := 0) (T := []) (S := [p]) h1).setCell (p := ⟨p, i, none⟩) (.int .i64 N) (Nat.zero_le _) (.inl (by simp)))
      clear hT1 hc1 h1
      go_wp2_with fail
      refine HC.out.mono ?_
      rintro e w2 ⟨rfl, hw2⟩
      rw [hw2]
      clear hw2
      go_wp2
      go_ret
      exact ⟨rfl, HT1.out, HF.out⟩

theorem takec_nil (i : Int) (b : Nat) (w : World) : Calls Try.prog 35 #[.pointer none, .int .i64 i, .func (.func 37) #[] #[.pointer (some ⟨b, 0, none⟩)]] w fun e w' => e = .returned (.bool false) ∧ w = w' := by
  go_enter Try.func35, Try.ntmps35
  go_wp2_with fail
  refine (at_nil i w).mono ?_
  rintro e w1 ⟨rfl, rfl⟩
  go_wp2
  go_ret
  exact ⟨rfl, rfl⟩
theorem takec_out (p : Nat) (i : Int) (hi : inT i = false) (b : Nat) (w : World) : Calls Try.prog 35 #[.pointer (some ⟨p, 0, none⟩), .int .i64 i, .func (.func 37) #[] #[.pointer (some ⟨b, 0, none⟩)]] w fun e w' => e = .returned (.bool false) ∧ w = w' := by
  go_enter Try.func35, Try.ntmps35
  go_wp2_with fail
  refine (at_out p i hi w).mono ?_
  rintro e w1 ⟨rfl, rfl⟩
  clear hi
  go_wp2
  go_ret
  exact ⟨rfl, rfl⟩
set_option maxRecDepth 100000 in
set_option maxHeartbeats 1000000 in
theorem takec_in (p : Nat) (xs : List Int) (d : Bool) (i : Nat) (hi : i < 8) (n : Int) (b : Nat) (w : World) (h : IsTal w p xs d) (hb : w.cell? ⟨b, 0, none⟩ = some (.int .i64 n)) (x : Int) (hx : xs.getD i 0 = x) :
    Calls Try.prog 35 #[.pointer (some ⟨p, 0, none⟩), .int .i64 i, .func (.func 37) #[] #[.pointer (some ⟨b, 0, none⟩)]] w fun e w' => e = .returned (.bool (decide (0 ≤ n ∧ n ≤ x))) ∧ IsTal w' p (if (decide (0 ≤ n ∧ n ≤ x)) = true then xs.set i (wrapI (x - n)) else xs) d ∧ Fr 0 [] [p] w w' := by
  have hc := h.cellD hi
  rw [hx] at hc
  have HL := Lib.hid (aload_any p i x w hc)
  have HT := Lib.hid h
  have hto := take1_any x n b w hb
  obtain ⟨N, hN⟩ : ∃ N, (wrapI (x - n)) = N := ⟨_, rfl⟩
  obtain ⟨M, hM⟩ : ∃ M, (decide (0 ≤ n ∧ n ≤ x) : Bool) = M := ⟨_, rfl⟩
  rw [hM, hN] at hto
  rw [hM, hN]
  have HTO := Lib.hid hto
  clear h hc hN hM hto
  go_enter Try.func35, Try.ntmps35
  go_wp2_with fail
  refine (at_in p i hi w).mono ?_
  rintro e w1 ⟨rfl, rfl⟩
  go_wp2_with fail
  go_loopw [8] (fun _ wr => w = wr) (fun _ _ => 0)
  case atStart => rfl
  case round =>
    obtain rfl := hrel
    go_wp2_with fail
    refine HL.out.mono ?_
    rintro e w1 ⟨rfl, rfl⟩
    go_wp2_with fail
    refine HTO.out.mono ?_
    rintro e w1 ⟨rfl, h1⟩
    have hT1 := HT.out.below h1
    have hc1 := hT1.cellD hi
    rw [hx] at hc1
    cases M
    · have HT1 := Lib.hid hT1
      have HF := Lib.hid (Fr.of_below (B := 0) (T := []) (S := [p]) h1)
      clear hT1 hc1 h1
      go_wp2
      go_ret
      exact ⟨rfl, HT1.out, HF.out⟩
    · have HC := Lib.hid (acas_any p i x N w1 hc1 (hT1.frozen i))
      have HT1 := Lib.hid (hT1.set hi N)
      have HF := Lib.hid ((Fr.of_below (B := 0) (T := []) (S := [p]) h1).setCell (p := ⟨p, i, none⟩) (.int .i64 N) (Nat.zero_le _) (.inl (by simp)))
      clear hT1 hc1 h1
      go_wp2_with fail
      refine HC.out.mono ?_
      rintro e w2 ⟨rfl, hw2⟩
      rw [hw2]
      clear hw2
      go_wp2
      go_ret
      exact ⟨rfl, HT1.out, HF.out⟩

theorem most_nil (i n : Int) (w : World) : Calls Try.prog 22 #[.pointer none, .int .i64 i, .int .i64 n] w fun e w' => e = .returned (.bool false) ∧ Below w.heap.size w w' := by
  have hmf : ∀ (fn : Fn) (first cap : Array Value) (w : World), (Instr.makeFunc fn first cap).run Try.prog w = .ok (.func fn first cap) w := fun _ _ _ _ => rfl
  have HB : Hid (Below w.heap.size w (w.alloc (.cells #[.int .i64 n] 3))) := Lib.hid ((Below.refl _ w).alloc (Nat.le_refl _) _)
  go_enter Try.func22, Try.ntmps22
  go_wp2_with fail
  refine (mostc_nil i _ _).mono ?_
  rintro e w1 ⟨rfl, rfl⟩
  go_wp2
  go_ret
  exact ⟨rfl, HB.out⟩
theorem most_out (p : Nat) (i n : Int) (hi : inT i = false) (w : World) : Calls Try.prog 22 #[.pointer (some ⟨p, 0, none⟩), .int .i64 i, .int .i64 n] w fun e w' => e = .returned (.bool false) ∧ Below w.heap.size w w' := by
  have hmf : ∀ (fn : Fn) (first cap : Array Value) (w : World), (Instr.makeFunc fn first cap).run Try.prog w = .ok (.func fn first cap) w := fun _ _ _ _ => rfl
  have HB : Hid (Below w.heap.size w (w.alloc (.cells #[.int .i64 n] 3))) := Lib.hid ((Below.refl _ w).alloc (Nat.le_refl _) _)
  go_enter Try.func22, Try.ntmps22
  go_wp2_with fail
  refine (mostc_out p i hi _ _).mono ?_
  rintro e w1 ⟨rfl, rfl⟩
  clear hi
  go_wp2
  go_ret
  exact ⟨rfl, HB.out⟩
theorem most_in (p : Nat) (xs : List Int) (d : Bool) (i : Nat) (hi : i < 8) (n : Int) (w : World) (h : IsTal w p xs d) (x : Int) (hx : xs.getD i 0 = x) :
    Calls Try.prog 22 #[.pointer (some ⟨p, 0, none⟩), .int .i64 i, .int .i64 n] w fun e w' => e = .returned (.bool (decide (x < n))) ∧ IsTal w' p (if (decide (x < n)) = true then xs.set i (n) else xs) d ∧ Fr 0 [] [p] w w' := by
  have hmf : ∀ (fn : Fn) (first cap : Array Value) (w : World), (Instr.makeFunc fn first cap).run Try.prog w = .ok (.func fn first cap) w := fun _ _ _ _ => rfl
  have HB : Hid (Below w.heap.size w (w.alloc (.cells #[.int .i64 n] 3))) := Lib.hid ((Below.refl _ w).alloc (Nat.le_refl _) _)
  have hX := mostc_in p xs d i hi n w.heap.size _ (h.below HB.out) (cell_at (block_new w (.cells #[.int .i64 n] 3)) 0) x hx
  obtain ⟨M, hM⟩ : ∃ M, (decide (x < n) : Bool) = M := ⟨_, rfl⟩
  obtain ⟨ys, hY⟩ : ∃ ys, (if M = true then xs.set i (n) else xs) = ys := ⟨_, rfl⟩
  rw [hM, hY] at hX
  rw [hM, hY]
  have HX := Lib.hid hX
  clear h hx hM hY hX
  go_enter Try.func22, Try.ntmps22
  go_wp2_with fail
  refine HX.out.mono ?_
  rintro e w1 ⟨rfl, hT, hf⟩
  have HT := Lib.hid hT
  have HF := Lib.hid ((Fr.of_below (B := 0) (T := []) (S := [p]) HB.out).trans hf)
  clear hT hf
  go_wp2
  go_ret
  exact ⟨rfl, HT.out, HF.out⟩

theorem take_nil (i n : Int) (w : World) : Calls Try.prog 23 #[.pointer none, .int .i64 i, .int .i64 n] w fun e w' => e = .returned (.bool false) ∧ Below w.heap.size w w' := by
  have hmf : ∀ (fn : Fn) (first cap : Array Value) (w : World), (Instr.makeFunc fn first cap).run Try.prog w = .ok (.func fn first cap) w := fun _ _ _ _ => rfl
  have HB : Hid (Below w.heap.size w (w.alloc (.cells #[.int .i64 n] 3))) := Lib.hid ((Below.refl _ w).alloc (Nat.le_refl _) _)
  go_enter Try.func23, Try.ntmps23
  go_wp2_with fail
  refine (takec_nil i _ _).mono ?_
  rintro e w1 ⟨rfl, rfl⟩
  go_wp2
  go_ret
  exact ⟨rfl, HB.out⟩
theorem take_out (p : Nat) (i n : Int) (hi : inT i = false) (w : World) : Calls Try.prog 23 #[.pointer (some ⟨p, 0, none⟩), .int .i64 i, .int .i64 n] w fun e w' => e = .returned (.bool false) ∧ Below w.heap.size w w' := by
  have hmf : ∀ (fn : Fn) (first cap : Array Value) (w : World), (Instr.makeFunc fn first cap).run Try.prog w = .ok (.func fn first cap) w := fun _ _ _ _ => rfl
  have HB : Hid (Below w.heap.size w (w.alloc (.cells #[.int .i64 n] 3))) := Lib.hid ((Below.refl _ w).alloc (Nat.le_refl _) _)
  go_enter Try.func23, Try.ntmps23
  go_wp2_with fail
  refine (takec_out p i hi _ _).mono ?_
  rintro e w1 ⟨rfl, rfl⟩
  clear hi
  go_wp2
  go_ret
  exact ⟨rfl, HB.out⟩
theorem take_in (p : Nat) (xs : List Int) (d : Bool) (i : Nat) (hi : i < 8) (n : Int) (w : World) (h : IsTal w p xs d) (x : Int) (hx : xs.getD i 0 = x) :
    Calls Try.prog 23 #[.pointer (some ⟨p, 0, none⟩), .int .i64 i, .int .i64 n] w fun e w' => e = .returned (.bool (decide (0 ≤ n ∧ n ≤ x))) ∧ IsTal w' p (if (decide (0 ≤ n ∧ n ≤ x)) = true then xs.set i (wrapI (x - n)) else xs) d ∧ Fr 0 [] [p] w w' := by
  have hmf : ∀ (fn : Fn) (first cap : Array Value) (w : World), (Instr.makeFunc fn first cap).run Try.prog w = .ok (.func fn first cap) w := fun _ _ _ _ => rfl
  have HB : Hid (Below w.heap.size w (w.alloc (.cells #[.int .i64 n] 3))) := Lib.hid ((Below.refl _ w).alloc (Nat.le_refl _) _)
  have hX := takec_in p xs d i hi n w.heap.size _ (h.below HB.out) (cell_at (block_new w (.cells #[.int .i64 n] 3)) 0) x hx
  obtain ⟨M, hM⟩ : ∃ M, (decide (0 ≤ n ∧ n ≤ x) : Bool) = M := ⟨_, rfl⟩
  obtain ⟨ys, hY⟩ : ∃ ys, (if M = true then xs.set i (wrapI (x - n)) else xs) = ys := ⟨_, rfl⟩
  rw [hM, hY] at hX
  rw [hM, hY]
  have HX := Lib.hid hX
  clear h hx hM hY hX
  go_enter Try.func23, Try.ntmps23
  go_wp2_with fail
  refine HX.out.mono ?_
  rintro e w1 ⟨rfl, hT, hf⟩
  have HT := Lib.hid hT
  have HF := Lib.hid ((Fr.of_below (B := 0) (T := []) (S := [p]) HB.out).trans hf)
  clear hT hf
  go_wp2
  go_ret
  exact ⟨rfl, HT.out, HF.out⟩

theorem map_eight {W : World} {q : Nat} {y0 y1 y2 y3 y4 y5 y6 y7 : Int} (h : W.heap[q]? = some (.cells (([y0, y1, y2, y3, y4, y5, y6, y7].map i64v).toArray) 41 (0, 0))) :
    W.cell? ⟨q, 0, none⟩ = some (.int .i64 y0) ∧ W.cell? ⟨q, 1, none⟩ = some (.int .i64 y1) ∧ W.cell? ⟨q, 2, none⟩ = some (.int .i64 y2) ∧ W.cell? ⟨q, 3, none⟩ = some (.int .i64 y3) ∧ W.cell? ⟨q, 4, none⟩ = some (.int .i64 y4) ∧ W.cell? ⟨q, 5, none⟩ = some (.int .i64 y5) ∧ W.cell? ⟨q, 6, none⟩ = some (.int .i64 y6) ∧ W.cell? ⟨q, 7, none⟩ = some (.int .i64 y7) :=
  ⟨cell_at h 0, cell_at h 1, cell_at h 2, cell_at h 3, cell_at h 4, cell_at h 5, cell_at h 6, cell_at h 7⟩
/-- What All holds, k of them read. -/
def allK (ys : List Int) (k : Nat) : List Int := ys.take k ++ List.replicate (8 - k) 0
theorem allK_succ (ys : List Int) (k : Nat) (h8 : ys.length = 8) (hk : k < 8) : allK ys (k + 1) = (allK ys k).set k (ys.getD k 0) := by
  match ys, h8, k, hk with
  | [y0, y1, y2, y3, y4, y5, y6, y7], _, 0, _ => rfl
  | [y0, y1, y2, y3, y4, y5, y6, y7], _, 1, _ => rfl
  | [y0, y1, y2, y3, y4, y5, y6, y7], _, 2, _ => rfl
  | [y0, y1, y2, y3, y4, y5, y6, y7], _, 3, _ => rfl
  | [y0, y1, y2, y3, y4, y5, y6, y7], _, 4, _ => rfl
  | [y0, y1, y2, y3, y4, y5, y6, y7], _, 5, _ => rfl
  | [y0, y1, y2, y3, y4, y5, y6, y7], _, 6, _ => rfl
  | [y0, y1, y2, y3, y4, y5, y6, y7], _, 7, _ => rfl
theorem allK_len (ys : List Int) (k : Nat) (h8 : ys.length = 8) (hk : k ≤ 8) : (allK ys k).length = 8 := by simp [allK, h8]; omega

set_option maxRecDepth 100000 in
set_option maxHeartbeats 2000000 in
theorem all_core (tv : Value) (ys : List Int) (h8 : ys.length = 8) (w : World) (hget : ∀ k, k < 8 → ∀ W, Below w.heap.size w W → Calls Try.prog 25 #[tv, .int .i64 ((k : Nat) : Int)] W fun e w' => e = .returned (.int .i64 (ys.getD k 0)) ∧ W = w') :
    Calls Try.prog 26 #[tv] w fun e w' => e = .returned (.agg (ys.map i64v).toArray) ∧ Below w.heap.size w w' := by
  have HG := Lib.hid hget
  obtain ⟨y0, y1, y2, y3, y4, y5, y6, y7, hys⟩ : ∃ y0 y1 y2 y3 y4 y5 y6 y7, ys = [y0, y1, y2, y3, y4, y5, y6, y7] := by
    match ys, h8 with
    | [y0, y1, y2, y3, y4, y5, y6, y7], _ => exact ⟨y0, y1, y2, y3, y4, y5, y6, y7, rfl⟩
  have HYS := Lib.hid hys
  obtain ⟨w1, hw1⟩ : ∃ w1, (w.alloc (.cells #[.int .i64 0, .int .i64 0, .int .i64 0, .int .i64 0, .int .i64 0, .int .i64 0, .int .i64 0, .int .i64 0] 41)).alloc (.cells #[.int .i64 0, .int .i64 0, .int .i64 0, .int .i64 0, .int .i64 0, .int .i64 0, .int .i64 0, .int .i64 0] 41) = w1 := ⟨_, rfl⟩
  have hb1 : Below w.heap.size w w1 := by rw [← hw1]; exact ((Below.refl _ w).alloc (Nat.le_refl _) _).alloc (by simp) _
  have hr1 : w1.heap[w.heap.size]? = some (.cells #[.int .i64 0, .int .i64 0, .int .i64 0, .int .i64 0, .int .i64 0, .int .i64 0, .int .i64 0, .int .i64 0] 41 (0, 0)) := by
    rw [← hw1]
    exact (((Below.refl (w.heap.size + 1) (w.alloc (.cells #[.int .i64 0, .int .i64 0, .int .i64 0, .int .i64 0, .int .i64 0, .int .i64 0, .int .i64 0, .int .i64 0] 41))).alloc (by simp) _).block _ (by omega)).trans (block_new w _)
  have hq1 : w1.heap[w.heap.size + 1]? = some (.cells ((allK ys 0).map i64v).toArray 41 (0, 0)) := by
    rw [← hw1]
    have := block_new (w.alloc (.cells #[.int .i64 0, .int .i64 0, .int .i64 0, .int .i64 0, .int .i64 0, .int .i64 0, .int .i64 0, .int .i64 0] 41)) (.cells #[.int .i64 0, .int .i64 0, .int .i64 0, .int .i64 0, .int .i64 0, .int .i64 0, .int .i64 0, .int .i64 0] 41)
    simpa [allK, i64v, List.replicate] using this
  have HW1 := Lib.hid hw1
  have HB1 := Lib.hid hb1
  have HR1 := Lib.hid hr1
  have HQ1 := Lib.hid hq1
  clear hget hw1 hb1 hr1 hq1 hys
  go_enter Try.func26, Try.ntmps26
  go_wp2_with fail
  rw [HW1.out]
  go_loopw [5] (fun i wr => ∃ k : Nat, k ≤ 8 ∧ i = .int .i64 k ∧ wr.heap[w.heap.size]? = some (.cells #[.int .i64 0, .int .i64 0, .int .i64 0, .int .i64 0, .int .i64 0, .int .i64 0, .int .i64 0, .int .i64 0] 41 (0, 0)) ∧ wr.heap[w.heap.size + 1]? = some (.cells ((allK ys k).map i64v).toArray 41 (0, 0)) ∧ Below w.heap.size w wr) (fun i _ => 8 - (intOf i).toNat)
  case atStart => exact ⟨0, by omega, rfl, HR1.out, HQ1.out, HB1.out⟩
  case round =>
    obtain ⟨k, hk, rfl, hr, hq, hb⟩ := hrel
    by_cases hlt : k < 8
    · have hg := HG.out k hlt wr hb
      have HS := Lib.hid (allK_succ ys k h8 hlt)
      obtain ⟨y, hy⟩ : ∃ y, ys.getD k 0 = y := ⟨_, rfl⟩
      rw [hy] at hg HS
      have hlen := allK_len ys k h8 (by omega)
      have c0 : ∃ z, wr.cell? ⟨w.heap.size + 1, k, none⟩ = some (.int .i64 z) := ⟨(allK ys k)[k]'(by omega), by rw [cell_at hq]; simp [i64v, hlen, hlt]⟩
      obtain ⟨z, c0⟩ := c0
      have cf : wr.frozen? ⟨w.heap.size + 1, k, none⟩ = false := frozen_at hq k
      have HQ := Lib.hid (block_set hq k (.int .i64 y))
      have HR := Lib.hid (block_far hr (p := ⟨w.heap.size + 1, k, none⟩) (by simp) (.int .i64 y))
      have HB := Lib.hid (hb.setCell (p := ⟨w.heap.size + 1, k, none⟩) (by simp) (.int .i64 y))
      have HGK := Lib.hid hg
      have hk8 : (k : Int) < 8 := by omega
      clear hr hq hb hg hy hlen
      go_wp2_with fail
      refine HGK.out.mono ?_
      rintro e w2 ⟨rfl, rfl⟩
      go_wp2_with fail
      go_roundw
      case rel => exact ⟨k + 1, hlt, by go_num, HR.out, by rw [HQ.out, HS.out, List.map_set]; simp [i64v], HB.out⟩
      case measure => simp [intOf]; omega
    · obtain rfl : k = 8 := by omega
      have he : allK ys 8 = ys := by simp [allK, List.take_of_length_le (Nat.le_of_eq h8)]
      rw [he, HYS.out] at hq
      obtain ⟨c0, c1, c2, c3, c4, c5, c6, c7⟩ := map_eight hq
      obtain ⟨d0, d1, d2, d3, d4, d5, d6, d7⟩ := map_eight (y0 := 0) (y1 := 0) (y2 := 0) (y3 := 0) (y4 := 0) (y5 := 0) (y6 := 0) (y7 := 0) hr
      have f0 := frozen_at hr 0
      have f1 := frozen_at hr 1
      have f2 := frozen_at hr 2
      have f3 := frozen_at hr 3
      have f4 := frozen_at hr 4
      have f5 := frozen_at hr 5
      have f6 := frozen_at hr 6
      have f7 := frozen_at hr 7
      have HB := Lib.hid hb
      have HR := Lib.hid hr
      clear hr hq hb he
      go_wp2
      obtain ⟨w9, hw9⟩ : ∃ w9, ((((((((wr.setCell ⟨w.heap.size, 0, none⟩ (.int .i64 y0)).setCell ⟨w.heap.size, 1, none⟩ (.int .i64 y1)).setCell ⟨w.heap.size, 2, none⟩ (.int .i64 y2)).setCell ⟨w.heap.size, 3, none⟩ (.int .i64 y3)).setCell ⟨w.heap.size, 4, none⟩ (.int .i64 y4)).setCell ⟨w.heap.size, 5, none⟩ (.int .i64 y5)).setCell ⟨w.heap.size, 6, none⟩ (.int .i64 y6)).setCell ⟨w.heap.size, 7, none⟩ (.int .i64 y7)) = w9 := ⟨_, rfl⟩
      rw [hw9]
      have h9 : w9.heap[w.heap.size]? = some (.cells (([y0, y1, y2, y3, y4, y5, y6, y7].map i64v).toArray) 41 (0, 0)) := by
        rw [← hw9, block_set (block_set (block_set (block_set (block_set (block_set (block_set (block_set HR.out 0 _) 1 _) 2 _) 3 _) 4 _) 5 _) 6 _) 7 _]
        rfl
      have hb9 : Below w.heap.size w w9 := by
        rw [← hw9]
        exact HB.out.trans (((((((((Below.refl w.heap.size wr).setCell (p := ⟨w.heap.size, 0, none⟩) (Nat.le_refl _) _).setCell (p := ⟨w.heap.size, 1, none⟩) (Nat.le_refl _) _).setCell (p := ⟨w.heap.size, 2, none⟩) (Nat.le_refl _) _).setCell (p := ⟨w.heap.size, 3, none⟩) (Nat.le_refl _) _).setCell (p := ⟨w.heap.size, 4, none⟩) (Nat.le_refl _) _).setCell (p := ⟨w.heap.size, 5, none⟩) (Nat.le_refl _) _).setCell (p := ⟨w.heap.size, 6, none⟩) (Nat.le_refl _) _).setCell (p := ⟨w.heap.size, 7, none⟩) (Nat.le_refl _) _)
      obtain ⟨u0, u1, u2, u3, u4, u5, u6, u7⟩ := map_eight h9
      refine bodyPost_ret (v := .agg #[.int .i64 y0, .int .i64 y1, .int .i64 y2, .int .i64 y3, .int .i64 y4, .int .i64 y5, .int .i64 y6, .int .i64 y7]) (by simp [results, Try.f26, go_sem, u0, u1, u2, u3, u4, u5, u6, u7]) rfl ?_
      exact ⟨by rw [HYS.out]; rfl, hb9⟩
end Go.Proofs.Ytochhjdjfgiaeaa
