/- Package count: how parts are compared; a division whose high word is nothing. -/
import Derived.Test.YtochhjdjfgiaeaaNShare
import Derived.Test.YtochhjdjfgiaeaaFlow
namespace Go.Proofs.Ytochhjdjfgiaeaa
open Go.RowKit

/-- What Compare answers. -/
def cmpN (x y : Int) : Int := if x < y then -1 else if y < x then 1 else 0
theorem nan_any (x : Int) (w : World) : Calls Try.prog 45 #[.int .u64 x] w fun e w' => e = .returned (.bool false) ∧ w = w' := by
  go_enter Try.func45, Try.ntmps45
  go_wp2
  go_ret
  exact ⟨ret_bool (by simp), rfl⟩
theorem cmp_any (x y : Int) (w : World) : Calls Try.prog 32 #[.int .u64 x, .int .u64 y] w fun e w' => e = .returned (.int .i64 (cmpN x y)) ∧ w = w' := by
  go_enter Try.func32, Try.ntmps32
  go_wp2_with fail
  refine (nan_any x w).mono ?_
  rintro e w1 ⟨rfl, rfl⟩
  go_wp2_with fail
  refine (nan_any y w).mono ?_
  rintro e w1 ⟨rfl, rfl⟩
  by_cases h : x < y
  · have HC : Hid (cmpN x y = -1) := Lib.hid (by unfold cmpN; rw [if_pos h])
    go_wp2
    go_ret
    exact ⟨ret_int HC.out.symm, rfl⟩
  · by_cases h' : y < x
    · have HC : Hid (cmpN x y = 1) := Lib.hid (by unfold cmpN; rw [if_neg h, if_pos h'])
      go_wp2
      go_ret
      exact ⟨ret_int HC.out.symm, rfl⟩
    · have HC : Hid (cmpN x y = 0) := Lib.hid (by unfold cmpN; rw [if_neg h, if_neg h'])
      go_wp2
      go_ret
      exact ⟨ret_int HC.out.symm, rfl⟩
theorem share1_any (a b : Nat × Nat) (w : World) : Calls Try.prog 31 #[.agg #[.int .i64 (a.1 : Int), .int .u64 (a.2 : Int)], .agg #[.int .i64 (b.1 : Int), .int .u64 (b.2 : Int)]] w fun e w' => e = .returned (.int .i64 (cmpN b.2 a.2)) ∧ Below w.heap.size w w' := by
  have hb : Below w.heap.size w ((w.alloc (.cells #[.int .i64 (a.1 : Int), .int .u64 (a.2 : Int)] 56)).alloc (.cells #[.int .i64 (b.1 : Int), .int .u64 (b.2 : Int)] 56)) := ((Below.refl _ w).alloc (Nat.le_refl _) _).alloc (by simp) _
  have HB := Lib.hid hb
  clear hb
  go_enter Try.func31, Try.ntmps31
  go_wp2_with fail
  refine (cmp_any _ _ _).mono ?_
  rintro e w1 ⟨rfl, rfl⟩
  go_wp2
  go_ret
  exact ⟨rfl, HB.out⟩

set_option maxRecDepth 100000 in
/-- Division where the high word is nothing. -/
theorem div_small (l s : Nat) (hl : l < 18446744073709551616) (hs : 0 < s) (w : World) : Calls Try.prog 29 #[.int .u64 0, .int .u64 (l : Int), .int .u64 (s : Int)] w fun e w' => e = .returned (.tuple #[.int .u64 ((l / s : Nat) : Int), .int .u64 ((l % s : Nat) : Int)]) ∧ Below w.heap.size w w' := by
  have h0 : ((s : Int) == 0) = false := by rw [beq_eq_false_iff_ne]; omega

  obtain ⟨q, hq⟩ : ∃ q, l / s = q := ⟨_, rfl⟩
  obtain ⟨r, hr⟩ : ∃ r, l % s = r := ⟨_, rfl⟩
  have h2 : ((l : Int) / (s : Int)) = (q : Int) := by rw [← hq]; simp
  have h3 : ((l : Int).tmod (s : Int)) = (r : Int) := by rw [← hr]; exact (Int.tmod_eq_emod_of_nonneg (by omega)).trans (by simp)
  have hql : q ≤ l := by rw [← hq]; exact Nat.div_le_self l s
  have h5 : IntKind.u64.wrap (q : Int) = (q : Int) := by rw [IntKind.wrap_u64]; omega
  rw [hq, hr]
  have h4 : 0 ≤ (s : Int) := by omega
  have hs0 : ¬ s = 0 := by omega
  clear hq hr
  go_enter Try.func29, Try.ntmps29
  go_wp2_with fail
  refine wp_region_flow (fun W => W = w.drew) [0, 1, 2, 3, 4, 5, 6, 7] (by kernel_rfl) (by kernel_rfl) (by kernel_rfl) (rfl) ?_
  refine flow_val ?_ rfl (by kernel_rfl) (by rfl) (fun W hW => ?_) ?_
  rotate_left 1
  · go_simp <;> with_reducible rfl
  simp only [Act.put, List.setIfInBounds_toArray, List.set_cons_succ, List.set_cons_zero]
  refine flow_val ?_ rfl (by kernel_rfl) (by rfl) (fun W hW => ?_) ?_
  rotate_left 1
  · go_simp <;> with_reducible rfl
  simp only [Act.put, List.setIfInBounds_toArray, List.set_cons_succ, List.set_cons_zero]
  refine flow_val ?_ rfl (by kernel_rfl) (by rfl) (fun W hW => ?_) ?_
  rotate_left 1
  · go_simp <;> with_reducible rfl
  simp only [Act.put, List.setIfInBounds_toArray, List.set_cons_succ, List.set_cons_zero]
  refine flow_val ?_ rfl (by kernel_rfl) (by rfl) (fun W hW => ?_) ?_
  rotate_left 1
  · go_simp <;> with_reducible rfl
  simp only [Act.put, List.setIfInBounds_toArray, List.set_cons_succ, List.set_cons_zero]
  refine flow_val ?_ rfl (by kernel_rfl) (by rfl) (fun W hW => ?_) ?_
  rotate_left 1
  · go_simp <;> with_reducible rfl
  simp only [Act.put, List.setIfInBounds_toArray, List.set_cons_succ, List.set_cons_zero]
  refine flow_val ?_ rfl (by kernel_rfl) (by rfl) (fun W hW => ?_) ?_
  rotate_left 1
  · go_simp <;> with_reducible rfl
  simp only [Act.put, List.setIfInBounds_toArray, List.set_cons_succ, List.set_cons_zero]
  refine flow_val ?_ rfl (by kernel_rfl) (by rfl) (fun W hW => ?_) ?_
  rotate_left 1
  · go_simp <;> with_reducible rfl
  simp only [Act.put, List.setIfInBounds_toArray, List.set_cons_succ, List.set_cons_zero]
  refine flow_val ?_ rfl (by kernel_rfl) (by rfl) (fun W hW => ?_) ?_
  rotate_left 1
  · go_simp <;> with_reducible rfl
  simp only [Act.put, List.setIfInBounds_toArray, List.set_cons_succ, List.set_cons_zero]
  refine flow_done ?_
  intro W hW
  subst hW
  go_wp2
  go_ret2
  exact ⟨rfl, (Below.refl _ _).drew⟩
end Go.Proofs.Ytochhjdjfgiaeaa
