/- The walk of the law CrcEmpty. -/
import Derived.Test.YtchdfdimaopdeaaQAll
import Derived.Test.YtchdfdimaopdeaaQLives
import Derived.Deep.OwnRows
namespace Go.Proofs.Ytchdfdimaopdeaa
open Go.RowKit

theorem loN_zeros : ∀ n : Nat, loN (List.replicate n 0) = 0
  | 0 => rfl
  | n + 1 => by rw [List.replicate_succ, loN_cons, loN_zeros n]; simp
theorem open_zeros (s : Int) (n : Nat) : openN s (List.replicate n 0) = none := by
  unfold openN
  by_cases h : (List.replicate n 0).length < 16
  · rw [if_pos h]
  · rw [if_neg h]
    have e : (List.replicate n 0).take 4 = List.replicate (min 4 n) 0 := by rw [List.take_replicate]
    simp only [e, loN_zeros]
    rw [if_pos]
    exact .inl trivial
theorem made_zeros (n : Nat) : madeCells #[.int .u8 0] n = ((List.replicate n 0).map u8v).toArray := by
  apply Array.ext
  · simp [madeCells]
  · intro i h1 h2
    simp [madeCells, u8v, Nat.mod_one]
theorem zeros_byte (n : Nat) : ∀ b ∈ List.replicate n 0, b < 256 := by
  intro b hb
  rw [List.mem_replicate] at hb
  omega

set_option maxRecDepth 100000 in
set_option maxHeartbeats 800000 in
theorem empty_less (s : Nat) (n : Int) (w : World) (h : n < 0) : Calls Try.prog 10 #[.int .u64 s, .int .i64 n] w fun e w' => e = .returned (.bool true) ∧ Below w.heap.size w w' := by
  go_enter Try.func10, Try.ntmps10
  go_wp2_with fail
  refine (lives_any _).mono ?_
  rintro e w1 ⟨rfl, hb1⟩
  go_wp2
  go_ret
  exact ⟨rfl, hb1⟩
set_option maxRecDepth 100000 in
set_option maxHeartbeats 800000 in
theorem empty_more (s : Nat) (n : Int) (w : World) (h : 2000 < n) : Calls Try.prog 10 #[.int .u64 s, .int .i64 n] w fun e w' => e = .returned (.bool true) ∧ Below w.heap.size w w' := by
  have h0 : ¬ n < 0 := by omega
  go_enter Try.func10, Try.ntmps10
  go_wp2_with fail
  refine (lives_any _).mono ?_
  rintro e w1 ⟨rfl, hb1⟩
  go_wp2
  go_ret
  exact ⟨rfl, hb1⟩

set_option maxRecDepth 100000 in
set_option maxHeartbeats 800000 in
theorem empty_main (s : Nat) (n : Nat) (w : World) (h : n ≤ 2000) : Calls Try.prog 10 #[.int .u64 s, .int .i64 n] w fun e w' => e = .returned (.bool true) ∧ Below w.heap.size w w' := by
  have h0 : decide ((n : Int) < 0) = false := by simp
  have h1 : ¬ (2000 : Int) < n := by omega
  obtain ⟨N, hN⟩ : ∃ N, w.heap.size = N := ⟨_, rfl⟩
  have HNN := Lib.hid hN
  go_enter Try.func10, Try.ntmps10
  go_wp2_with fail
  refine (new_any w).mono ?_
  rintro e w1 ⟨rfl, ht1, hb1⟩
  rw [hN] at ht1 ⊢
  have HT1 := Lib.hid ht1
  have HB1 := Lib.hid hb1
  clear hN ht1 hb1
  have hmk := run_make_row' (P := Try.prog) 23 5 (.int .u8 0) 1 Try.underlying23 Try.infoByte rfl .i64 .i64 n (by omega) (by omega) w1
  obtain ⟨w2, hw2⟩ : ∃ w2, w1.alloc (.cells (madeCells #[.int .u8 0] n) 5) = w2 := ⟨_, rfl⟩
  have hk2 : w2.heap[w1.heap.size]? = some (.cells (madeCells #[.int .u8 0] n) 5 (0, 0)) := by rw [← hw2]; exact block_new _ _
  have hb2 : Below w1.heap.size w1 w2 := by rw [← hw2]; exact (Below.refl _ _).alloc (Nat.le_refl _) _
  rw [hw2] at hmk
  have HV2 := Lib.hid (Bs.of_cells (n := n) hk2 (made_zeros n) (by simp) (by simp; unfold maxLen; omega))
  have HT2 := Lib.hid (HT1.out.below hb2)
  have F2 := Lib.hid (Fr.of_below (B := 0) (T := []) (S := [N]) hb2)
  clear hk2 hb2 hw2
  go_wp2_with fail
  refine (open_all N s _ (List.replicate n 0) (zeros_byte n) (by simp; omega) w2 HT2.out HV2.out).mono ?_
  rintro e w3 ⟨hr, ht3, hf3⟩
  unfold OpenR at hr
  rw [open_zeros] at hr
  obtain rfl := hr
  unfold badT
  have HT3 := Lib.hid ht3
  have F3 := Lib.hid (F2.out.trans hf3)
  clear ht3 hf3 hmk HV2 HT2 F2
  have hmk := run_make_row' (P := Try.prog) 23 5 (.int .u8 0) 1 Try.underlying23 Try.infoByte rfl .i64 .i64 n (by omega) (by omega) w3
  obtain ⟨w4, hw4⟩ : ∃ w4, w3.alloc (.cells (madeCells #[.int .u8 0] n) 5) = w4 := ⟨_, rfl⟩
  have hk4 : w4.heap[w3.heap.size]? = some (.cells (madeCells #[.int .u8 0] n) 5 (0, 0)) := by rw [← hw4]; exact block_new _ _
  have hb4 : Below w3.heap.size w3 w4 := by rw [← hw4]; exact (Below.refl _ _).alloc (Nat.le_refl _) _
  rw [hw4] at hmk
  have HV4 := Lib.hid (Bs.of_cells (n := n) hk4 (made_zeros n) (by simp) (by simp; unfold maxLen; omega))
  have HT4 := Lib.hid (HT3.out.below hb4)
  have F4 := Lib.hid (F3.out.then hb4)
  clear hk4 hb4 hw4
  go_wp2_with fail
  refine (all_tab N s _ (List.replicate n 0) (zeros_byte n) (by simp; omega) w4 HT4.out HV4.out).mono ?_
  rintro e w5 ⟨vo, rfl, hvo, ht5, hf5⟩
  rw [allN_none (open_zeros s n)] at hvo ⊢
  obtain ⟨Ao, co, hs, rfl, ko1, ko2, _⟩ := hvo
  have F5 := Lib.hid (F4.out.trans hf5)
  clear ht5 hf5 hmk HV4 HT4 F4 ko2
  go_wp2_with fail
  refine (lives_any w5).mono ?_
  rintro e w6 ⟨rfl, hb6⟩
  have F6 := Lib.hid (F5.out.then hb6)
  clear hb6
  go_wp2
  go_ret
  exact ⟨by simp, Fr.own2 HNN.out HB1.out F6.out⟩
theorem empty_any (s : Nat) (n : Int) (w : World) : Calls Try.prog 10 #[.int .u64 s, .int .i64 n] w fun e w' => e = .returned (.bool true) ∧ Below w.heap.size w w' := by
  by_cases h : n < 0
  · exact empty_less s n w h
  · by_cases h2 : 2000 < n
    · exact empty_more s n w h2
    · obtain ⟨m, rfl⟩ : ∃ m : Nat, n = m := ⟨n.toNat, by omega⟩
      exact empty_main s m w (by omega)
end Go.Proofs.Ytchdfdimaopdeaa
