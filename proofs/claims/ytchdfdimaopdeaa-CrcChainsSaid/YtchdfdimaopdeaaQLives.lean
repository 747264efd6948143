/- What must come of every program, of layer 2: lives returns true. -/
import Derived.Test.YtchdfdimaopdeaaQRFrame
import Derived.Lib.SlBytesConst
namespace Go.Proofs.Ytchdfdimaopdeaa
open Go.RowKit

theorem Bs.of_cells {w : World} {g n : Nat} {bs : List Nat} {cs : Array Value} {t : TypeId} {f : Nat × Nat} (h : w.heap[g]? = some (.cells cs t f)) (hc : cs = (bs.map u8v).toArray) (hn : bs.length = n) (hl : bs.length ≤ maxLen) : Bs w (.slice (some ⟨g, 0, none⟩) n n) bs := by
  subst hn
  refine ⟨_, bs.length, rfl, Nat.le_refl _, hl, by simp, fun _ => ⟨g, 0, rfl, lt_of_block h, fun j u hu => ?_⟩⟩
  rw [cell_at h, Nat.zero_add, hc]
  simpa using hu
theorem sum_known : onN 0 [49, 50, 51, 52, 53, 54, 55, 56, 57] = 3808858755 := by decide +kernel
theorem mix_six : (mixI 5 [97, 98, 99] == mixI 6 [97, 98, 99]) = false := by decide +kernel
theorem open_six : openN 6 (frameN 5 [97, 98, 99]) = none := by
  have h := mix_six
  rw [mixN_eq, mixN_eq] at h
  have hne : mixN 6 [97, 98, 99] ≠ mixN 5 [97, 98, 99] := by
    intro e
    rw [e] at h
    simp at h
  have e := openN_frame 5 [97, 98, 99] [] (by simp)
  rw [List.append_nil] at e
  unfold openN at e ⊢
  by_cases h1 : (frameN 5 [97, 98, 99]).length < 16
  · rw [if_pos h1]
  · rw [if_neg h1] at e ⊢
    simp only at e ⊢
    split at e
    · cases e
    · injection e with e
      injection e with e1 e2
      rw [e1, e2, if_pos]
      exact .inr (.inr (.inr (.inr hne)))

set_option maxRecDepth 100000 in
set_option maxHeartbeats 2000000 in
theorem lives_any (w : World) : Calls Try.prog 12 #[] w fun e w' => e = .returned (.bool true) ∧ Below w.heap.size w w' := by
  obtain ⟨N, hN⟩ : ∃ N, w.heap.size = N := ⟨_, rfl⟩
  have HN := Lib.hid hN
  go_enter Try.func12, Try.ntmps12
  go_wp2_with fail
  refine (new_any w).mono ?_
  rintro e w1 ⟨rfl, ht1, hb1⟩
  rw [hN] at ht1 ⊢
  have HT1 := Lib.hid ht1
  have HB1 := Lib.hid hb1
  clear hN ht1 hb1
  have hcv := Lib.run_convert_bytes_const (P := Try.prog) w1 23 5 #[.int .u8 97, .int .u8 98, .int .u8 99] 3 3 Try.underlying23 Try.underlying5
  obtain ⟨w2, hw2⟩ : ∃ w2, w1.alloc (.cells #[.int .u8 97, .int .u8 98, .int .u8 99] 5 (3, 4)) = w2 := ⟨_, rfl⟩
  rw [show (#[.int .u8 97, .int .u8 98, .int .u8 99] : Array Value).size = 3 from rfl, hw2] at hcv
  have hb2 : Below w1.heap.size w1 w2 := by rw [← hw2]; exact (Below.refl _ _).alloc (Nat.le_refl _) _
  have hk2 : w2.heap[w1.heap.size]? = some (.cells #[.int .u8 97, .int .u8 98, .int .u8 99] 5 (3, 4)) := by rw [← hw2]; exact block_new _ _
  have HBS := Lib.hid (Bs.of_cells (bs := [97, 98, 99]) (n := 3) hk2 rfl rfl (by unfold maxLen; simp))
  have HT2 := Lib.hid (HT1.out.below hb2)
  have F2 := Lib.hid (Fr.of_below (B := 0) (T := []) (S := [N]) hb2)
  clear hb2 hk2
  go_wp2_with fail
  clear hw2 hcv
  refine (frame_tab N 5 _ [97, 98, 99] (by decide) (by simp) w2 HT2.out HBS.out).mono ?_
  rintro e w3 ⟨⟨vf, rfl, hvf⟩, ht3, hf3⟩
  have hlf : (frameN 5 [97, 98, 99]).length = 19 := by rw [frameN, List.length_append, topN_length]; rfl
  obtain ⟨Fr_, hFr⟩ : ∃ F, frameN 5 [97, 98, 99] = F := ⟨_, rfl⟩
  have hFb : ∀ b ∈ Fr_, b < 256 := by
    rw [← hFr]
    intro b hb
    unfold frameN topN at hb
    rcases List.mem_append.1 hb with hb | hb
    · rcases List.mem_append.1 hb with hb | hb
      · rcases List.mem_append.1 hb with hb | hb
        · exact hiN_byte _ _ b hb
        · exact hiN_byte _ _ b hb
      · exact hiN_byte _ _ b hb
    · revert b; decide
  have ho5 : openN 5 Fr_ = some ([97, 98, 99], mixN 5 [97, 98, 99]) := by
    have := openN_frame 5 [97, 98, 99] [] (by simp)
    rwa [List.append_nil, hFr] at this
  have ho6 : openN 6 Fr_ = none := by rw [← hFr]; exact open_six
  rw [hFr] at hlf hvf
  obtain ⟨m, hm⟩ : ∃ m, mixN 5 [97, 98, 99] = m := ⟨_, rfl⟩
  rw [hm] at ho5
  simp only [hm]
  have HO5 := Lib.hid ho5
  have HO6 := Lib.hid ho6
  have HLF := Lib.hid hlf
  have HFB := Lib.hid hFb
  have HVF := Lib.hid hvf
  have HT3 := Lib.hid ht3
  have F3 := Lib.hid (F2.out.trans hf3)
  clear hFr ho5 ho6 hlf hFb hvf ht3 hf3 hm HT2 F2 HBS
  go_wp2_with fail
  refine (open_tab N 5 _ Fr_ HFB.out (by rw [HLF.out]; omega) w3 HT3.out HVF.out (by rw [HLF.out]; omega)).mono ?_
  rintro e w4 ⟨hr, ht4, hf4⟩
  unfold OpenR at hr
  rw [HO5.out] at hr
  obtain ⟨vx, rfl, hvx⟩ := hr
  unfold goodT
  have HVX := Lib.hid (Bs.of_own hvx)
  have HT4 := Lib.hid ht4
  have HVF4 := Lib.hid (HVF.out.tab HT3.out hf4)
  have F4 := Lib.hid (F3.out.trans hf4)
  clear hvx ht4 hf4 HT3 F3
  go_wp2_with fail
  refine (open_tab N 6 _ Fr_ HFB.out (by rw [HLF.out]; omega) w4 HT4.out HVF4.out (by rw [HLF.out]; omega)).mono ?_
  rintro e w5 ⟨hr, ht5, hf5⟩
  unfold OpenR at hr
  rw [HO6.out] at hr
  obtain rfl := hr
  unfold badT
  have HVX5 := Lib.hid (HVX.out.tab HT4.out hf5)
  have HT5 := Lib.hid ht5
  have F5 := Lib.hid (F4.out.trans hf5)
  clear ht5 hf5 HT4 F4
  have hcv := Lib.run_convert_bytes_const (P := Try.prog) w5 23 5 #[.int .u8 49, .int .u8 50, .int .u8 51, .int .u8 52, .int .u8 53, .int .u8 54, .int .u8 55, .int .u8 56, .int .u8 57] 9 9 Try.underlying23 Try.underlying5
  obtain ⟨w6, hw6⟩ : ∃ w6, w5.alloc (.cells #[.int .u8 49, .int .u8 50, .int .u8 51, .int .u8 52, .int .u8 53, .int .u8 54, .int .u8 55, .int .u8 56, .int .u8 57] 5 (9, 10)) = w6 := ⟨_, rfl⟩
  rw [show (#[.int .u8 49, .int .u8 50, .int .u8 51, .int .u8 52, .int .u8 53, .int .u8 54, .int .u8 55, .int .u8 56, .int .u8 57] : Array Value).size = 9 from rfl, hw6] at hcv
  have hb6 : Below w5.heap.size w5 w6 := by rw [← hw6]; exact (Below.refl _ _).alloc (Nat.le_refl _) _
  have hk6 : w6.heap[w5.heap.size]? = some (.cells #[.int .u8 49, .int .u8 50, .int .u8 51, .int .u8 52, .int .u8 53, .int .u8 54, .int .u8 55, .int .u8 56, .int .u8 57] 5 (9, 10)) := by rw [← hw6]; exact block_new _ _
  have HBS6 := Lib.hid (Bs.of_cells (bs := [49, 50, 51, 52, 53, 54, 55, 56, 57]) (n := 9) hk6 rfl rfl (by unfold maxLen; simp))
  have HT6 := Lib.hid (HT5.out.below hb6)
  have HVX6 := Lib.hid (HVX5.out.below hb6)
  have F6 := Lib.hid (F5.out.then hb6)
  clear hb6 hk6 HT5 F5 HVX5
  go_wp2_with fail
  clear hw6 hcv
  refine (sum_tab N _ [49, 50, 51, 52, 53, 54, 55, 56, 57] (by decide) w6 HT6.out HBS6.out).mono ?_
  rintro e w7 ⟨rfl, ht7, hf7⟩
  rw [sum_known]
  obtain ⟨Ax, cx, rfl, _⟩ := HVX6.out.slice
  have hvx7 := HVX6.out.tab HT6.out hf7
  have hstr := run_str w7 Ax 3 cx [97, 98, 99] (show Bs w7 (.slice Ax 3 cx) [97, 98, 99] from hvx7).rd' (by decide)
  have hso : strOf [97, 98, 99] = ⟨#[97, 98, 99]⟩ := rfl
  rw [hso] at hstr
  have F7 := Lib.hid (F6.out.trans hf7)
  clear ht7 hf7 hvx7 hso HT6 F6
  go_wp2_with fail
  refine (step_any 1 0 (by omega) (by omega) _).mono ?_
  rintro e w8 ⟨rfl, rfl⟩
  go_wp2_with fail
  refine (rstep_any 1 0 (by omega) (by omega) _).mono ?_
  rintro e w8 ⟨rfl, rfl⟩
  go_wp2_with fail
  go_ret
  exact ⟨by simp, Fr.own2 HN.out HB1.out F7.out⟩
end Go.Proofs.Ytchdfdimaopdeaa
