/- The walks of the laws CrcSums and CrcMixes. -/
import Derived.Test.YtchdfdimaopdeaaQLives
namespace Go.Proofs.Ytchdfdimaopdeaa
open Go.RowKit

set_option maxRecDepth 100000 in
set_option maxHeartbeats 800000 in
theorem mixes_any (s : Nat) (A : Option Addr) (c : Nat) (bs : List Nat) (w : World) (hb : IsBy w A c bs) : Calls Try.prog 7 #[.int .u64 s, .slice A bs.length c] w fun e w' => e = .returned (.bool true) ∧ Below w.heap.size w w' := by
  have HB := Lib.hid hb
  have hl : bs.length ≤ 140737488351232 := Nat.le_trans hb.1 hb.2.1
  clear hb
  go_enter Try.func7, Try.ntmps7
  go_wp2_with fail
  refine (lives_any w).mono ?_
  rintro e w1 ⟨rfl, hb1⟩
  have HB1 := Lib.hid hb1
  have H1 := Lib.hid (HB.out.below hb1)
  clear hb1
  go_wp2_with fail
  refine (mix_any s _ bs H1.out.2.2.2.1 w1 H1.out.bs).mono ?_
  rintro e w2 ⟨rfl, hb2⟩
  have HB2 := Lib.hid (HB1.out.trans (hb2.mono HB1.out.size))
  have H2 := Lib.hid (H1.out.below hb2)
  clear hb2
  go_wp2_with fail
  refine (rmix_any s _ bs H2.out.2.2.2.1 hl w2 H2.out.bs).mono ?_
  rintro e w3 ⟨rfl, hb3⟩
  have HB3 := Lib.hid (HB2.out.trans (hb3.mono HB2.out.size))
  clear hb3
  obtain ⟨M, hM⟩ : ∃ M, mixI s bs = M := ⟨_, rfl⟩
  rw [hM]
  clear hM
  go_wp2
  go_ret
  exact ⟨by simp, HB3.out⟩

set_option maxRecDepth 100000 in
set_option maxHeartbeats 1600000 in
theorem sums_any (s : Nat) (A : Option Addr) (c : Nat) (bs : List Nat) (x : Nat) (w : World) (hb : IsBy w A c bs) (hs : s < 4294967296) (hx : x < 256) : Calls Try.prog 3 #[.int .u32 s, .slice A bs.length c, .int .u8 x] w fun e w' => e = .returned (.bool true) ∧ Below w.heap.size w w' := by
  have HB := Lib.hid hb
  have H4 := Lib.hid hb.2.2.2.1
  have HS := Lib.hid hs
  have HX := Lib.hid hx
  obtain ⟨N, hN⟩ : ∃ N, w.heap.size = N := ⟨_, rfl⟩
  have HN := Lib.hid hN
  obtain ⟨q0, hq0⟩ : ∃ q, onN 0 bs = q := ⟨_, rfl⟩
  obtain ⟨q1, hq1⟩ : ∃ q, onN s bs = q := ⟨_, rfl⟩
  obtain ⟨q2, hq2⟩ : ∃ q, stepN s x = q := ⟨_, rfl⟩
  have HQ0 := Lib.hid hq0
  have HQ1 := Lib.hid hq1
  have HQ2 := Lib.hid hq2
  clear hb hq0 hq1 hq2 hs hx
  go_enter Try.func3, Try.ntmps3
  go_wp2_with fail
  refine (new_any w).mono ?_
  rintro e w1 ⟨rfl, ht1, hb1⟩
  rw [hN] at ht1 ⊢
  have HT1 := Lib.hid ht1
  have HB1 := Lib.hid hb1
  have HV1 := Lib.hid (HB.out.below hb1).bs
  clear hN ht1 hb1
  go_wp2_with fail
  refine (lives_any w1).mono ?_
  rintro e w2 ⟨rfl, hb2⟩
  have HT2 := Lib.hid (HT1.out.below hb2)
  have HV2 := Lib.hid (HV1.out.below hb2)
  have F2 := Lib.hid (Fr.of_below (B := 0) (T := []) (S := [N]) hb2)
  clear hb2
  go_wp2_with fail
  refine (sum_tab N _ bs H4.out w2 HT2.out HV2.out).mono ?_
  rintro e w3 ⟨rfl, ht3, hf3⟩
  rw [HQ0.out]
  have HT3 := Lib.hid ht3
  have HV3 := Lib.hid (HV2.out.tab HT2.out hf3)
  have F3 := Lib.hid (F2.out.trans hf3)
  clear ht3 hf3
  go_wp2_with fail
  refine (ron_any 0 _ bs (by omega) H4.out w3 HV3.out).mono ?_
  rintro e w4 ⟨rfl, rfl⟩
  rw [HQ0.out]
  go_wp2_with fail
  refine (on_tab N s _ bs HS.out H4.out w3 HT3.out HV3.out).mono ?_
  rintro e w4 ⟨rfl, ht4, hf4⟩
  rw [HQ1.out]
  have HV4 := Lib.hid (HV3.out.tab HT3.out hf4)
  have F4 := Lib.hid (F3.out.trans hf4)
  clear ht4 hf4
  go_wp2_with fail
  refine (ron_any s _ bs HS.out H4.out w4 HV4.out).mono ?_
  rintro e w5 ⟨rfl, rfl⟩
  rw [HQ1.out]
  go_wp2_with fail
  refine (on_nil s _ bs HS.out H4.out w4 HV4.out).mono ?_
  rintro e w5 ⟨rfl, rfl⟩
  rw [HQ1.out]
  go_wp2_with fail
  refine (ron_any s _ bs HS.out H4.out w4 HV4.out).mono ?_
  rintro e w5 ⟨rfl, rfl⟩
  rw [HQ1.out]
  go_wp2_with fail
  refine (sum_nil _ bs H4.out w4 HV4.out).mono ?_
  rintro e w5 ⟨rfl, rfl⟩
  rw [HQ0.out]
  go_wp2_with fail
  refine (ron_any 0 _ bs (by omega) H4.out w4 HV4.out).mono ?_
  rintro e w5 ⟨rfl, rfl⟩
  rw [HQ0.out]
  go_wp2_with fail
  refine (step_any s x HS.out HX.out w4).mono ?_
  rintro e w5 ⟨rfl, rfl⟩
  rw [HQ2.out]
  go_wp2_with fail
  refine (rstep_any s x HS.out HX.out w4).mono ?_
  rintro e w5 ⟨rfl, rfl⟩
  rw [HQ2.out]
  go_wp2
  go_ret
  exact ⟨by simp, Fr.own2 HN.out HB1.out F4.out⟩
end Go.Proofs.Ytchdfdimaopdeaa
