/- Package crc and the reference: a frame of bytes. -/
import Derived.Test.YtchdfdimaopdeaaQNum
import Derived.Test.YtchdfdimaopdeaaQTon
namespace Go.Proofs.Ytchdfdimaopdeaa
open Go.RowKit

theorem Bs.flatB {w : World} {v : Value} {bs : List Nat} (h : Bs w v bs) {w' : World} (b : Below w.heap.size w w') : Bs w' v bs := h.below b
theorem RetO.bs {bs : List Nat} {w w' : World} {v : Value} (h : w'.ownsRow w.heap.size 5 1 v bs.length (bs.map u8v)) : Bs w' v bs := Bs.of_own h

set_option maxRecDepth 100000 in
set_option maxHeartbeats 400000 in
theorem frame_long (p : Nat) (s : Int) (v : Value) (bs : List Nat) (hlong : 65536 < bs.length) (w : World) (hv : Bs w v bs) : Calls Try.prog 18 #[.pointer (some ⟨p, 0, none⟩), .int .u64 s, v] w fun e w' => e = .returned (.tuple #[.slice none 0 0, .int .u64 0, .int .i64 3]) ∧ w = w' := by
  obtain ⟨A, c, rfl, hl, _⟩ := hv.slice
  clear hv
  go_enter Try.func18, Try.ntmps18
  go_wp2
  refine bodyPost_ret (results_tmp3 rfl _ _ _) rfl ?_
  exact ⟨rfl, rfl⟩

set_option maxRecDepth 100000 in
set_option maxHeartbeats 800000 in
theorem frame_tab (p : Nat) (s : Int) (v : Value) (bs : List Nat) (hb : ∀ b ∈ bs, b < 256) (hlen : bs.length ≤ 65536) (w : World) (ht : IsTab w p) (hv : Bs w v bs) : Calls Try.prog 18 #[.pointer (some ⟨p, 0, none⟩), .int .u64 s, v] w fun e w' => (∃ vf, e = .returned (.tuple #[vf, .int .u64 (mixN s bs : Nat), .int .i64 0]) ∧ Bs w' vf (frameN s bs)) ∧ IsTab w' p ∧ Fr 0 [] [p] w w' := by
  obtain ⟨A, c, rfl, hl, _⟩ := hv.slice
  have HV := Lib.hid hv
  have HB := Lib.hid hb
  have HT := Lib.hid ht
  obtain ⟨m, hm⟩ : ∃ m, mixN s bs = m := ⟨_, rfl⟩
  have hml : m < 18446744073709551616 := by rw [← hm]; exact mixN_lt s bs
  obtain ⟨q, hq⟩ : ∃ q, onN 0 bs = q := ⟨_, rfl⟩
  have hql : q < 4294967296 := by rw [← hq]; exact onN_lt 0 bs
  have HM := Lib.hid hm
  have HQ := Lib.hid hq
  obtain ⟨n, hn⟩ : ∃ n, bs.length = n := ⟨_, rfl⟩
  have HN := Lib.hid hn
  rw [hn] at hl hlen
  simp only [hn]
  rw [hn] at HV
  clear hv hb ht hm hq hn
  go_enter Try.func18, Try.ntmps18
  go_wp2_with fail
  refine (mix_any s _ bs HB.out w HV.out).mono ?_
  rintro e w1 ⟨rfl, hb1⟩
  have HT1 := Lib.hid (HT.out.below hb1)
  have HV1 := Lib.hid (HV.out.below hb1)
  have F1 := Lib.hid (Fr.of_below (B := 0) (T := []) (S := [p]) hb1)
  rw [mixN_eq, HM.out]
  clear hb1
  go_wp2_with fail
  refine (bytesOf_any (n + 1) 4 (by omega) w1).mono ?_
  rintro e w2 ⟨v20, rfl, ho2, hb2⟩
  have HT2 := Lib.hid (HT1.out.below hb2)
  have HV2 := Lib.hid (HV1.out.below hb2)
  have F2 := Lib.hid (F1.out.then hb2)
  obtain ⟨A20, c20, rfl, _⟩ := (RetO.bs ho2).slice
  rw [hiN_length] at *
  have HO2 := Lib.hid (RetO.bs ho2)
  clear ho2 hb2 HT1 HV1 F1
  go_wp2_with fail
  refine (sum_tab p _ bs HB.out w2 HT2.out HV2.out).mono ?_
  rintro e w3 ⟨rfl, ht3, hf3⟩
  rw [HQ.out]
  have HT3 := Lib.hid ht3
  have HV3 := Lib.hid (HV2.out.tab HT2.out hf3)
  have HO3 := Lib.hid (HO2.out.tab HT2.out hf3)
  have F3 := Lib.hid (F2.out.trans hf3)
  clear ht3 hf3 HT2 HV2 F2 HO2
  go_wp2_with fail
  refine (bytesOf_any q 4 (by omega) w3).mono ?_
  rintro e w4 ⟨v25, rfl, ho4, hb4⟩
  have HT4 := Lib.hid (HT3.out.below hb4)
  have HV4 := Lib.hid (HV3.out.below hb4)
  have HO4 := Lib.hid (HO3.out.below hb4)
  have F4 := Lib.hid (F3.out.then hb4)
  obtain ⟨A25, c25, rfl, _⟩ := (RetO.bs ho4).slice
  rw [hiN_length] at *
  have HP4 := Lib.hid (RetO.bs ho4)
  clear ho4 hb4 HT3 HV3 HO3 F3
  go_wp2_with fail
  refine (bytesOf_any m 8 (by omega) w4).mono ?_
  rintro e w5 ⟨v27, rfl, ho5, hb5⟩
  have HT5 := Lib.hid (HT4.out.below hb5)
  have HV5 := Lib.hid (HV4.out.below hb5)
  have HO5 := Lib.hid (HO4.out.below hb5)
  have HP5 := Lib.hid (HP4.out.below hb5)
  have F5 := Lib.hid (F4.out.then hb5)
  obtain ⟨A27, c27, rfl, _⟩ := (RetO.bs ho5).slice
  rw [hiN_length] at *
  have HR5 := Lib.hid (RetO.bs ho5)
  clear ho5 hb5 HT4 HV4 HO4 HP4 F4
  obtain ⟨w6, hw6⟩ : ∃ w6, w5.alloc (.cells #[.slice A20 4 c20, .slice A25 4 c25, .slice A27 8 c27, .slice A n c] 23) = w6 := ⟨_, rfl⟩
  have hb6 : Below w5.heap.size w5 w6 := by rw [← hw6]; exact (Below.refl _ _).alloc (Nat.le_refl _) _
  have hbk : w6.heap[w5.heap.size]? = some (.cells #[.slice A20 4 c20, .slice A25 4 c25, .slice A27 8 c27, .slice A n c] 23 (0, 0)) := by rw [← hw6]; exact block_new _ _
  have hbss : Bss w6 (.slice (some ⟨w5.heap.size, 0, none⟩) 4 4) [hiN (n + 1) 4, hiN q 4, hiN m 8, bs] := by
    refine ⟨_, 4, [.slice A20 4 c20, .slice A25 4 c25, .slice A27 8 c27, .slice A n c], rfl, Nat.le_refl _, by unfold maxLen; omega, ⟨rfl, fun _ => ⟨_, 0, rfl, lt_of_block hbk, fun j u hu => ?_⟩⟩, fun j hj u hu => ?_⟩
    · rw [cell_at hbk, Nat.zero_add]
      simpa using hu
    · match j with
      | 0 => simp at hu; subst hu; exact HO5.out.below hb6
      | 1 => simp at hu; subst hu; exact HP5.out.below hb6
      | 2 => simp at hu; subst hu; exact HR5.out.below hb6
      | 3 => simp at hu; subst hu; exact HV5.out.below hb6
  have hfl : [hiN (n + 1) 4, hiN q 4, hiN m 8, bs].flatten = frameN s bs := by
    simp [frameN, topN, HQ.out, HM.out, HN.out]
  have hfn : (frameN s bs).length ≤ 140737488355328 := by
    rw [frameN, List.length_append, topN_length, HN.out]
    omega
  have HCC := Lib.hid (concat_any _ _ w6 hbss (by rw [hfl]; exact hfn))
  rw [hfl] at HCC
  have HT6 := Lib.hid (HT5.out.below hb6)
  have F6 := Lib.hid (F5.out.then hb6)
  clear hb6 hbk hbss hfl hfn HT5 F5 HV5 HO5 HP5 HR5
  go_wp2_with fail
  refine HCC.out.mono ?_
  rintro e w7 ⟨v30, rfl, ho7, hb7⟩
  have HT7 := Lib.hid (HT6.out.below hb7)
  have F7 := Lib.hid (F6.out.then hb7)
  have HO7 := Lib.hid (RetO.bs ho7)
  clear ho7 hb7
  go_wp2_with fail
  refine bodyPost_ret (results_tmp3 rfl _ _ _) rfl ?_
  exact ⟨⟨v30, by rw [HM.out]; rfl, HO7.out⟩, HT7.out, F7.out⟩
end Go.Proofs.Ytchdfdimaopdeaa
