/- The reference: a frame. -/
import Derived.Test.YtchdfdimaopdeaaQROpen
namespace Go.Proofs.Ytchdfdimaopdeaa
open Go.RowKit

theorem own_below {w w' : World} {B e n : Nat} {v : Value} {xs : List Value} (h : w.ownsRow B e 1 v n xs) (b : Below w.heap.size w w') : w'.ownsRow B e 1 v n xs := (Fr.of_below (B := 0) (T := []) (S := []) b).own h (by simp) (by simp)

set_option maxRecDepth 100000 in
set_option maxHeartbeats 1600000 in
theorem rframe_any (s : Int) (v : Value) (bs : List Nat) (hb : ∀ b ∈ bs, b < 256) (hlen : bs.length ≤ 140737488351232) (w : World) (hv : Bs w v bs) : Calls Try.prog 19 #[.int .u64 s, v] w fun e w' => (∃ vf, e = .returned (.tuple #[vf, .int .u64 (mixN s bs : Nat)]) ∧ Bs w' vf (frameN s bs)) ∧ Below w.heap.size w w' := by
  obtain ⟨i0, hi0, hz0, hz1, hz2⟩ := info_parts Try.infoByte
  obtain ⟨A, c, rfl, hl, hlc, hcm⟩ := hv.slice
  have HV := Lib.hid hv
  have HB := Lib.hid hb
  obtain ⟨m, hm⟩ : ∃ m, mixN s bs = m := ⟨_, rfl⟩
  obtain ⟨q, hq⟩ : ∃ q, onN 0 bs = q := ⟨_, rfl⟩
  have hql : q < 4294967296 := by rw [← hq]; exact onN_lt 0 bs
  have HM := Lib.hid hm
  have HQ := Lib.hid hq
  obtain ⟨n, hn⟩ : ∃ n, bs.length = n := ⟨_, rfl⟩
  have HN := Lib.hid hn
  rw [hn] at hl hlen hlc
  simp only [hn]
  rw [hn] at HV
  clear hv hb hm hq hn
  go_enter Try.func19, Try.ntmps19
  go_wp2_with fail
  refine (rmix_any s _ bs HB.out (by rw [HN.out]; omega) w HV.out).mono ?_
  rintro e w1 ⟨rfl, hb1⟩
  have HV1 := Lib.hid (HV.out.below hb1)
  have HB1 := Lib.hid hb1
  rw [mixN_eq, HM.out]
  clear hb1
  go_wp2_with fail
  refine (high_any (n + 1) 4 (by omega) w1).mono ?_
  rintro e w2 ⟨v15, rfl, ho2, hb2⟩
  rw [hiN_length] at ho2
  have HO2 := Lib.hid ho2
  have HV2 := Lib.hid (HV1.out.below hb2)
  have HB2 := Lib.hid hb2
  clear ho2 hb2
  go_wp2_with fail
  refine (ron_any 0 _ bs (by omega) HB.out w2 HV2.out).mono ?_
  rintro e w2' ⟨rfl, rfl⟩
  rw [HQ.out]
  go_wp2_with fail
  refine (high_any q 4 (by omega) w2).mono ?_
  rintro e w3 ⟨v19, rfl, ho3, hb3⟩
  have hs3 : w1.heap.size ≤ w3.heap.size := Nat.le_trans HB2.out.size hb3.size
  obtain ⟨A19, c19, rfl, _⟩ := (RetO.bs ho3).slice
  rw [hiN_length] at *
  have HR3 := Lib.hid ((Bs.own_n ho3).rd')
  have HO3 := Lib.hid (own_below HO2.out hb3)
  have HB3 := Lib.hid (HB2.out.trans (hb3.mono HB2.out.size))
  have HV3 := Lib.hid (HV2.out.below hb3)
  clear ho3 hb3
  go_wp2_with (at_builtin
               refine wpList_append_rd _ rfl (.tmp 15) (.tmp 19) 23 rfl w1.heap.size 5 i0 (.int .u8 0) 1 1 Try.underlying23 hi0 hz0 hz1 hz2 rfl (by decide) v15 4 ((hiN (n + 1) 4).map u8v) rfl HO3.out A19 4 c19 ((hiN q 4).map u8v) rfl HR3.out (u8_one' _) (by unfold maxLen; omega) (by omega) hs3 ?_
               intro v20 w4 hown4 hgrow4 _
               have hb4 := grown_below HB3.out hs3 HO3.out hgrow4
               have HO4 := Lib.hid hown4
               have HG4 := Lib.hid hgrow4
               have HB4 := Lib.hid hb4
               clear hown4 hgrow4 hb4)
  have hs4 : w1.heap.size ≤ w4.heap.size := HB4.out.size
  have HV4 := Lib.hid (HV1.out.below HB4.out)
  go_wp2_with fail
  refine (high_any m 8 (by omega) w4).mono ?_
  rintro e w5 ⟨v23, rfl, ho5, hb5⟩
  have hs5 : w1.heap.size ≤ w5.heap.size := Nat.le_trans hs4 hb5.size
  obtain ⟨A23, c23, rfl, _⟩ := (RetO.bs ho5).slice
  rw [hiN_length] at *
  have HR5 := Lib.hid ((Bs.own_n ho5).rd')
  have HO5 := Lib.hid (own_below HO4.out hb5)
  have HB5 := Lib.hid (HB4.out.trans (hb5.mono HB4.out.size))
  clear ho5 hb5
  go_wp2_with (first
    | (at_builtin
       refine wpList_append_rd _ rfl (.tmp 21) (.tmp 23) 23 rfl w1.heap.size 5 i0 (.int .u8 0) 1 1 Try.underlying23 hi0 hz0 hz1 hz2 rfl (by decide) v20 (4 + 4) _ rfl HO5.out A23 8 c23 ((hiN m 8).map u8v) rfl HR5.out (u8_one' _) (by unfold maxLen; omega) (by omega) hs5 ?_
       intro v24 w6 hown6 hgrow6 _
       have hb6 := grown_below HB5.out hs5 HO5.out hgrow6
       have hs6 : w1.heap.size ≤ w6.heap.size := hb6.size
       have HV6 := Lib.hid ((HV1.out.below hb6).rd')
       have HO6 := Lib.hid hown6
       have HB6 := Lib.hid hb6
       clear hown6 hgrow6 hb6)
    | (at_builtin
       refine wpList_append_rd _ rfl (.tmp 25) (.tmp 26) 23 rfl w1.heap.size 5 i0 (.int .u8 0) 1 1 Try.underlying23 hi0 hz0 hz1 hz2 rfl (by decide) v24 (4 + 4 + 8) _ rfl HO6.out A n c (bs.map u8v) rfl HV6.out (u8_one' _) (by unfold maxLen; omega) (by omega) hs6 ?_
       intro v27 w7 hown7 hgrow7 _
       have hb7 := grown_below HB6.out hs6 HO6.out hgrow7
       have HO7 := Lib.hid hown7
       have HB7 := Lib.hid hb7
       clear hown7 hgrow7 hb7))
  go_ret2
  refine ⟨⟨v27, by rw [HM.out]; rfl, ?_⟩, HB1.out.trans (HB7.out.mono HB1.out.size)⟩
  have := HO7.out
  rw [← List.map_append, ← List.map_append, ← List.map_append] at this
  have h9 := Bs.own_n this
  unfold frameN topN
  rw [HM.out, HQ.out, HN.out]
  exact h9
end Go.Proofs.Ytchdfdimaopdeaa
