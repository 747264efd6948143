/- The walk of the law CrcFrames. -/
import Derived.Test.YtchdfdimaopdeaaQL5
namespace Go.Proofs.Ytchdfdimaopdeaa
open Go.RowKit

theorem topN_byte (s : Int) (l : List Nat) : ∀ b ∈ topN s l, b < 256 := by
  intro b hb
  unfold topN at hb
  rcases List.mem_append.1 hb with hb | hb
  · rcases List.mem_append.1 hb with hb | hb
    · exact hiN_byte _ _ b hb
    · exact hiN_byte _ _ b hb
  · exact hiN_byte _ _ b hb
theorem frameN_byte (s : Int) {l : List Nat} (h : ∀ b ∈ l, b < 256) : ∀ b ∈ frameN s l, b < 256 := by
  intro b hb
  rcases List.mem_append.1 hb with hb | hb
  · exact topN_byte s l b hb
  · exact h b hb
theorem frameN_length (s : Int) (l : List Nat) : (frameN s l).length = 16 + l.length := by rw [frameN, List.length_append, topN_length]

set_option maxRecDepth 100000 in
set_option maxHeartbeats 1600000 in
theorem frames_long (s : Nat) (A : Option Addr) (c : Nat) (bs : List Nat) (D : Option Addr) (d : Nat) (ds : List Nat) (cut : Int) (w : World) (hb : IsBy w A c bs) (hl : bs.length ≤ 1048576) (hlong : 65536 < bs.length) : Calls Try.prog 6 #[.int .u64 s, .slice A bs.length c, .slice D ds.length d, .int .i64 cut] w fun e w' => e = .returned (.bool true) ∧ Below w.heap.size w w' := by
  obtain ⟨i0, hi0, hz0, hz1, hz2⟩ := info_parts Try.infoByte
  obtain ⟨n, hn⟩ : ∃ n, bs.length = n := ⟨_, rfl⟩
  have HN := Lib.hid hn
  have HV : Hid (Bs w (.slice A n c) bs) := Lib.hid (hn ▸ hb.bs)
  obtain ⟨N, hN⟩ : ∃ N, w.heap.size = N := ⟨_, rfl⟩
  have HNN := Lib.hid hN
  rw [hn] at hl hlong
  simp only [hn]
  clear hb hn
  go_enter Try.func6, Try.ntmps6
  go_wp2_with fail
  refine (new_any w).mono ?_
  rintro e w1 ⟨rfl, ht1, hb1⟩
  rw [hN] at ht1 ⊢
  have HB1 := Lib.hid hb1
  have HV1 := Lib.hid (HV.out.below hb1)
  clear hN ht1 hb1
  have HO0 := Lib.hid (own_of_cells w1 #[] 0 (Nat.zero_le _) rfl)
  have HE0 := Lib.hid ((HV1.out.below ((Below.refl _ w1).alloc (Nat.le_refl _) (.cells #[] 5))).rd')
  go_wp2_with (at_builtin
               refine wpList_append_rd _ rfl (.tmp 23) (.tmp 24) 23 rfl w1.heap.size 5 i0 (.int .u8 0) 1 1 Try.underlying23 hi0 hz0 hz1 hz2 rfl (by decide) (.slice (some ⟨w1.heap.size, 0, none⟩) 0 0) 0 [] rfl HO0.out A n c (bs.map u8v) rfl HE0.out (u8_one' _) (by unfold maxLen; omega) (by omega) (by simp) ?_
               intro v2 w2 hown2 hgrow2 _
               have hb2 := grown_below ((Below.refl _ w1).alloc (Nat.le_refl _) (.cells #[] 5)) (by simp) HO0.out hgrow2
               simp only [Nat.zero_add, List.nil_append] at hown2
               have HO2 := Lib.hid (Bs.own_n hown2)
               have HB2 := Lib.hid hb2
               clear hown2 hgrow2 hb2)
  refine (frame_long N s _ bs (by rw [HN.out]; exact hlong) w2 HO2.out).mono ?_
  rintro e w3 ⟨rfl, rfl⟩
  go_wp2_with fail
  refine (lives_any w2).mono ?_
  rintro e w4 ⟨rfl, hb4⟩
  have HB4 := Lib.hid hb4
  clear hb4
  go_wp2
  go_ret
  exact ⟨by simp, (HB1.out.trans (HB2.out.mono HB1.out.size)).trans (HB4.out.mono (Nat.le_trans HB1.out.size HB2.out.size))⟩

set_option maxRecDepth 100000 in
set_option maxHeartbeats 1600000 in
theorem frames_main (s : Nat) (A : Option Addr) (c : Nat) (bs : List Nat) (D : Option Addr) (d : Nat) (ds : List Nat) (cut : Int) (w : World) (hb : IsBy w A c bs) (hd : IsBy w D d ds) (hl : bs.length ≤ 65536) (hld : ds.length ≤ 1048576) : Calls Try.prog 6 #[.int .u64 s, .slice A bs.length c, .slice D ds.length d, .int .i64 cut] w fun e w' => e = .returned (.bool true) ∧ Below w.heap.size w w' := by
  obtain ⟨i0, hi0, hz0, hz1, hz2⟩ := info_parts Try.infoByte
  have HOP := Lib.hid (openN_frame s bs ds hl)
  have HCUT := Lib.hid (fun k hk => openN_cut s bs k hl hk)
  have HFB := Lib.hid (frameN_byte s hb.2.2.2.1)
  have HFL := Lib.hid (frameN_length s bs)
  have HBB := Lib.hid hb.2.2.2.1
  have HDB := Lib.hid hd.2.2.2.1
  obtain ⟨n, hn⟩ : ∃ n, bs.length = n := ⟨_, rfl⟩
  obtain ⟨m, hm⟩ : ∃ m, ds.length = m := ⟨_, rfl⟩
  have HN := Lib.hid hn
  have HM := Lib.hid hm
  have HV : Hid (Bs w (.slice A n c) bs) := Lib.hid (hn ▸ hb.bs)
  have HD : Hid (Bs w (.slice D m d) ds) := Lib.hid (hm ▸ hd.bs)
  obtain ⟨N, hN⟩ : ∃ N, w.heap.size = N := ⟨_, rfl⟩
  have HNN := Lib.hid hN
  rw [hn] at hl HFL
  rw [hm] at hld
  simp only [hn, hm]
  clear hb hd hn hm
  go_enter Try.func6, Try.ntmps6
  go_wp2_with fail
  refine (new_any w).mono ?_
  rintro e w1 ⟨rfl, ht1, hb1⟩
  rw [hN] at ht1 ⊢
  have HT1 := Lib.hid ht1
  have HB1 := Lib.hid hb1
  have HV1 := Lib.hid (HV.out.below hb1)
  have HD1 := Lib.hid (HD.out.below hb1)
  clear hN ht1 hb1
  have HO0 := Lib.hid (own_of_cells w1 #[] 0 (Nat.zero_le _) rfl)
  have HE0 := Lib.hid ((HV1.out.below ((Below.refl _ w1).alloc (Nat.le_refl _) (.cells #[] 5))).rd')
  go_wp2_with (at_builtin
               refine wpList_append_rd _ rfl (.tmp 23) (.tmp 24) 23 rfl w1.heap.size 5 i0 (.int .u8 0) 1 1 Try.underlying23 hi0 hz0 hz1 hz2 rfl (by decide) (.slice (some ⟨w1.heap.size, 0, none⟩) 0 0) 0 [] rfl HO0.out A n c (bs.map u8v) rfl HE0.out (u8_one' _) (by unfold maxLen; omega) (by omega) (by simp) ?_
               intro v2 w2 hown2 hgrow2 _
               have hb2 := grown_below ((Below.refl _ w1).alloc (Nat.le_refl _) (.cells #[] 5)) (by simp) HO0.out hgrow2
               simp only [Nat.zero_add, List.nil_append] at hown2
               have HO2 := Lib.hid (Bs.own_n hown2)
               have HT2 := Lib.hid (HT1.out.below hb2)
               have HV2 := Lib.hid (HV1.out.below hb2)
               have HD2 := Lib.hid (HD1.out.below hb2)
               have F2 := Lib.hid (Fr.of_below (B := 0) (T := []) (S := [N]) hb2)
               clear hown2 hgrow2 hb2)
  refine (frame_tab N s _ bs HBB.out (by rw [HN.out]; exact hl) w2 HT2.out HO2.out).mono ?_
  rintro e w3 ⟨⟨vf, rfl, hvf⟩, ht3, hf3⟩
  obtain ⟨M, hM⟩ : ∃ M, mixN s bs = M := ⟨_, rfl⟩
  obtain ⟨F, hF⟩ : ∃ F, frameN s bs = F := ⟨_, rfl⟩
  simp only [hM, hF] at HOP HCUT HFB HFL hvf ⊢
  have HMM := Lib.hid hM
  have HFF := Lib.hid hF
  obtain ⟨Af, cf, rfl, _⟩ := hvf.slice
  rw [HFL.out] at hvf
  simp only [HFL.out]
  have HF3 := Lib.hid hvf
  have HT3 := Lib.hid ht3
  have HO3 := Lib.hid (HO2.out.tab HT2.out hf3)
  have HV3 := Lib.hid (HV2.out.tab HT2.out hf3)
  have HD3 := Lib.hid (HD2.out.tab HT2.out hf3)
  have F3 := Lib.hid (F2.out.trans hf3)
  clear hvf ht3 hf3 hM hF HT2 HO2 HV2 HD2 F2
  obtain ⟨Ao, co, rfl, _⟩ := HO3.out.slice
  simp only [HN.out] at HO3 ⊢
  go_wp2_with fail
  refine (lives_any w3).mono ?_
  rintro e w4 ⟨rfl, hb4⟩
  have HF4 := Lib.hid (HF3.out.below hb4)
  have HT4 := Lib.hid (HT3.out.below hb4)
  have HO4 := Lib.hid (HO3.out.below hb4)
  have HV4 := Lib.hid (HV3.out.below hb4)
  have HD4 := Lib.hid (HD3.out.below hb4)
  have F4 := Lib.hid (F3.out.then hb4)
  clear hb4 HF3 HT3 HO3 HV3 HD3 F3
  go_wp2_with fail
  refine (rframe_any s _ bs HBB.out (by rw [HN.out]; omega) w4 HV4.out).mono ?_
  rintro e w5 ⟨⟨vg, rfl, hvg⟩, hb5⟩
  simp only [HMM.out, HFF.out] at hvg ⊢
  obtain ⟨Ag, cg, rfl, _⟩ := hvg.slice
  rw [HFL.out] at hvg
  simp only [HFL.out]
  have HG5 := Lib.hid hvg
  have HF5 := Lib.hid (HF4.out.below hb5)
  have HT5 := Lib.hid (HT4.out.below hb5)
  have HO5 := Lib.hid (HO4.out.below hb5)
  have HV5 := Lib.hid (HV4.out.below hb5)
  have HD5 := Lib.hid (HD4.out.below hb5)
  have F5 := Lib.hid (F4.out.then hb5)
  clear hvg hb5 HF4 HT4 HO4 HV4 HD4 F4
  have HO6 := Lib.hid (own_of_cells w5 #[] 0 (Nat.zero_le _) rfl)
  have HE6 := Lib.hid ((HF5.out.below ((Below.refl _ w5).alloc (Nat.le_refl _) (.cells #[] 5))).rd')
  go_wp2_with (first
    | (at_builtin
       refine wpList_append_rd _ rfl (.tmp 59) (.tmp 60) 23 rfl w5.heap.size 5 i0 (.int .u8 0) 1 1 Try.underlying23 hi0 hz0 hz1 hz2 rfl (by decide) (.slice (some ⟨w5.heap.size, 0, none⟩) 0 0) 0 [] rfl HO6.out Af (16 + n) cf (F.map u8v) rfl HE6.out (u8_one' _) (by unfold maxLen; omega) (by omega) (by simp) ?_
       intro v6 w6 hown6 hgrow6 _
       have hb6 := grown_below ((Below.refl _ w5).alloc (Nat.le_refl _) (.cells #[] 5)) (by simp) HO6.out hgrow6
       simp only [Nat.zero_add, List.nil_append] at hown6
       have HO7 := Lib.hid hown6
       have HB6 := Lib.hid hb6
       have hs6 : w5.heap.size ≤ w6.heap.size := hb6.size
       have HD6 := Lib.hid ((HD5.out.below hb6).rd')
       clear hown6 hgrow6 hb6)
    | (at_builtin
       refine wpList_append_rd _ rfl (.tmp 61) (.tmp 62) 23 rfl w5.heap.size 5 i0 (.int .u8 0) 1 1 Try.underlying23 hi0 hz0 hz1 hz2 rfl (by decide) v6 (16 + n) _ rfl HO7.out D m d (ds.map u8v) rfl HD6.out (u8_one' _) (by unfold maxLen; omega) (by omega) hs6 ?_
       intro v8 w8 hown8 hgrow8 _
       have hb8 := grown_below HB6.out hs6 HO7.out hgrow8
       rw [← List.map_append] at hown8
       have HO8 := Lib.hid (Bs.own_n hown8)
       have HB8 := Lib.hid hb8
       clear hown8 hgrow8 hb8))
  have HT8 := Lib.hid (HT5.out.below HB8.out)
  have HF8 := Lib.hid (HF5.out.below HB8.out)
  have HG8 := Lib.hid (HG5.out.below HB8.out)
  have HQ8 := Lib.hid (HO5.out.below HB8.out)
  have HV8 := Lib.hid (HV5.out.below HB8.out)
  have F8 := Lib.hid (F5.out.then HB8.out)
  clear HT5 HF5 HG5 HO5 HV5 F5 HO6 HE6 HO7 HB6 HD6
  refine (open_all N s _ (F ++ ds) (fun b hb => by
    rcases List.mem_append.1 hb with hb | hb
    · exact HFB.out b hb
    · exact HDB.out b hb) (by rw [List.length_append, HFL.out, HM.out]; omega) w8 HT8.out HO8.out).mono ?_
  rintro e w9 ⟨hr, ht9, hf9⟩
  unfold OpenR at hr
  rw [HOP.out] at hr
  obtain ⟨vx, rfl, hvx⟩ := hr
  unfold goodT
  obtain ⟨Ax, cx, rfl, _⟩ := own_slice hvx
  have hx9 := Bs.of_own hvx
  rw [HN.out] at hx9
  simp only [HN.out]
  obtain ⟨SF, hSF⟩ : ∃ SF, strOf F = SF := ⟨_, rfl⟩
  obtain ⟨SB, hSB⟩ : ∃ SB, strOf bs = SB := ⟨_, rfl⟩
  have s1 := hSF ▸ run_str w9 Af (16 + n) cf F (HF8.out.tab HT8.out hf9).rd' HFB.out
  have s2 := hSF ▸ run_str w9 Ag (16 + n) cg F (HG8.out.tab HT8.out hf9).rd' HFB.out
  have s3 := hSB ▸ run_str w9 Ax n cx bs hx9.rd' HBB.out
  have s4 := hSB ▸ run_str w9 A n c bs (HV8.out.tab HT8.out hf9).rd' HBB.out
  have s5 := hSB ▸ run_str w9 Ao n co bs (HQ8.out.tab HT8.out hf9).rd' HBB.out
  have HF9 := Lib.hid (HF8.out.tab HT8.out hf9)
  have HT9 := Lib.hid ht9
  have F9 := Lib.hid (F8.out.trans hf9)
  clear hvx hx9 hSF hSB ht9 hf9 HT8 HF8 HG8 HQ8 HV8 F8
  by_cases h1 : cut < 0
  · go_wp2
    go_ret
    exact ⟨rfl, Fr.own2 HNN.out HB1.out F9.out⟩
  · by_cases h2 : ((16 + n : Nat) : Int) ≤ cut
    · have h2' : (16 : Int) + (n : Int) ≤ cut := by omega
      go_wp2
      go_ret
      exact ⟨by simp, Fr.own2 HNN.out HB1.out F9.out⟩
    · obtain ⟨k, rfl⟩ : ∃ k : Nat, cut = k := ⟨cut.toNat, by omega⟩
      have hk : k < 16 + n := by omega
      have h2' : ¬ (16 : Int) + (n : Int) ≤ (k : Int) := by omega
      have hcf : 16 + n ≤ cf := by
        have := HF9.out
        obtain ⟨A0, c0, e1, e2, _⟩ := this
        injection e1 with _ _ e3
        rw [HFL.out] at e2
        omega
      have hkc : (k : Int) ≤ (cf : Int) := by omega
      have HC := Lib.hid (HCUT.out k (by rw [HFL.out]; exact hk))
      go_wp2_with fail
      refine (open_all N s _ (F.take k) (fun b hb => HFB.out b (List.mem_of_mem_take hb)) (by rw [List.length_take, HFL.out]; omega) w9 HT9.out (HF9.out.pre k (by omega))).mono ?_
      rintro e w10 ⟨hr, _, hf10⟩
      unfold OpenR at hr
      rw [HC.out] at hr
      obtain rfl := hr
      unfold badT
      have F10 := Lib.hid (F9.out.trans hf10)
      clear hf10 s1 s2 s3 s4 s5
      go_wp2
      go_ret
      exact ⟨by simp, Fr.own2 HNN.out HB1.out F10.out⟩
theorem frames_any (s : Nat) (A : Option Addr) (c : Nat) (bs : List Nat) (D : Option Addr) (d : Nat) (ds : List Nat) (cut : Int) (w : World) (hb : IsBy w A c bs) (hd : IsBy w D d ds) (hl : bs.length ≤ 1048576) (hld : ds.length ≤ 1048576) : Calls Try.prog 6 #[.int .u64 s, .slice A bs.length c, .slice D ds.length d, .int .i64 cut] w fun e w' => e = .returned (.bool true) ∧ Below w.heap.size w w' := by
  by_cases h : 65536 < bs.length
  · exact frames_long s A c bs D d ds cut w hb hl h
  · exact frames_main s A c bs D d ds cut w hb hd (by omega) hld
end Go.Proofs.Ytchdfdimaopdeaa
