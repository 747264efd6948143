/- Joined: The reference's Unpack of an end. What the laws call beside: far, and the packing of one of two ends. -/
import Derived.Test.YtnmbblkfaoihfaaZLP32
import Derived.Test.YtnmbblkfaoihfaaZLP31
import Derived.Test.YtnmbblkfaoihfaaZLP30
import Derived.Test.YtnmbblkfaoihfaaZLP33
namespace Go.Proofs.Ytnmbblkfaoihfaa
open Go.RowKit

set_option maxRecDepth 100000 in
set_option maxHeartbeats 4000000 in
theorem lxunpack_any (A : Option Addr) (c : Nat) (bs : List Nat) (w : World) (hby : IsBy w A c bs) :
    Calls Try.prog 38 #[.slice A bs.length c] w (RetUE 91 55 (.bool true) (.bool false) (unE bs) w) := by
  obtain ⟨i0, hi0, hz0, hz1, hz2⟩ := info_parts Try.infoRItem
  have hb := hby.2.2.2.1
  have ht : bs.length ≤ 140737488351232 := Nat.le_trans hby.1 hby.2.1
  have hrb : (∀ b ∈ (numT (numT (numT (bs, false) 0 9223372036854775807).2 0 9223372036854775807).2 0 64).2.1, b < 256) ∧ (numT (numT (numT (bs, false) 0 9223372036854775807).2 0 9223372036854775807).2 0 64).2.1.length ≤ bs.length := by
    have a1 := numT_lt (s := (bs, false)) hb 0 9223372036854775807
    have a2 := numT_le (bs, false) 0 9223372036854775807
    have a3 := numT_lt a1 0 9223372036854775807
    have a4 := numT_le (numT (bs, false) 0 9223372036854775807).2 0 9223372036854775807
    have a5 := numT_lt a3 0 64
    have a6 := numT_le (numT (numT (bs, false) 0 9223372036854775807).2 0 9223372036854775807).2 0 64
    exact ⟨a5, by simp only at a2 a4 a6; omega⟩
  have hun : unE bs = if (numT (bs, false) 0 9223372036854775807).1 < (numT (numT (numT (bs, false) 0 9223372036854775807).2 0 9223372036854775807).2 0 64).1 then none else endE (numT (bs, false) 0 9223372036854775807).1 (numT (numT (bs, false) 0 9223372036854775807).2 0 9223372036854775807).1 (okI (unIX ((numT (bs, false) 0 9223372036854775807).1 - (numT (numT (numT (bs, false) 0 9223372036854775807).2 0 9223372036854775807).2 0 64).1 + 1) (numT (numT (numT (bs, false) 0 9223372036854775807).2 0 9223372036854775807).2 0 64).1.toNat [] (numT (numT (numT (bs, false) 0 9223372036854775807).2 0 9223372036854775807).2 0 64).2)) := by
    rw [okI_eq _ _ _ _ _ (SameT.refl _) hrb.1]; rfl
  obtain ⟨o1, s1, e1⟩ : ∃ n s, numT (bs, false) 0 9223372036854775807 = (n, s) := ⟨_, _, rfl⟩
  obtain ⟨o2, s2, e2⟩ : ∃ n s, numT s1 0 9223372036854775807 = (n, s) := ⟨_, _, rfl⟩
  obtain ⟨o3, s3, e3⟩ : ∃ n s, numT s2 0 64 = (n, s) := ⟨_, _, rfl⟩
  have hr1 := numT_range (bs, false) 0 9223372036854775807
  obtain ⟨n, hn, hn2⟩ := numT_nat s2 64 (by omega)
  rw [e1] at hun hr1 hrb
  simp only [e2] at hun hrb
  simp only [e3] at hun hn hrb
  subst hn
  simp only [Int.toNat_natCast] at hun hr1
  have hn2 : n ≤ 64 := by omega
  have ho1 : 0 ≤ o1 ∧ o1 ≤ 9223372036854775807 := by omega
  obtain ⟨wa, hwa⟩ : ∃ wa, (w.alloc (.cells #[.slice A bs.length c, .bool false] 103)).alloc (.cells #[.slice none 0 0, .int .i64 0, .int .i64 0] 55) = wa := ⟨_, rfl⟩
  have hba : Below w.heap.size w wa := by rw [← hwa]; exact ((Below.refl _ w).alloc (Nat.le_refl _) _).alloc (by simp) _
  have hp0 : wa.heap[w.heap.size]? = some (.cells #[.slice A bs.length c, .bool false] 103 (0, 0)) := by rw [← hwa]; exact block_alloc (block_new _ _) _
  have hq0 : wa.heap[w.heap.size + 1]? = some (.cells #[.slice none 0 0, .int .i64 0, .int .i64 0] 55 (0, 0)) := by
    rw [← hwa]
    have := block_new (w.alloc (.cells #[.slice A bs.length c, .bool false] 103)) (.cells #[.slice none 0 0, .int .i64 0, .int .i64 0] 55)
    simpa using this
  obtain ⟨D, hT, hD⟩ := ist_of_by hby hba hp0
  obtain ⟨pt, hpt⟩ : ∃ pt, w.heap.size = pt := ⟨_, rfl⟩
  obtain ⟨pe, hpe⟩ : ∃ pe, w.heap.size + 1 = pe := ⟨_, rfl⟩
  have hU0 : UE w 103 55 91 pt pe D (bs, false) (.slice none 0 0) [] 0 0 wa := ⟨hpt ▸ hT, by omega, fun d hd => by have := hD d hd; omega, by omega, hpe ▸ hq0, ⟨[], rfl, World.ownsRow_nil _ _ _ _, by simp⟩, hba⟩
  have HUN := Lib.hid hun
  have E1 := Lib.hid e1
  have E2 := Lib.hid e2
  have E3 := Lib.hid e3
  have HWA := Lib.hid hwa
  have HRB := Lib.hid hrb
  have HLEN := Lib.hid ht
  have HU0 := Lib.hid hU0
  clear hun e1 e2 e3 hwa hba hp0 hq0 hT hD hby hb hrb hU0 hr1 ht
  go_enter Try.func38, Try.ntmps38
  have HPT := Lib.hid hpt
  have HPE := Lib.hid hpe
  have hpe' : pt + 1 = pe := by rw [← hpt]; exact hpe
  clear hpe
  go_wp2_with fail
  rw [HWA.out]
  clear hpt hpe'
  refine (rtnum_any pt D _ 0 9223372036854775807 wa HU0.out.t HU0.out.dp).mono ?_
  intro e w2 hr
  obtain ⟨rfl, h2⟩ := HU0.out.turn (by decide) hr
  rw [E1.out] at h2 ⊢
  have h2' := h2.num (by decide) (by decide) (i := 1) (u := .int .i64 o1) (sent' := o1) (mark' := 0) rfl
  have y2 : w2.cell? ⟨pe, 1, none⟩ = some (.int .i64 0) := cell_at h2.e 1
  have z2 := frozen_at h2.e 1
  have HU2 := Lib.hid h2'
  clear hr h2 h2' HU0
  go_wp2_with fail
  obtain ⟨w2s, hw2⟩ : ∃ z, w2.setCell ⟨pe, 1, none⟩ (.int .i64 o1) = z := ⟨_, rfl⟩
  rw [hw2] at HU2 ⊢
  clear y2 z2 hw2
  refine (rtnum_any pt D _ 0 9223372036854775807 w2s HU2.out.t HU2.out.dp).mono ?_
  intro e w3 hr
  obtain ⟨rfl, h3⟩ := HU2.out.turn (by decide) hr
  rw [E2.out] at h3 ⊢
  have h3' := h3.num (by decide) (by decide) (i := 2) (u := .int .i64 o2) (sent' := o1) (mark' := o2) rfl
  have y3 : w3.cell? ⟨pe, 2, none⟩ = some (.int .i64 0) := cell_at h3.e 2
  have z3 := frozen_at h3.e 2
  have HU3 := Lib.hid h3'
  clear hr h3 h3' HU2
  go_wp2_with fail
  obtain ⟨w3s, hw3⟩ : ∃ z, w3.setCell ⟨pe, 2, none⟩ (.int .i64 o2) = z := ⟨_, rfl⟩
  rw [hw3] at HU3 ⊢
  clear y3 z3 hw3
  refine (rtnum_any pt D _ 0 64 w3s HU3.out.t HU3.out.dp).mono ?_
  intro e w5 hr
  obtain ⟨rfl, h5⟩ := HU3.out.turn (by decide) hr
  rw [E3.out] at h5 ⊢
  have x5 : w5.cell? ⟨pe, 1, none⟩ = some (.int .i64 o1) := cell_at h5.e 1
  have H5 := Lib.hid h5
  clear hr h5 HU3
  by_cases hgt : o1 < (n : Int)
  · have HR : Hid (unE bs = none) := Lib.hid (by rw [HUN.out, if_pos hgt])
    go_wp2_with fail
    refine bodyPost_ret (results_tmp2 rfl _ _ _) rfl ?_
    exact retUE_none HR.out H5.out.bel
  · have HU0 : Hid (unE bs = endE o1 o2 (okI (unIX (o1 - n + 1) n [] s3))) := Lib.hid (by rw [HUN.out, if_neg hgt])
    go_wp2_with fail
    go_loopw [7] (fun iv wr => ∃ (k : Nat) (s : List Nat × Bool) (v : Value) (l : List LIt), k ≤ n ∧ l.length = k ∧ iv = .int .i64 k ∧ UE w 103 55 91 pt pe D s v l o1 o2 wr ∧ okI (unIX (o1 - n + 1) (n - k) l s) = okI (unIX (o1 - n + 1) n [] s3) ∧ (∀ b ∈ s.1, b < 256) ∧ s.1.length ≤ bs.length) (fun iv _ => n - (intOf iv).toNat)
    case atStart => exact ⟨0, s3, _, [], Nat.zero_le _, rfl, rfl, H5.out, by simp, HRB.out.1, HRB.out.2⟩
    case round =>
      obtain ⟨k, s, vr, l, hk, hrs, rfl, hu, hok, hsb, hsl⟩ := hrel
      have HU := Lib.hid hu
      have HOK := Lib.hid hok
      have HRS := Lib.hid hrs
      have HSB := Lib.hid hsb
      have HSL := Lib.hid hsl
      obtain ⟨At, ct, kt, kt2, kt3, _⟩ := id hu.t
      have t1 : wr.cell? ⟨pt, 1, none⟩ = some (.bool s.2) := cell_at kt 1
      have t0 : wr.cell? ⟨pt, 0, none⟩ = some (.slice At s.1.length ct) := cell_at kt 0
      clear hu hok hrs hsb hsl H5 x5 kt kt3
      by_cases hlt : k < n ∧ s.2 = false
      · obtain ⟨hlt, hs⟩ := hlt
        rw [hs] at t1
        have HS := Lib.hid hs
        have hdk : decide (k < n) = true := decide_eq_true hlt
        clear hs t0 kt2
        obtain ⟨Av, cv, rfl, kv1, kv2, _⟩ : ∃ A c, vr = .slice A l.length c ∧ l.length ≤ c ∧ c ≤ maxLen ∧ True := by
          obtain ⟨xs, ho⟩ := HU.out.r.own
          obtain ⟨A, c, e, h1, h2, _⟩ := own_slice ho
          exact ⟨A, c, e, h1, h2, trivial⟩
        rw [HRS.out] at kv1
        have hw1 : IntKind.i64.wrap (o1 - (n : Int)) = o1 - n := IntWalk.i64_in _ (by omega)
        have hw2 : IntKind.i64.wrap (o1 - (n : Int) + 1) = o1 - n + 1 := IntWalk.i64_in _ (by omega)
        obtain ⟨ta, hta⟩ : ∃ y, rtextT s 2048 = y := ⟨_, rfl⟩
        have htb := rtextT_lt HSB.out 2048
        have htl : (rtextT s 2048).1.length ≤ s.1.length ∧ (rtextT s 2048).2.1.length ≤ s.1.length := by
          unfold rtextT
          have h1 := numT_le s 0 (if (s.1.length : Int) < 2048 then s.1.length else 2048)
          generalize numT s 0 (if (s.1.length : Int) < 2048 then s.1.length else 2048) = r at h1
          simp only
          split
          · exact ⟨by simp, h1⟩
          · simp only [List.length_take, List.length_drop]; omega
        rw [hta] at htb htl
        have HTA := Lib.hid hta
        have HTB := Lib.hid htb
        have HTL : Hid (ta.1.length ≤ bs.length ∧ ta.2.1.length ≤ bs.length) := Lib.hid ⟨Nat.le_trans htl.1 HSL.out, Nat.le_trans htl.2 HSL.out⟩
        obtain ⟨S, hS⟩ : ∃ S, strOf ta.1 = S := ⟨_, rfl⟩
        have hsz : S.size ≤ maxLen := by rw [← hS, strOf_size]; have := HTL.out.1; have := HLEN.out; unfold maxLen; omega
        have hnat : natsOf S = ta.1 := by rw [← hS]; exact natsOf_strOf HTB.out.1
        have HSS := Lib.hid hS
        have HSZ := Lib.hid hsz
        have HNAT := Lib.hid hnat
        have hpel := lt_of_block HU.out.e
        have hptl := HU.out.lt
        obtain ⟨sq, hsq⟩ : ∃ sq, o1 - (n : Int) + 1 + (k : Int) = sq := ⟨_, rfl⟩
        have hw3 : IntKind.i64.wrap (o1 - (n : Int) + 1 + (k : Int)) = sq := by rw [← hsq]; exact IntWalk.i64_in _ (by omega)
        have HSQ := Lib.hid hsq
        have x1 : wr.cell? ⟨pe, 1, none⟩ = some (.int .i64 o1) := cell_at HU.out.e 1
        clear hta htb htl hS hsz hnat hsq
        go_wp2_with fail
        obtain ⟨px, hpx⟩ : ∃ px, wr.heap.size = px := ⟨_, rfl⟩
        have hbA : Below wr.heap.size wr (wr.alloc (.cells #[.int .i64 sq, .slice none 0 0, .int .i64 0, .int .i64 0] 91)) := (Below.refl _ wr).alloc (Nat.le_refl _) _
        have hqA : (wr.alloc (.cells #[.int .i64 sq, .slice none 0 0, .int .i64 0, .int .i64 0] 91)).heap[px]? = some (.cells #[.int .i64 sq, .slice none 0 0, .int .i64 0, .int .i64 0] 91 (0, 0)) := by rw [← hpx]; exact block_new _ _
        have hpex : pe < px := by omega
        have HGX : Hid (∀ g, (Value.slice Av l.length cv).ownBlock = some g → g ≠ px) := Lib.hid (fun g hg => by have := (HU.out.ownb g hg).2.1; omega)
        have HUA := Lib.hid (HU.out.below hbA)
        have HQA := Lib.hid hqA
        rw [hpx]
        obtain ⟨wA, hwA⟩ : ∃ z, wr.alloc (.cells #[.int .i64 sq, .slice none 0 0, .int .i64 0, .int .i64 0] 91) = z := ⟨_, rfl⟩
        rw [hwA] at HUA HQA ⊢
        clear hpx hbA hqA hwA t1 x1 hw1 hw2 hw3
        refine (rttext_any pt D s 2048 wA HUA.out.t HUA.out.dp).mono ?_
        intro e wB hr
        have hf := hr.2.2
        obtain ⟨rfl, hB⟩ := HUA.out.turn (by decide) hr
        rw [HTA.out] at hB ⊢
        rw [HSS.out]
        have hqB := hf.keep0 HQA.out (by simp; omega)
        obtain ⟨c2, wC, hcv, hbo, hbC, _⟩ := str_body wB S HSZ.out
        rw [HNAT.out] at hbo
        obtain ⟨Ab, hAb⟩ : ∃ Ab : Option Addr, some ⟨wB.heap.size, 0, none⟩ = Ab := ⟨_, rfl⟩
        obtain ⟨nb, hnb⟩ : ∃ nb, S.size = nb := ⟨_, rfl⟩
        rw [hAb, hnb] at hcv hbo
        have hUC := hB.below hbC
        have hqC := (hbC.block _ (lt_of_block hqB)).trans hqB
        have hfs : Fr 0 [] [px] wC (wC.setCell ⟨px, 1, none⟩ (.slice Ab nb c2)) := (Fr.refl wC).setCell (p := ⟨px, 1, none⟩) _ (Nat.zero_le _) (.inl (by simp))
        have HUW0 := Lib.hid (hUC.set hpex HGX.out hqC (by decide) 1 (.slice Ab nb c2))
        have HQW0 := Lib.hid (block_set hqC 1 (.slice Ab nb c2))
        have HBW0 := Lib.hid (hbo.far hfs hqC (by decide))
        have y7 : wC.cell? ⟨px, 1, none⟩ = some (.slice none 0 0) := cell_at hqC 1
        have z7 := frozen_at hqC 1
        clear hr hf hB hqB hbo hbC hAb hnb hUC hqC hfs
        go_wp2_with fail
        obtain ⟨W0, hW0⟩ : ∃ z, wC.setCell ⟨px, 1, none⟩ (.slice Ab nb c2) = z := ⟨_, rfl⟩
        rw [hW0] at HUW0 HQW0 HBW0 ⊢
        clear y7 z7 hW0 hcv
        obtain ⟨cb, hcb⟩ : ∃ cb, c2 = cb := ⟨_, rfl⟩
        rw [hcb] at HQW0 HBW0
        simp only [hcb]
        clear hcb
        refine (rtnum_any pt D _ 1 9223372036854775807 W0 HUW0.out.t HUW0.out.dp).mono ?_
        intro e w7 hr
        have hf := hr.2.2
        have hptw7 : ∃ cs, W0.heap[pt]? = some (.cells cs 103 (0, 0)) := by obtain ⟨_, _, h, _⟩ := id HUW0.out.t; exact ⟨_, h⟩
        obtain ⟨rfl, hB⟩ := HUW0.out.turn (by decide) hr
        obtain ⟨tb, htb⟩ : ∃ y, numT ta.2 1 9223372036854775807 = y := ⟨_, rfl⟩
        rw [htb] at hB ⊢
        have Htb := Lib.hid htb
        have hqB := hf.keep0 HQW0.out (by simp; omega)
        have hbB := HBW0.out.frame hf (by simp) (ne_u8 hptw7.choose_spec (by decide))
        have hfs : Fr 0 [] [px] w7 (w7.setCell ⟨px, 2, none⟩ (.int .i64 tb.1)) := (Fr.refl w7).setCell (p := ⟨px, 2, none⟩) _ (Nat.zero_le _) (.inl (by simp))
        have HUsw7 := Lib.hid (hB.set hpex HGX.out hqB (by decide) 2 (.int .i64 tb.1))
        have HQsw7 := Lib.hid (block_set hqB 2 (.int .i64 tb.1))
        have HBsw7 := Lib.hid (hbB.far hfs hqB (by decide))
        have y7 : w7.cell? ⟨px, 2, none⟩ = some (.int .i64 0) := cell_at hqB 2
        have z7 := frozen_at hqB 2
        clear hr hf hptw7 hB htb hqB hbB hfs
        go_wp2_with fail
        obtain ⟨w7s, hww7⟩ : ∃ z, w7.setCell ⟨px, 2, none⟩ (.int .i64 tb.1) = z := ⟨_, rfl⟩
        rw [hww7] at HUsw7 HQsw7 HBsw7 ⊢
        clear y7 z7 hww7
        refine (rtnum_any pt D _ (-9223372036854775808) 9223372036854775807 w7s HUsw7.out.t HUsw7.out.dp).mono ?_
        intro e w8 hr
        have hf := hr.2.2
        have hptw8 : ∃ cs, w7s.heap[pt]? = some (.cells cs 103 (0, 0)) := by obtain ⟨_, _, h, _⟩ := id HUsw7.out.t; exact ⟨_, h⟩
        obtain ⟨rfl, hB⟩ := HUsw7.out.turn (by decide) hr
        obtain ⟨tc, htc⟩ : ∃ y, numT tb.2 (-9223372036854775808) 9223372036854775807 = y := ⟨_, rfl⟩
        rw [htc] at hB ⊢
        have Htc := Lib.hid htc
        have hqB := hf.keep0 HQsw7.out (by simp; omega)
        have hbB := HBsw7.out.frame hf (by simp) (ne_u8 hptw8.choose_spec (by decide))
        have hfs : Fr 0 [] [px] w8 (w8.setCell ⟨px, 3, none⟩ (.int .i64 tc.1)) := (Fr.refl w8).setCell (p := ⟨px, 3, none⟩) _ (Nat.zero_le _) (.inl (by simp))
        have HUsw8 := Lib.hid (hB.set hpex HGX.out hqB (by decide) 3 (.int .i64 tc.1))
        have HQsw8 := Lib.hid (block_set hqB 3 (.int .i64 tc.1))
        have HBsw8 := Lib.hid (hbB.far hfs hqB (by decide))
        have y7 : w8.cell? ⟨px, 3, none⟩ = some (.int .i64 0) := cell_at hqB 3
        have z7 := frozen_at hqB 3
        clear hr hf hptw8 hB htc hqB hbB hfs
        go_wp2_with fail
        obtain ⟨w8s, hww8⟩ : ∃ z, w8.setCell ⟨px, 3, none⟩ (.int .i64 tc.1) = z := ⟨_, rfl⟩
        rw [hww8] at HUsw8 HQsw8 HBsw8 ⊢
        clear y7 z7 hww8
        have hxe : (⟨sq, ta.1, tb.1, tc.1⟩ : LIt) = (itX (o1 - n + 1 + l.length) s).1 := by
          unfold itX
          simp only [HTA.out, Htb.out, Htc.out, HRS.out, HSQ.out]
        have hstep : unIX (o1 - n + 1) (n - k) l s = unIX (o1 - n + 1) (n - (k + 1)) (l ++ [⟨sq, ta.1, tb.1, tc.1⟩]) tc.2 := by
          rw [show n - k = n - (k + 1) + 1 by omega, unIX, if_neg (by rw [HS.out]; simp), ← hxe]
          unfold itX
          simp only [HTA.out, Htb.out, Htc.out]
        have HSTEP := Lib.hid hstep
        have hsn : (∀ b ∈ tc.2.1, b < 256) ∧ tc.2.1.length ≤ bs.length := by
          have a1 := numT_lt HTB.out.2 1 9223372036854775807
          have a2 := numT_le ta.2 1 9223372036854775807
          rw [Htb.out] at a1 a2
          have a3 := numT_lt a1 (-9223372036854775808) 9223372036854775807
          have a4 := numT_le tb.2 (-9223372036854775808) 9223372036854775807
          rw [Htc.out] at a3 a4
          exact ⟨a3, Nat.le_trans a4 (Nat.le_trans a2 HTL.out.2)⟩
        have HSN := Lib.hid hsn
        obtain ⟨x, hx⟩ : ∃ x : LIt, (⟨sq, ta.1, tb.1, tc.1⟩ : LIt) = x := ⟨_, rfl⟩
        have HU9 : Hid (UE w 103 55 91 pt pe D tc.2 (.slice Av l.length cv) l o1 o2 w8s) := HUsw8
        have HB9 : Hid (ByO w8s (.slice Ab nb cb) x.body) := Lib.hid (by rw [← hx]; exact HBsw8.out)
        have HQ9 := HQsw8
        have HXE : Hid (encL ⟨x, .slice Ab nb cb⟩ = [.int .i64 sq, .slice Ab nb cb, .int .i64 tb.1, .int .i64 tc.1]) := Lib.hid (by rw [← hx]; rfl)
        rw [hx] at HSTEP
        obtain ⟨b1, hb1⟩ : ∃ b1, tb.1 = b1 := ⟨_, rfl⟩
        obtain ⟨c1, hc1⟩ : ∃ c1, tc.1 = c1 := ⟨_, rfl⟩
        obtain ⟨s9, hs9⟩ : ∃ s9, tc.2 = s9 := ⟨_, rfl⟩
        rw [hb1, hc1] at HQ9 HXE
        rw [hs9] at HU9 HSTEP HSN
        obtain ⟨w9, hw9⟩ : ∃ w9, w8s = w9 := ⟨_, rfl⟩
        rw [hw9] at HU9 HB9 HQ9
        simp only [hw9]
        clear hxe hstep hsn hx hb1 hc1 hs9 hw9 HUsw8 HBsw8 HQsw8
        refine wp_region_flow2 (fun W => Fr 0 [91] [] w9 W ∧ W.heap[px]? = some (.cells #[.int .i64 sq, .slice Ab nb cb, .int .i64 b1, .int .i64 c1] 91 (0, 0))) (fun W => UE w 103 55 91 pt pe D s9 (.slice Av l.length cv) l o1 o2 W) [0, 1, 2, 3, 4, 5, 6, 7, 8, 9, 10] (by kernel_rfl) (by kernel_rfl) (by kernel_rfl) (⟨(Fr.refl w9).drew, HQ9.out⟩) ((HU9.out.below (Below.refl _ w9).drew)) ?_
        refine flow_val ?_ rfl (by kernel_rfl) (by rfl) (fun W hW => ?_) ?_
        rotate_left 1
        · go_simp <;> with_reducible rfl
        simp only [Act.put, List.setIfInBounds_toArray, List.set_cons_succ, List.set_cons_zero]
        refine flow_val ?_ rfl (by kernel_rfl) (by rfl) (fun W hW => ?_) ?_
        rotate_left 1
        · go_simp <;> with_reducible rfl
        simp only [Act.put, List.setIfInBounds_toArray, List.set_cons_succ, List.set_cons_zero]
        refine flow_val ?_ rfl (by kernel_rfl) (by rfl) (fun W hW => ?_) ?_
        rotate_left 1
        · go_simp <;> with_reducible rfl
        simp only [Act.put, List.setIfInBounds_toArray, List.set_cons_succ, List.set_cons_zero]
        refine flow_val ?_ rfl (by kernel_rfl) (by rfl) (fun W hW => ?_) ?_
        rotate_left 1
        · go_simp <;> with_reducible rfl
        simp only [Act.put, List.setIfInBounds_toArray, List.set_cons_succ, List.set_cons_zero]
        refine flow_val ?_ rfl (by kernel_rfl) (by rfl) (fun W hW => ?_) ?_
        rotate_left 1
        · have e1 : W.cell? ⟨pe, 0, none⟩ = some (.slice Av l.length cv) := cell_at (hW.1.keep HU9.out.e (by decide) (by simp)) 0; go_simp <;> with_reducible rfl
        simp only [Act.put, List.setIfInBounds_toArray, List.set_cons_succ, List.set_cons_zero]
        refine flow_val ?_ rfl (by kernel_rfl) (by rfl) (fun W hW => ?_) ?_
        rotate_left 1
        · have e1 : W.cell? ⟨px, 0, none⟩ = some (.int .i64 sq) := cell_at hW.2 0; have e2 : W.cell? ⟨px, 1, none⟩ = some (.slice Ab nb cb) := cell_at hW.2 1; have e3 : W.cell? ⟨px, 2, none⟩ = some (.int .i64 b1) := cell_at hW.2 2; have e4 : W.cell? ⟨px, 3, none⟩ = some (.int .i64 c1) := cell_at hW.2 3; go_simp <;> with_reducible rfl
        simp only [Act.put, List.setIfInBounds_toArray, List.set_cons_succ, List.set_cons_zero]
        refine flow_gmake (fun v W => ∃ g', v = .slice (some ⟨g', 0, none⟩) 1 1 ∧ W.heap[g']? = some (.cells #[.int .i64 sq, .slice Ab nb cb, .int .i64 b1, .int .i64 c1] 91 (0, 0)) ∧ UE w 103 55 91 pt pe D s9 (.slice Av l.length cv) l o1 o2 W) rfl (by kernel_rfl) (by rfl) (by kernel_rfl) (fun W hW hC => ?_) ?_
        · have hb : Below W.heap.size W (W.alloc (.cells #[.int .i64 sq, .slice Ab nb cb, .int .i64 b1, .int .i64 c1] 91)) := (Below.refl _ W).alloc (Nat.le_refl _) _
          exact ⟨_, _, by go_simp <;> with_reducible rfl, ⟨hW.1.then hb, (hb.block _ (lt_of_block hW.2)).trans hW.2⟩, ⟨_, rfl, block_new _ _, hC.below hb⟩⟩
        rintro v54 ⟨_, _, g54, rfl, _, _⟩
        simp only [Act.put, List.setIfInBounds_toArray, List.set_cons_succ, List.set_cons_zero]
        refine flow_gmake (fun v W => UF w 103 55 91 pt pe D s9 (.slice Av l.length cv) v (l ++ [x]) o1 o2 W) rfl (by kernel_rfl) (by rfl) (by kernel_rfl) (fun W hW hC => ?_) ?_
        · obtain ⟨g2, e2, hg2, hC2⟩ := hC
          injection e2 with e2 _ _
          injection e2 with e2
          injection e2 with e2 _ _
          subst e2
          obtain ⟨zs, hz, ho, hbo⟩ := hC2.r
          have hbx := (HB9.out.frame hW.1.1 (by decide) (by simp))
          refine exec_append_rd (.tmp 68) (.tmp 70) 53 rfl pe 91 i0 (.agg #[.int .i64 0, .slice none 0 0, .int .i64 0, .int .i64 0]) 4 48 Try.underlying53 hi0 hz0 hz1 hz2 rfl (by decide) (.slice Av l.length cv) l.length (zs.flatMap encL) rfl ho (some ⟨g54, 0, none⟩) 1 1 (encL ⟨x, .slice Ab nb cb⟩) rfl ⟨rfl, fun _ => ⟨_, _, rfl, lt_of_block hg2, fun j u hu => ?_⟩⟩ (by simp [encL, Value.oneCell']) (by rw [HRS.out]; unfold maxLen; omega) (by rw [HRS.out]; omega) (by have := lt_of_block hC2.e; omega) (fun v' w' x2 x3 => ?_)
          · rw [HXE.out] at hu
            match j, hu with
            | 0, hu => simp at hu; subst hu; rw [cell_at hg2]; rfl
            | 1, hu => simp at hu; subst hu; rw [cell_at hg2]; rfl
            | 2, hu => simp at hu; subst hu; rw [cell_at hg2]; rfl
            | 3, hu => simp at hu; subst hu; rw [cell_at hg2]; rfl
            | j + 4, hu => simp at hu
          · refine ⟨⟨⟨hW.1.1.trans (UE.fr ho x3 0 (Nat.zero_le _)), ?_⟩, trivial⟩, hC2.app (by decide) (by decide) hz ho hbo hbx x2 x3⟩
            rw [x3.block px (lt_of_block hW.1.2) (fun e => HGX.out px e.symm rfl)]
            exact hW.1.2
        rintro v55 ⟨_, _, hv55⟩
        simp only [Act.put, List.setIfInBounds_toArray, List.set_cons_succ, List.set_cons_zero]
        obtain ⟨xs55, ho55⟩ := hv55.r.own
        obtain ⟨A55, c55, e55, _, _, _, _⟩ := own_slice ho55
        rw [List.length_append, HRS.out] at e55
        subst e55
        clear hv55 ho55
        refine flow_val ?_ rfl (by kernel_rfl) (by rfl) (fun W hW => ?_) ?_
        rotate_left 1
        · go_simp <;> with_reducible rfl
        simp only [Act.put, List.setIfInBounds_toArray, List.set_cons_succ, List.set_cons_zero]
        refine flow_val ?_ rfl (by kernel_rfl) (by rfl) (fun W hW => ?_) ?_
        rotate_left 1
        · go_simp <;> with_reducible rfl
        simp only [Act.put, List.setIfInBounds_toArray, List.set_cons_succ, List.set_cons_zero]
        refine flow_bar (fun W => UE w 103 55 91 pt pe D s9 (.slice A55 (k + [x].length) c55) (l ++ [x]) o1 o2 W) (fun _ => True) rfl (by kernel_rfl) (by rfl) (by kernel_rfl) (by kernel_rfl) (fun W hW hC => ?_) ?_
        · have q1 := cell_at hC.e 0
          have q2 := frozen_at hC.e 0
          have HC := Lib.hid hC
          clear hC hW
          refine ⟨_, by go_simp <;> with_reducible rfl, ?_, trivial⟩
          exact HC.out.store (by decide)
        simp only [Act.put]
        refine flow_done2 ?_
        intro W hW _
        have H10 := Lib.hid hW
        clear hW
        go_wp2_with fail
        go_roundw
        case rel => exact ⟨k + 1, _, _, l ++ [x], hlt, by rw [List.length_append, HRS.out]; rfl, by go_num, H10.out.1, by rw [← HSTEP.out, HOK.out], HSN.out.1, HSN.out.2⟩
        case measure => simp [intOf]; omega
      · by_cases hbad : s.2 = true
        · have HR : Hid (unE bs = none) := Lib.hid (by
            rw [HU0.out, ← HOK.out, okI_eq _ _ _ _ _ (SameT.refl _) HSB.out]
            unfold okI
            rw [unI_bad _ _ _ _ hbad, doneT_bad hbad]
            rfl)
          rw [hbad] at t1
          clear hlt hbad
          rcases (by omega : k < n ∨ k = n) with hk' | hk'
          · have hdk : decide (k < n) = true := decide_eq_true hk'
            go_wp2_with fail
            refine bodyPost_ret (results_tmp2 rfl _ _ _) rfl ?_
            exact retUE_none HR.out HU.out.bel
          · subst hk'
            go_wp2_with fail
            refine bodyPost_ret (results_tmp2 rfl _ _ _) rfl ?_
            exact retUE_none HR.out HU.out.bel
        · have hs : s.2 = false := by simpa using hbad
          rw [hs] at t1
          obtain rfl : k = n := by
            rcases (by omega : k < n ∨ k = n) with h | h
            · exact absurd ⟨h, hs⟩ hlt
            · exact h
          have HFIN : Hid (unE bs = endE o1 o2 (okI (l, s))) := Lib.hid (by rw [HU0.out, ← HOK.out, Nat.sub_self]; rfl)
          have HS := Lib.hid hs
          obtain ⟨z, hz⟩ : ∃ z, s.1.length = z := ⟨_, rfl⟩
          rw [hz] at t0 kt2
          have HZL := Lib.hid hz
          clear hlt hbad hs hz
          by_cases hl0 : 0 < z
          · have HR : Hid (unE bs = none) := Lib.hid (by
              rw [HFIN.out]
              have : doneT s = 10 := by unfold doneT; rw [if_pos (.inr (by rw [HZL.out]; exact hl0))]
              simp [okI, this, endE])
            go_wp2_with fail
            refine bodyPost_ret (results_tmp2 rfl _ _ _) rfl ?_
            exact retUE_none HR.out HU.out.bel
          · obtain rfl : z = 0 := by omega
            have HR : Hid (unE bs = some ⟨l, o1, o2⟩) := Lib.hid (by
              rw [HFIN.out]
              have : doneT s = 0 := by unfold doneT; rw [if_neg (by rw [HS.out, HZL.out]; simp)]
              simp [okI, this, endE])
            clear hl0
            go_wp2_with fail
            refine bodyPost_ret (results_tmp2 rfl _ _ _) rfl ?_
            exact retUE_some HR.out HU.out
end Go.Proofs.Ytnmbblkfaoihfaa

namespace Go.Proofs.Ytnmbblkfaoihfaa
open Go.RowKit

theorem Two.pack {w W : World} {p q : Nat} {s r : LSt} (h : Two w p q s r W) (hg : GoodE s) : Calls Try.prog 35 #[.pointer (some ⟨p, 0, none⟩)] W fun e W' => ∃ v, e = .returned v ∧ Bs W' v (packE s) ∧ Below W.heap.size W W' := by
  obtain ⟨G, H, h1, _⟩ := h
  exact lpack_any p G s W h1 hg
theorem Two.xpack {w W : World} {p q : Nat} {s r : LSt} (h : Two w p q s r W) (hg : GoodE r) : Calls Try.prog 37 #[.pointer (some ⟨q, 0, none⟩)] W fun e W' => ∃ v, e = .returned v ∧ Bs W' v (packE r) ∧ Below W.heap.size W W' := by
  obtain ⟨G, H, _, h2, _⟩ := h
  exact lxpack_any q H r W h2 hg
/-- Was one tried too often? -/
def farB (l : List LIt) : Bool := l.any fun x => decide (5000 < x.tries)
set_option maxRecDepth 100000 in
set_option maxHeartbeats 800000 in
theorem lfar_any (q : Nat) (H : Option Nat) (s : LSt) (w : World) (h : IsX w q H s) : Calls Try.prog 39 #[.pointer (some ⟨q, 0, none⟩)] w fun e w' => e = .returned (.bool (farB s.l)) ∧ w = w' := by
  obtain ⟨A, c, k1, k2, hp, hit⟩ := ise_view h
  have x0 : w.cell? ⟨q, 0, none⟩ = some (.slice A s.l.length c) := cell_at (hp w (Below.refl _ _)) 0
  have HIT := Lib.hid hit
  clear hp hit h
  go_enter Try.func39, Try.ntmps39
  go_wp2_with fail
  go_loopw [3] (fun iv wr => ∃ k : Nat, k ≤ s.l.length ∧ iv = .int .i64 k ∧ wr = w ∧ farB (s.l.drop k) = farB s.l) (fun iv _ => s.l.length - (intOf iv).toNat)
  case atStart => exact ⟨0, Nat.zero_le _, rfl, rfl, rfl⟩
  case round =>
    obtain ⟨k, hk, rfl, rfl, hf⟩ := hrel
    have HF := Lib.hid hf
    clear hf
    by_cases hlt : k < s.l.length
    · obtain ⟨g, Ab, cb, rfl, hc⟩ := HIT.out k hlt
      obtain ⟨_, _, c2, _⟩ := hc wr (Below.refl _ _)
      have hd : s.l.drop k = s.l[k] :: s.l.drop (k + 1) := List.drop_eq_getElem_cons hlt
      have HD := Lib.hid hd
      obtain ⟨x, hx⟩ : ∃ x, s.l[k] = x := ⟨_, rfl⟩
      rw [hx] at c2 HD
      clear hc hd hx
      by_cases hbig : 5000 < x.tries
      · have HR : Hid (farB s.l = true) := Lib.hid (by rw [← HF.out, HD.out]; simp [farB, hbig])
        go_wp2
        go_ret
        simp [HR.out]
      · have HR : Hid (farB (s.l.drop (k + 1)) = farB s.l) := Lib.hid (by rw [← HF.out, HD.out]; simp [farB, hbig])
        go_wp2_with fail
        go_roundw
        case rel => exact ⟨k + 1, hlt, by go_num, by trivial, HR.out⟩
        case measure => simp [intOf]; omega
    · have HR : Hid (farB s.l = false) := Lib.hid (by rw [← HF.out, List.drop_eq_nil_of_le (by omega)]; rfl)
      go_wp2
      go_ret
      simp [HR.out]
end Go.Proofs.Ytnmbblkfaoihfaa
