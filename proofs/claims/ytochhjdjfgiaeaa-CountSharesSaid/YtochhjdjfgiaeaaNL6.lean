/- The law CountShares: a number that is shared by weights. The walk. -/
import Derived.Test.YtochhjdjfgiaeaaNShLaw
import Derived.Test.YtochhjdjfgiaeaaNLives
import Derived.Test.YtochhjdjfgiaeaaNL4
namespace Go.Proofs.Ytochhjdjfgiaeaa
open Go.RowKit

set_option maxRecDepth 100000 in
set_option maxHeartbeats 4000000 in
theorem shares_any (n : Int) (A : Option Addr) (c : Nat) (xs : List Int) (w : World) (hr : Rd w 1 A xs.length (xs.map i64v)) :
    Calls Try.prog 5 #[.int .i64 n, .slice A xs.length c] w fun e w' => e = .returned (.bool true) ∧ Below w.heap.size w w' := by
  obtain ⟨i0, hi0, hz0, hz1, hz2⟩ := info_parts' Try.infoI
  have HR := Lib.hid hr
  clear hr
  go_enter Try.func5, Try.ntmps5
  by_cases hl : 1000 < xs.length
  · clear hi0 hz0 hz1 hz2
    go_wp2_with fail
    refine (lives_any w).mono ?_
    rintro e w1 ⟨rfl, h1⟩
    have H1 := Lib.hid h1
    clear h1
    go_wp2
    go_ret
    exact ⟨rfl, H1.out⟩
  · have hl' : xs.length ≤ 1000 := by omega
    have h1' : ∀ u ∈ xs.map i64v, u.oneCell' = true := by
      intro u hu
      obtain ⟨x, _, rfl⟩ := List.mem_map.1 hu
      rfl
    go_wp2_with (first
      | (at_builtin
         refine wpList_append_rd _ rfl (.tmp 16) (.tmp 17) 31 rfl w.heap.size 3 i0 (.int .i64 0) 1 8 Try.underlying31 hi0 hz0 hz1 hz2 rfl (by decide) (.slice (some ⟨w.heap.size, 0, none⟩) 0 0) 0 [] rfl (own_empty w _) A xs.length c (xs.map i64v) rfl (HR.out.below ((Below.refl _ _).alloc (Nat.le_refl _) _)) h1' (by unfold maxLen; omega) (by omega) (by simp) ?_
         intro v2 w2 hown2 hgrow2 _
         have HO2 := Lib.hid hown2
         have hG2 := Fr.grown (B := w.heap.size) (T := [3]) (S := []) ((Fr.refl w).alloc (.cells #[] 3)) hgrow2 (fun j hj => by
           simp [Value.ownBlock] at hj
           subst hj
           exact ⟨Nat.le_refl _, .inr ⟨_, _, _, block_new _ _, by simp⟩⟩)
         have HB2 := Lib.hid (hG2.below (Nat.le_refl _))
         clear hown2 hgrow2 hG2)
      | fail)
    obtain ⟨A2, c2, rfl, _, km2, hr2, _⟩ := own_slice HO2.out
    simp only [Nat.zero_add, List.nil_append] at hr2 ⊢
    have hc2 : c2 ≤ 9223372036854775807 := by unfold maxLen at km2; omega
    have HR2 := Lib.hid hr2
    clear hi0 hz0 hz1 hz2 km2 HO2 hr2 h1'
    by_cases hmay : ∃ N us, MaySh n xs N us
    case neg =>
      refine (share_no hmay A2 c2 w2 (by omega) HR2.out).mono ?_
      rintro e w3 ⟨rfl, h3⟩
      have H3 := Lib.hid (HB2.out.trans (h3.mono HB2.out.size))
      have HMAY := Lib.hid hmay
      clear h3 hmay
      go_wp2_with fail
      refine (xshare_no HMAY.out A c w3 (HR.out.below H3.out)).mono ?_
      rintro e w4 ⟨rfl, h4⟩
      have H4 := Lib.hid (H3.out.trans (h4.mono H3.out.size))
      clear h4
      go_wp2_with fail
      refine (lives_any w4).mono ?_
      rintro e w5 ⟨rfl, h5⟩
      have H5 := Lib.hid (H4.out.trans (h5.mono H4.out.size))
      clear h5
      go_wp2_with fail
      go_loopw [10, 11] (fun s i wl => s = .int .i64 0 ∧ i = .int .i64 0 ∧ w5 = wl) (fun _ _ _ => 0)
      case atStart => exact ⟨rfl, rfl, rfl⟩
      case round =>
        obtain ⟨rfl, rfl, rfl⟩ := hrel
        go_wp2
        go_ret
        exact ⟨rfl, H5.out⟩
    case pos =>
      obtain ⟨N, us, hm⟩ := hmay
      have HM := Lib.hid hm
      have hxl : xs.length = us.length := by rw [hm.wts, List.length_map]
      have hnN := hm.num
      have HXL := Lib.hid hxl
      have HNN := Lib.hid hnN
      refine (share_ok hm A2 c2 w2 HR2.out).mono ?_
      clear hm hxl hnN
      rintro e w3 ⟨g1, rfl, hg1, _, h3⟩
      have H3 := Lib.hid (HB2.out.trans (h3.mono HB2.out.size))
      have HR3 := Lib.hid (HR2.out.below h3)
      have HG1 := Lib.hid hg1
      clear h3 hg1
      go_wp2_with fail
      refine (xshare_ok HM.out A c w3 (HR.out.below H3.out)).mono ?_
      rintro e w4 ⟨g2, rfl, hg2, _, h4⟩
      have H4 := Lib.hid (H3.out.trans (h4.mono H3.out.size))
      have HR4 := Lib.hid (HR3.out.below h4)
      have HG4 := Lib.hid ((h4.block g1 (lt_of_block HG1.out)).trans HG1.out)
      have HG2 := Lib.hid hg2
      clear h4 hg2
      go_wp2_with fail
      refine (lives_any w4).mono ?_
      rintro e w5 ⟨rfl, h5⟩
      have H5 := Lib.hid (H4.out.trans (h5.mono H4.out.size))
      have HR5 := Lib.hid (HR4.out.below h5)
      have HG5 := Lib.hid ((h5.block g1 (lt_of_block HG4.out)).trans HG4.out)
      have HG6 := Lib.hid ((h5.block g2 (lt_of_block HG2.out)).trans HG2.out)
      clear h5 HG1 HG2 HG4 HR2 HR3 HR4 HB2 H3 H4
      obtain ⟨o, ho⟩ : ∃ o, shO N us = o := ⟨_, rfl⟩
      rw [ho] at HG5 HG6
      have hol : o.length = xs.length := by rw [← ho, shO_len, HXL.out]
      have HOL := Lib.hid hol
      have HOS : Hid (o.sum = (N : Int)) := Lib.hid (by rw [← ho]; exact shO_sum HM.out.sum)
      have HON : Hid (∀ x ∈ o, 0 ≤ x) := Lib.hid (by rw [← ho]; exact shO_nn HM.out.sum)
      have HOZ : Hid (∀ i, i < us.length → us.getD i 0 = 0 → o.getD i 0 = 0) := Lib.hid (fun i hi h0 => by rw [← ho]; exact shO_zero HM.out.sum hi h0)
      clear ho hol
      go_wp2_with fail
      go_loopw [10, 11] (fun s iv wl => ∃ i : Nat, i ≤ xs.length ∧ iv = .int .i64 (i : Int) ∧ s = .int .i64 (o.take i).sum ∧ Below w5.heap.size w5 wl) (fun _ iv _ => xs.length - (intOf iv).toNat)
      case atStart => exact ⟨0, Nat.zero_le _, rfl, by simp, Below.refl _ _⟩
      case round =>
        obtain ⟨i, hi, rfl, rfl, hbl⟩ := hrel
        rename World => wl
        have HBL := Lib.hid hbl
        by_cases hlt : i < xs.length
        · have hil : (i : Int) < (xs.length : Int) := by omega
          have hio : i < o.length := by rw [HOL.out]; exact hlt
          have hiu : i < us.length := by rw [← HXL.out]; exact hlt
          obtain ⟨gA, oA, eA, hgA, hcA⟩ := HR.out.2 (by omega)
          obtain ⟨gB, oB, eB, hgB, hcB⟩ := HR5.out.2 (by omega)
          subst eA
          subst eB
          have hts := isum_take_succ o i hio
          have hb1 := isum_take_le o HON.out i
          have hb2 := isum_take_le o HON.out (i + 1)
          have hos := HOS.out
          have hnl := HM.out.nle
          have hgi : o.getD i 0 = o[i] := by simp [hio]
          have hzz := HOZ.out i hiu
          have hxu : xs[i] = ((us.getD i 0 : Nat) : Int) := by
            have := HM.out.wts
            simp [this, hiu]
          obtain ⟨x, hx⟩ : ∃ x, xs[i] = x := ⟨_, rfl⟩
          obtain ⟨y, hy⟩ : ∃ y, o[i] = y := ⟨_, rfl⟩
          obtain ⟨s, hs⟩ : ∃ s, (o.take i).sum = s := ⟨_, rfl⟩
          rw [hx] at hxu
          rw [hgi, hy] at hzz
          rw [hy] at hts
          rw [hs] at hts hb1 ⊢
          have hzy : x = 0 → y = 0 := fun h => hzz (by omega)
          have hwr : IntKind.i64.wrap (s + y) = s + y := IntWalk.i64_in _ (by omega)
          have HTS := Lib.hid hts
          have CC : Hid (∀ W, Below wl.heap.size wl W → True ∧ True ∧ W.cell? ⟨g1, i, none⟩ = some (.int .i64 y) ∧ W.cell? ⟨g2, i, none⟩ = some (.int .i64 y) ∧ W.cell? ⟨gB, oB + i, none⟩ = some (.int .i64 x) ∧ W.cell? ⟨gA, oA + i, none⟩ = some (.int .i64 x)) := Lib.hid (fun W hW => by
            have b1 := hbl.trans (hW.mono hbl.size)
            refine ⟨trivial, trivial, ?_, ?_, ?_, ?_⟩
            · rw [cell_at ((b1.block g1 (lt_of_block HG5.out)).trans HG5.out)]
              simp [i64v, hio, hy]
            · rw [cell_at ((b1.block g2 (lt_of_block HG6.out)).trans HG6.out)]
              simp [i64v, hio, hy]
            · exact (b1.cell (p := ⟨gB, oB + i, none⟩) hgB).trans (hcB i _ (by simp [hlt, i64v, hx]))
            · exact ((H5.out.trans (b1.mono H5.out.size)).cell (p := ⟨gA, oA + i, none⟩) hgA).trans (hcA i _ (by simp [hlt, i64v, hx])))
          clear hcA hcB hts hb1 hb2 hos hnl hgi hzz hxu hx hy hs hbl hio hiu
          by_cases hx0 : x = 0
          · obtain rfl := hx0
            obtain rfl := hzy rfl
            rw [Int.add_zero] at hwr HTS
            clear hzy
            go_wp2_with fail
            refine wp_region_flow (fun W => Below wl.heap.size wl W) [0, 1, 2, 3, 4, 5, 6, 7, 8, 9, 10, 11, 12, 13, 14, 15, 16, 17, 18, 19, 20, 21, 22, 23, 24, 25, 26, 27, 28, 29, 30, 31, 32, 33] (by kernel_rfl) (by kernel_rfl) (by kernel_rfl) ((Below.refl _ _).drew) ?_
            refine flow_val ?_ rfl (by kernel_rfl) (by rfl) (fun W hW => ?_) ?_
            rotate_left 1
            · go_simp <;> with_reducible rfl
            simp only [Act.put, List.setIfInBounds_toArray, List.set_cons_succ, List.set_cons_zero]
            refine flow_val ?_ rfl (by kernel_rfl) (by rfl) (fun W hW => ?_) ?_
            rotate_left 1
            · go_simp <;> with_reducible rfl
            simp only [Act.put, List.setIfInBounds_toArray, List.set_cons_succ, List.set_cons_zero]
            refine flow_val ?_ rfl (by kernel_rfl) (by rfl) (fun W hW => ?_) ?_
            rotate_left 1
            · go_simp <;> with_reducible rfl
            simp only [Act.put, List.setIfInBounds_toArray, List.set_cons_succ, List.set_cons_zero]
            refine flow_val ?_ rfl (by kernel_rfl) (by rfl) (fun W hW => ?_) ?_
            rotate_left 1
            · obtain ⟨_, _, e0, e1, e2, e3⟩ := CC.out W hW; go_simp <;> with_reducible rfl
            simp only [Act.put, List.setIfInBounds_toArray, List.set_cons_succ, List.set_cons_zero]
            refine flow_val ?_ rfl (by kernel_rfl) (by rfl) (fun W hW => ?_) ?_
            rotate_left 1
            · go_simp <;> with_reducible rfl
            simp only [Act.put, List.setIfInBounds_toArray, List.set_cons_succ, List.set_cons_zero]
            refine flow_val ?_ rfl (by kernel_rfl) (by rfl) (fun W hW => ?_) ?_
            rotate_left 1
            · go_simp <;> with_reducible rfl
            simp only [Act.put, List.setIfInBounds_toArray, List.set_cons_succ, List.set_cons_zero]
            refine flow_val ?_ rfl (by kernel_rfl) (by rfl) (fun W hW => ?_) ?_
            rotate_left 1
            · go_simp <;> with_reducible rfl
            simp only [Act.put, List.setIfInBounds_toArray, List.set_cons_succ, List.set_cons_zero]
            refine flow_val ?_ rfl (by kernel_rfl) (by rfl) (fun W hW => ?_) ?_
            rotate_left 1
            · obtain ⟨_, _, e0, e1, e2, e3⟩ := CC.out W hW; go_simp <;> with_reducible rfl
            simp only [Act.put, List.setIfInBounds_toArray, List.set_cons_succ, List.set_cons_zero]
            refine flow_val ?_ rfl (by kernel_rfl) (by rfl) (fun W hW => ?_) ?_
            rotate_left 1
            · go_simp <;> with_reducible rfl
            simp only [Act.put, List.setIfInBounds_toArray, List.set_cons_succ, List.set_cons_zero]
            refine flow_val ?_ rfl (by kernel_rfl) (by rfl) (fun W hW => ?_) ?_
            rotate_left 1
            · go_simp <;> with_reducible rfl
            simp only [Act.put, List.setIfInBounds_toArray, List.set_cons_succ, List.set_cons_zero]
            refine flow_val ?_ rfl (by kernel_rfl) (by rfl) (fun W hW => ?_) ?_
            rotate_left 1
            · go_simp <;> with_reducible rfl
            simp only [Act.put, List.setIfInBounds_toArray, List.set_cons_succ, List.set_cons_zero]
            refine flow_val ?_ rfl (by kernel_rfl) (by rfl) (fun W hW => ?_) ?_
            rotate_left 1
            · go_simp <;> with_reducible rfl
            simp only [Act.put, List.setIfInBounds_toArray, List.set_cons_succ, List.set_cons_zero]
            refine flow_val ?_ rfl (by kernel_rfl) (by rfl) (fun W hW => ?_) ?_
            rotate_left 1
            · go_simp <;> with_reducible rfl
            simp only [Act.put, List.setIfInBounds_toArray, List.set_cons_succ, List.set_cons_zero]
            refine flow_val ?_ rfl (by kernel_rfl) (by rfl) (fun W hW => ?_) ?_
            rotate_left 1
            · obtain ⟨_, _, e0, e1, e2, e3⟩ := CC.out W hW; go_simp <;> with_reducible rfl
            simp only [Act.put, List.setIfInBounds_toArray, List.set_cons_succ, List.set_cons_zero]
            refine flow_val ?_ rfl (by kernel_rfl) (by rfl) (fun W hW => ?_) ?_
            rotate_left 1
            · go_simp <;> with_reducible rfl
            simp only [Act.put, List.setIfInBounds_toArray, List.set_cons_succ, List.set_cons_zero]
            refine flow_val ?_ rfl (by kernel_rfl) (by rfl) (fun W hW => ?_) ?_
            rotate_left 1
            · go_simp <;> with_reducible rfl
            simp only [Act.put, List.setIfInBounds_toArray, List.set_cons_succ, List.set_cons_zero]
            refine flow_val ?_ rfl (by kernel_rfl) (by rfl) (fun W hW => ?_) ?_
            rotate_left 1
            · go_simp <;> with_reducible rfl
            simp only [Act.put, List.setIfInBounds_toArray, List.set_cons_succ, List.set_cons_zero]
            refine flow_val ?_ rfl (by kernel_rfl) (by rfl) (fun W hW => ?_) ?_
            rotate_left 1
            · obtain ⟨_, _, e0, e1, e2, e3⟩ := CC.out W hW; go_simp <;> with_reducible rfl
            simp only [Act.put, List.setIfInBounds_toArray, List.set_cons_succ, List.set_cons_zero]
            refine flow_val ?_ rfl (by kernel_rfl) (by rfl) (fun W hW => ?_) ?_
            rotate_left 1
            · go_simp <;> with_reducible rfl
            simp only [Act.put, List.setIfInBounds_toArray, List.set_cons_succ, List.set_cons_zero]
            refine flow_val ?_ rfl (by kernel_rfl) (by rfl) (fun W hW => ?_) ?_
            rotate_left 1
            · go_simp <;> with_reducible rfl
            simp only [Act.put, List.setIfInBounds_toArray, List.set_cons_succ, List.set_cons_zero]
            refine flow_val ?_ rfl (by kernel_rfl) (by rfl) (fun W hW => ?_) ?_
            rotate_left 1
            · go_simp <;> with_reducible rfl
            simp only [Act.put, List.setIfInBounds_toArray, List.set_cons_succ, List.set_cons_zero]
            refine flow_val ?_ rfl (by kernel_rfl) (by rfl) (fun W hW => ?_) ?_
            rotate_left 1
            · go_simp <;> with_reducible rfl
            simp only [Act.put, List.setIfInBounds_toArray, List.set_cons_succ, List.set_cons_zero]
            refine flow_val ?_ rfl (by kernel_rfl) (by rfl) (fun W hW => ?_) ?_
            rotate_left 1
            · go_simp <;> with_reducible rfl
            simp only [Act.put, List.setIfInBounds_toArray, List.set_cons_succ, List.set_cons_zero]
            refine flow_val ?_ rfl (by kernel_rfl) (by rfl) (fun W hW => ?_) ?_
            rotate_left 1
            · go_simp <;> with_reducible rfl
            simp only [Act.put, List.setIfInBounds_toArray, List.set_cons_succ, List.set_cons_zero]
            refine flow_val ?_ rfl (by kernel_rfl) (by rfl) (fun W hW => ?_) ?_
            rotate_left 1
            · obtain ⟨_, _, e0, e1, e2, e3⟩ := CC.out W hW; go_simp <;> with_reducible rfl
            simp only [Act.put, List.setIfInBounds_toArray, List.set_cons_succ, List.set_cons_zero]
            refine flow_val ?_ rfl (by kernel_rfl) (by rfl) (fun W hW => ?_) ?_
            rotate_left 1
            · go_simp <;> with_reducible rfl
            simp only [Act.put, List.setIfInBounds_toArray, List.set_cons_succ, List.set_cons_zero]
            refine flow_val ?_ rfl (by kernel_rfl) (by rfl) (fun W hW => ?_) ?_
            rotate_left 1
            · go_simp <;> with_reducible rfl
            simp only [Act.put, List.setIfInBounds_toArray, List.set_cons_succ, List.set_cons_zero]
            refine flow_val ?_ rfl (by kernel_rfl) (by rfl) (fun W hW => ?_) ?_
            rotate_left 1
            · go_simp <;> with_reducible rfl
            simp only [Act.put, List.setIfInBounds_toArray, List.set_cons_succ, List.set_cons_zero]
            refine flow_val ?_ rfl (by kernel_rfl) (by rfl) (fun W hW => ?_) ?_
            rotate_left 1
            · go_simp <;> with_reducible rfl
            simp only [Act.put, List.setIfInBounds_toArray, List.set_cons_succ, List.set_cons_zero]
            refine flow_val ?_ rfl (by kernel_rfl) (by rfl) (fun W hW => ?_) ?_
            rotate_left 1
            · go_simp <;> with_reducible rfl
            simp only [Act.put, List.setIfInBounds_toArray, List.set_cons_succ, List.set_cons_zero]
            refine flow_val ?_ rfl (by kernel_rfl) (by rfl) (fun W hW => ?_) ?_
            rotate_left 1
            · obtain ⟨_, _, e0, e1, e2, e3⟩ := CC.out W hW; go_simp <;> with_reducible rfl
            simp only [Act.put, List.setIfInBounds_toArray, List.set_cons_succ, List.set_cons_zero]
            refine flow_val ?_ rfl (by kernel_rfl) (by rfl) (fun W hW => ?_) ?_
            rotate_left 1
            · go_simp <;> with_reducible rfl
            simp only [Act.put, List.setIfInBounds_toArray, List.set_cons_succ, List.set_cons_zero]
            refine flow_val ?_ rfl (by kernel_rfl) (by rfl) (fun W hW => ?_) ?_
            rotate_left 1
            · go_simp <;> with_reducible rfl
            simp only [Act.put, List.setIfInBounds_toArray, List.set_cons_succ, List.set_cons_zero]
            refine flow_val ?_ rfl (by kernel_rfl) (by rfl) (fun W hW => ?_) ?_
            rotate_left 1
            · go_simp <;> with_reducible rfl
            simp only [Act.put, List.setIfInBounds_toArray, List.set_cons_succ, List.set_cons_zero]
            refine flow_done ?_
            intro W hW
            have HB9 := Lib.hid (HBL.out.trans (hW.mono HBL.out.size))
            obtain ⟨_, _, e0, _, _, _⟩ := CC.out W hW
            clear hW
            go_wp2_with fail
            go_roundw
            case rel => exact ⟨i + 1, hlt, by go_num, by rw [HTS.out], HB9.out⟩
            case measure => simp [intOf]; omega
          · have hxb : (x == 0) = false := by simpa using hx0
            clear hzy hx0
            go_wp2_with fail
            refine wp_region_flow (fun W => Below wl.heap.size wl W) [0, 1, 2, 3, 4, 5, 6, 7, 8, 9, 10, 11, 12, 13, 14, 15, 16, 17, 18, 19, 20, 21, 22, 23, 24, 25, 26, 27, 28, 29, 30, 31, 32, 33] (by kernel_rfl) (by kernel_rfl) (by kernel_rfl) ((Below.refl _ _).drew) ?_
            refine flow_val ?_ rfl (by kernel_rfl) (by rfl) (fun W hW => ?_) ?_
            rotate_left 1
            · go_simp <;> with_reducible rfl
            simp only [Act.put, List.setIfInBounds_toArray, List.set_cons_succ, List.set_cons_zero]
            refine flow_val ?_ rfl (by kernel_rfl) (by rfl) (fun W hW => ?_) ?_
            rotate_left 1
            · go_simp <;> with_reducible rfl
            simp only [Act.put, List.setIfInBounds_toArray, List.set_cons_succ, List.set_cons_zero]
            refine flow_val ?_ rfl (by kernel_rfl) (by rfl) (fun W hW => ?_) ?_
            rotate_left 1
            · go_simp <;> with_reducible rfl
            simp only [Act.put, List.setIfInBounds_toArray, List.set_cons_succ, List.set_cons_zero]
            refine flow_val ?_ rfl (by kernel_rfl) (by rfl) (fun W hW => ?_) ?_
            rotate_left 1
            · obtain ⟨_, _, e0, e1, e2, e3⟩ := CC.out W hW; go_simp <;> with_reducible rfl
            simp only [Act.put, List.setIfInBounds_toArray, List.set_cons_succ, List.set_cons_zero]
            refine flow_val ?_ rfl (by kernel_rfl) (by rfl) (fun W hW => ?_) ?_
            rotate_left 1
            · go_simp <;> with_reducible rfl
            simp only [Act.put, List.setIfInBounds_toArray, List.set_cons_succ, List.set_cons_zero]
            refine flow_val ?_ rfl (by kernel_rfl) (by rfl) (fun W hW => ?_) ?_
            rotate_left 1
            · go_simp <;> with_reducible rfl
            simp only [Act.put, List.setIfInBounds_toArray, List.set_cons_succ, List.set_cons_zero]
            refine flow_val ?_ rfl (by kernel_rfl) (by rfl) (fun W hW => ?_) ?_
            rotate_left 1
            · go_simp <;> with_reducible rfl
            simp only [Act.put, List.setIfInBounds_toArray, List.set_cons_succ, List.set_cons_zero]
            refine flow_val ?_ rfl (by kernel_rfl) (by rfl) (fun W hW => ?_) ?_
            rotate_left 1
            · obtain ⟨_, _, e0, e1, e2, e3⟩ := CC.out W hW; go_simp <;> with_reducible rfl
            simp only [Act.put, List.setIfInBounds_toArray, List.set_cons_succ, List.set_cons_zero]
            refine flow_val ?_ rfl (by kernel_rfl) (by rfl) (fun W hW => ?_) ?_
            rotate_left 1
            · go_simp <;> with_reducible rfl
            simp only [Act.put, List.setIfInBounds_toArray, List.set_cons_succ, List.set_cons_zero]
            refine flow_val ?_ rfl (by kernel_rfl) (by rfl) (fun W hW => ?_) ?_
            rotate_left 1
            · go_simp <;> with_reducible rfl
            simp only [Act.put, List.setIfInBounds_toArray, List.set_cons_succ, List.set_cons_zero]
            refine flow_val ?_ rfl (by kernel_rfl) (by rfl) (fun W hW => ?_) ?_
            rotate_left 1
            · go_simp <;> with_reducible rfl
            simp only [Act.put, List.setIfInBounds_toArray, List.set_cons_succ, List.set_cons_zero]
            refine flow_val ?_ rfl (by kernel_rfl) (by rfl) (fun W hW => ?_) ?_
            rotate_left 1
            · go_simp <;> with_reducible rfl
            simp only [Act.put, List.setIfInBounds_toArray, List.set_cons_succ, List.set_cons_zero]
            refine flow_val ?_ rfl (by kernel_rfl) (by rfl) (fun W hW => ?_) ?_
            rotate_left 1
            · go_simp <;> with_reducible rfl
            simp only [Act.put, List.setIfInBounds_toArray, List.set_cons_succ, List.set_cons_zero]
            refine flow_val ?_ rfl (by kernel_rfl) (by rfl) (fun W hW => ?_) ?_
            rotate_left 1
            · obtain ⟨_, _, e0, e1, e2, e3⟩ := CC.out W hW; go_simp <;> with_reducible rfl
            simp only [Act.put, List.setIfInBounds_toArray, List.set_cons_succ, List.set_cons_zero]
            refine flow_val ?_ rfl (by kernel_rfl) (by rfl) (fun W hW => ?_) ?_
            rotate_left 1
            · go_simp <;> with_reducible rfl
            simp only [Act.put, List.setIfInBounds_toArray, List.set_cons_succ, List.set_cons_zero]
            refine flow_val ?_ rfl (by kernel_rfl) (by rfl) (fun W hW => ?_) ?_
            rotate_left 1
            · go_simp <;> with_reducible rfl
            simp only [Act.put, List.setIfInBounds_toArray, List.set_cons_succ, List.set_cons_zero]
            refine flow_val ?_ rfl (by kernel_rfl) (by rfl) (fun W hW => ?_) ?_
            rotate_left 1
            · go_simp <;> with_reducible rfl
            simp only [Act.put, List.setIfInBounds_toArray, List.set_cons_succ, List.set_cons_zero]
            refine flow_val ?_ rfl (by kernel_rfl) (by rfl) (fun W hW => ?_) ?_
            rotate_left 1
            · obtain ⟨_, _, e0, e1, e2, e3⟩ := CC.out W hW; go_simp <;> with_reducible rfl
            simp only [Act.put, List.setIfInBounds_toArray, List.set_cons_succ, List.set_cons_zero]
            refine flow_val ?_ rfl (by kernel_rfl) (by rfl) (fun W hW => ?_) ?_
            rotate_left 1
            · go_simp <;> with_reducible rfl
            simp only [Act.put, List.setIfInBounds_toArray, List.set_cons_succ, List.set_cons_zero]
            refine flow_val ?_ rfl (by kernel_rfl) (by rfl) (fun W hW => ?_) ?_
            rotate_left 1
            · go_simp <;> with_reducible rfl
            simp only [Act.put, List.setIfInBounds_toArray, List.set_cons_succ, List.set_cons_zero]
            refine flow_val ?_ rfl (by kernel_rfl) (by rfl) (fun W hW => ?_) ?_
            rotate_left 1
            · go_simp <;> with_reducible rfl
            simp only [Act.put, List.setIfInBounds_toArray, List.set_cons_succ, List.set_cons_zero]
            refine flow_val ?_ rfl (by kernel_rfl) (by rfl) (fun W hW => ?_) ?_
            rotate_left 1
            · go_simp <;> with_reducible rfl
            simp only [Act.put, List.setIfInBounds_toArray, List.set_cons_succ, List.set_cons_zero]
            refine flow_val ?_ rfl (by kernel_rfl) (by rfl) (fun W hW => ?_) ?_
            rotate_left 1
            · go_simp <;> with_reducible rfl
            simp only [Act.put, List.setIfInBounds_toArray, List.set_cons_succ, List.set_cons_zero]
            refine flow_val ?_ rfl (by kernel_rfl) (by rfl) (fun W hW => ?_) ?_
            rotate_left 1
            · go_simp <;> with_reducible rfl
            simp only [Act.put, List.setIfInBounds_toArray, List.set_cons_succ, List.set_cons_zero]
            refine flow_val ?_ rfl (by kernel_rfl) (by rfl) (fun W hW => ?_) ?_
            rotate_left 1
            · obtain ⟨_, _, e0, e1, e2, e3⟩ := CC.out W hW; go_simp <;> with_reducible rfl
            simp only [Act.put, List.setIfInBounds_toArray, List.set_cons_succ, List.set_cons_zero]
            refine flow_val ?_ rfl (by kernel_rfl) (by rfl) (fun W hW => ?_) ?_
            rotate_left 1
            · go_simp <;> with_reducible rfl
            simp only [Act.put, List.setIfInBounds_toArray, List.set_cons_succ, List.set_cons_zero]
            refine flow_val ?_ rfl (by kernel_rfl) (by rfl) (fun W hW => ?_) ?_
            rotate_left 1
            · go_simp <;> with_reducible rfl
            simp only [Act.put, List.setIfInBounds_toArray, List.set_cons_succ, List.set_cons_zero]
            refine flow_off rfl (by kernel_rfl) (by rfl) ?_
            simp only [Act.put, List.setIfInBounds_toArray, List.set_cons_succ, List.set_cons_zero]
            refine flow_off rfl (by kernel_rfl) (by rfl) ?_
            simp only [Act.put, List.setIfInBounds_toArray, List.set_cons_succ, List.set_cons_zero]
            refine flow_off rfl (by kernel_rfl) (by rfl) ?_
            simp only [Act.put, List.setIfInBounds_toArray, List.set_cons_succ, List.set_cons_zero]
            refine flow_off rfl (by kernel_rfl) (by rfl) ?_
            simp only [Act.put, List.setIfInBounds_toArray, List.set_cons_succ, List.set_cons_zero]
            refine flow_off rfl (by kernel_rfl) (by rfl) ?_
            simp only [Act.put, List.setIfInBounds_toArray, List.set_cons_succ, List.set_cons_zero]
            refine flow_val ?_ rfl (by kernel_rfl) (by rfl) (fun W hW => ?_) ?_
            rotate_left 1
            · go_simp <;> with_reducible rfl
            simp only [Act.put, List.setIfInBounds_toArray, List.set_cons_succ, List.set_cons_zero]
            refine flow_val ?_ rfl (by kernel_rfl) (by rfl) (fun W hW => ?_) ?_
            rotate_left 1
            · go_simp <;> with_reducible rfl
            simp only [Act.put, List.setIfInBounds_toArray, List.set_cons_succ, List.set_cons_zero]
            refine flow_done ?_
            intro W hW
            have HB9 := Lib.hid (HBL.out.trans (hW.mono HBL.out.size))
            obtain ⟨_, _, e0, _, _, _⟩ := CC.out W hW
            clear hW
            go_wp2_with fail
            go_roundw
            case rel => exact ⟨i + 1, hlt, by go_num, by rw [HTS.out], HB9.out⟩
            case measure => simp [intOf]; omega
        · obtain rfl : i = xs.length := by omega
          have ht : (o.take xs.length).sum = n := by rw [List.take_of_length_le (by rw [HOL.out]; exact Nat.le_refl _), HOS.out, HNN.out]
          rw [ht]
          clear ht hbl
          go_wp2
          go_ret
          exact ⟨ret_bool (by simp), H5.out.trans (HBL.out.mono H5.out.size)⟩
end Go.Proofs.Ytochhjdjfgiaeaa
