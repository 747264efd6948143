/- The law CellsFirsts: with which number any bytes begin. The walk. -/
import Derived.Test.YtlljeghlfijdnaaCL1
namespace Go.Proofs.Ytlljeghlfijdnaa
open Go.RowKit

set_option maxRecDepth 100000 in
set_option maxHeartbeats 2000000 in
theorem firsts_none (A : Option Addr) (c : Nat) (bs : List Nat) (w : World) (hb : IsBy w A c bs) (hf : firstN bs = none) :
    Calls Try.prog 4 #[.slice A bs.length c] w fun e w' => e = .returned (.bool true) ∧ Below w.heap.size w w' := by
  obtain ⟨i0, hi0, hz0, hz1, hz2⟩ := info_parts Try.infoByte
  have HB := Lib.hid hb
  obtain ⟨h1, h2, _, h4, _⟩ := hb
  have HF := Lib.hid (fstV_none hf)
  have HRF := Lib.hid (rfstV_none hf)
  clear hf
  have H4 := Lib.hid h4
  have H2 := Lib.hid h2
  clear h4
  obtain ⟨S, hS⟩ : ∃ S, strOf bs = S := ⟨_, rfl⟩
  have HS := Lib.hid hS
  clear hS
  go_enter Try.func4, Try.ntmps4
  go_wp2_with (first
    | (at_builtin
       refine wpList_append_rd _ rfl (.tmp 9) (.tmp 10) 22 rfl w.heap.size 5 i0 (.int .u8 0) 1 1 Try.underlying22 hi0 hz0 hz1 hz2 rfl (by decide) (.slice (some ⟨w.heap.size, 0, none⟩) 0 0) 0 [] rfl (own_of_cells w #[] 0 (Nat.zero_le _) rfl) A bs.length c (bs.map u8v) rfl (HB.out.2.2.1.below ((Below.refl _ _).alloc (Nat.le_refl _) _)) (u8_one' _) (by unfold maxLen; omega) (by omega) (by simp) ?_
       intro v2 w2 hown2 hgrow2 _
       have HO2 := Lib.hid hown2
       have hG2 := Fr.grown (B := w.heap.size) (T := [5]) (S := []) ((Fr.refl w).alloc (.cells #[] 5)) hgrow2 (fun j hj => by
         simp [Value.ownBlock] at hj
         subst hj
         exact ⟨Nat.le_refl _, .inr ⟨_, _, _, block_new _ _, by simp⟩⟩)
       have HB2 := Lib.hid (hG2.below (Nat.le_refl _))
       clear hown2 hgrow2 hG2))
  obtain ⟨A2, c2, rfl, k1, k2, k3, _⟩ := own_slice HO2.out
  have hbs2 : Rd w2 1 A2 bs.length (bs.map u8v) := by simpa using k3
  have HR2 := Lib.hid hbs2
  have HK2 := Lib.hid k2
  simp only [Nat.zero_add] at k1 ⊢
  clear k2 k3 hbs2 hi0 hz0 hz1 hz2 h2
  refine (first_any A2 c2 bs w2 HR2.out H4.out k1 HK2.out).mono ?_
  rintro e w3 ⟨rfl, hb3⟩
  rw [HF.out]
  have HB3 := Lib.hid (HB2.out.trans (hb3.mono HB2.out.size))
  have HR3 := Lib.hid (HR2.out.below hb3)
  have HRB3 := Lib.hid (HB.out.2.2.1.below HB3.out)
  clear hb3
  go_wp2_with fail
  refine (rfirst_any A c bs w3 HRB3.out H4.out h1 (by have := H2.out; unfold maxLen; omega)).mono ?_
  rintro e w4 ⟨rfl, hb4⟩
  rw [HRF.out]
  have HB4 := Lib.hid (HB3.out.trans (hb4.mono HB3.out.size))
  have HR4 := Lib.hid (HR3.out.below hb4)
  have HRB4 := Lib.hid (HRB3.out.below hb4)
  clear hb4
  go_wp2_with (go_at_call 15
               refine (lives_any _).mono ?_
               rintro e w5 ⟨rfl, hb5⟩
               have hs5 := HS.out ▸ run_str w5 A2 bs.length c2 bs (HR4.out.below hb5) H4.out
               have hs6 := HS.out ▸ run_str w5 A bs.length c bs (HRB4.out.below hb5) H4.out
               have HB5 := Lib.hid hb5
               have HRB5 := Lib.hid (HRB4.out.below hb5)
               clear hb5)
  clear hs5 hs6
  refine wp_region_flow (fun W => Below w5.heap.size w5 W) [0, 1, 2, 3, 4, 5, 6, 7, 8, 9, 10, 11, 12] (by kernel_rfl) (by kernel_rfl) (by kernel_rfl) ((Below.refl _ w5).drew) ?_
  refine flow_val ?_ rfl (by kernel_rfl) (by rfl) (fun W hW => ?_) ?_
  rotate_left 1
  · go_simp <;> with_reducible rfl
  simp only [Act.put, List.setIfInBounds_toArray, List.set_cons_succ, List.set_cons_zero]
  refine flow_val ?_ rfl (by kernel_rfl) (by rfl) (fun W hW => ?_) ?_
  rotate_left 1
  · go_simp <;> with_reducible rfl
  simp only [Act.put, List.setIfInBounds_toArray, List.set_cons_succ, List.set_cons_zero]
  refine flow_val ?_ rfl (by kernel_rfl) (by rfl) (fun W hW => ?_) ?_
  rotate_left 1
  · go_simp <;> with_reducible rfl
  simp only [Act.put, List.setIfInBounds_toArray, List.set_cons_succ, List.set_cons_zero]
  refine flow_off rfl (by kernel_rfl) (by rfl) ?_
  simp only [Act.put, List.setIfInBounds_toArray, List.set_cons_succ, List.set_cons_zero]
  refine flow_off rfl (by kernel_rfl) (by rfl) ?_
  simp only [Act.put, List.setIfInBounds_toArray, List.set_cons_succ, List.set_cons_zero]
  refine flow_off rfl (by kernel_rfl) (by rfl) ?_
  simp only [Act.put, List.setIfInBounds_toArray, List.set_cons_succ, List.set_cons_zero]
  refine flow_off rfl (by kernel_rfl) (by rfl) ?_
  simp only [Act.put, List.setIfInBounds_toArray, List.set_cons_succ, List.set_cons_zero]
  refine flow_off rfl (by kernel_rfl) (by rfl) ?_
  simp only [Act.put, List.setIfInBounds_toArray, List.set_cons_succ, List.set_cons_zero]
  refine flow_off rfl (by kernel_rfl) (by rfl) ?_
  simp only [Act.put, List.setIfInBounds_toArray, List.set_cons_succ, List.set_cons_zero]
  refine flow_off rfl (by kernel_rfl) (by rfl) ?_
  simp only [Act.put, List.setIfInBounds_toArray, List.set_cons_succ, List.set_cons_zero]
  refine flow_off rfl (by kernel_rfl) (by rfl) ?_
  simp only [Act.put, List.setIfInBounds_toArray, List.set_cons_succ, List.set_cons_zero]
  refine flow_val ?_ rfl (by kernel_rfl) (by rfl) (fun W hW => ?_) ?_
  rotate_left 1
  · go_simp <;> with_reducible rfl
  simp only [Act.put, List.setIfInBounds_toArray, List.set_cons_succ, List.set_cons_zero]
  refine flow_val ?_ rfl (by kernel_rfl) (by rfl) (fun W hW => ?_) ?_
  rotate_left 1
  · go_simp <;> with_reducible rfl
  simp only [Act.put, List.setIfInBounds_toArray, List.set_cons_succ, List.set_cons_zero]
  refine flow_done ?_
  intro W hW
  go_wp2
  go_ret
  exact ⟨rfl, HB4.out.trans ((HB5.out.trans (hW.mono HB5.out.size)).mono HB4.out.size)⟩

set_option maxRecDepth 100000 in
set_option maxHeartbeats 2000000 in
theorem firsts_some (A : Option Addr) (c : Nat) (bs : List Nat) (w : World) (hb : IsBy w A c bs) (n : Int) (k : Nat) (hf : firstN bs = some (n, k)) :
    Calls Try.prog 4 #[.slice A bs.length c] w fun e w' => e = .returned (.bool true) ∧ Below w.heap.size w w' := by
  obtain ⟨i0, hi0, hz0, hz1, hz2⟩ := info_parts Try.infoByte
  have HB := Lib.hid hb
  obtain ⟨h1, h2, _, h4, _⟩ := hb
  obtain ⟨hI, hN, hk1, hk2⟩ := firstN_some h4 hf
  have HNum : Hid (∀ w, Calls Try.prog 13 #[.int .i64 n] w (RetB (bs.take k) w)) := Lib.hid (fun w => hN ▸ num_any n w hI)
  have hk3 : ((k : Int) == 0) = false := by rw [beq_eq_false_iff_ne]; omega
  have HF := Lib.hid (fstV_some hf)
  have HRF := Lib.hid (rfstV_some hf)
  have HLt := Lib.hid (fun x hx => h4 x (List.mem_of_mem_take (i := k) hx))
  clear hN hI hf
  have H4 := Lib.hid h4
  have H2 := Lib.hid h2
  clear h4
  obtain ⟨S, hS⟩ : ∃ S, strOf bs = S := ⟨_, rfl⟩
  have HS := Lib.hid hS
  clear hS
  go_enter Try.func4, Try.ntmps4
  go_wp2_with (first
    | (at_builtin
       refine wpList_append_rd _ rfl (.tmp 9) (.tmp 10) 22 rfl w.heap.size 5 i0 (.int .u8 0) 1 1 Try.underlying22 hi0 hz0 hz1 hz2 rfl (by decide) (.slice (some ⟨w.heap.size, 0, none⟩) 0 0) 0 [] rfl (own_of_cells w #[] 0 (Nat.zero_le _) rfl) A bs.length c (bs.map u8v) rfl (HB.out.2.2.1.below ((Below.refl _ _).alloc (Nat.le_refl _) _)) (u8_one' _) (by unfold maxLen; omega) (by omega) (by simp) ?_
       intro v2 w2 hown2 hgrow2 _
       have HO2 := Lib.hid hown2
       have hG2 := Fr.grown (B := w.heap.size) (T := [5]) (S := []) ((Fr.refl w).alloc (.cells #[] 5)) hgrow2 (fun j hj => by
         simp [Value.ownBlock] at hj
         subst hj
         exact ⟨Nat.le_refl _, .inr ⟨_, _, _, block_new _ _, by simp⟩⟩)
       have HB2 := Lib.hid (hG2.below (Nat.le_refl _))
       clear hown2 hgrow2 hG2))
  obtain ⟨A2, c2, rfl, k1, k2, k3, _⟩ := own_slice HO2.out
  have hbs2 : Rd w2 1 A2 bs.length (bs.map u8v) := by simpa using k3
  have HR2 := Lib.hid hbs2
  have HK2 := Lib.hid k2
  simp only [Nat.zero_add] at k1 ⊢
  clear k2 k3 hbs2 hi0 hz0 hz1 hz2 h2
  refine (first_any A2 c2 bs w2 HR2.out H4.out k1 HK2.out).mono ?_
  rintro e w3 ⟨rfl, hb3⟩
  rw [HF.out]
  have HB3 := Lib.hid (HB2.out.trans (hb3.mono HB2.out.size))
  have HR3 := Lib.hid (HR2.out.below hb3)
  have HRB3 := Lib.hid (HB.out.2.2.1.below HB3.out)
  clear hb3
  go_wp2_with fail
  refine (rfirst_any A c bs w3 HRB3.out H4.out h1 (by have := H2.out; unfold maxLen; omega)).mono ?_
  rintro e w4 ⟨rfl, hb4⟩
  rw [HRF.out]
  have HB4 := Lib.hid (HB3.out.trans (hb4.mono HB3.out.size))
  have HR4 := Lib.hid (HR3.out.below hb4)
  have HRB4 := Lib.hid (HRB3.out.below hb4)
  clear hb4
  go_wp2_with (go_at_call 15
               refine (lives_any _).mono ?_
               rintro e w5 ⟨rfl, hb5⟩
               have hs5 := HS.out ▸ run_str w5 A2 bs.length c2 bs (HR4.out.below hb5) H4.out
               have hs6 := HS.out ▸ run_str w5 A bs.length c bs (HRB4.out.below hb5) H4.out
               have HB5 := Lib.hid hb5
               have HRB5 := Lib.hid (HRB4.out.below hb5)
               clear hb5)
  clear hs5 hs6
  have hA := HRB5.out.2 (by omega)
  obtain ⟨g, o, rfl, _, _⟩ := hA
  have hkc : (k : Int) ≤ (c : Int) := by omega
  have hk0 : (0 : Int) ≤ (k : Int) := by omega
  have HRT := Lib.hid (HRB5.out.take (k := k) hk2)
  obtain ⟨T, hT⟩ : ∃ T, strOf (bs.take k) = T := ⟨_, rfl⟩
  have HT := Lib.hid hT
  have HTL := Lib.hid (show (bs.take k).length = k by rw [List.length_take]; omega)
  clear hT
  refine wp_region_flow (fun W => Below w5.heap.size w5 W) [0, 1, 2, 3, 6, 7, 8, 9, 4, 5, 10, 11, 12] (by kernel_rfl) (by kernel_rfl) (by kernel_rfl) ((Below.refl _ w5).drew) ?_
  refine flow_val ?_ rfl (by kernel_rfl) (by rfl) (fun W hW => ?_) ?_
  rotate_left 1
  · go_simp <;> with_reducible rfl
  simp only [Act.put, List.setIfInBounds_toArray, List.set_cons_succ, List.set_cons_zero]
  refine flow_val ?_ rfl (by kernel_rfl) (by rfl) (fun W hW => ?_) ?_
  rotate_left 1
  · go_simp <;> with_reducible rfl
  simp only [Act.put, List.setIfInBounds_toArray, List.set_cons_succ, List.set_cons_zero]
  refine flow_val ?_ rfl (by kernel_rfl) (by rfl) (fun W hW => ?_) ?_
  rotate_left 1
  · go_simp <;> with_reducible rfl
  simp only [Act.put, List.setIfInBounds_toArray, List.set_cons_succ, List.set_cons_zero]
  refine flow_val ?_ rfl (by kernel_rfl) (by rfl) (fun W hW => ?_) ?_
  rotate_left 1
  · go_simp <;> with_reducible rfl
  simp only [Act.put, List.setIfInBounds_toArray, List.set_cons_succ, List.set_cons_zero]
  refine flow_val ?_ rfl (by kernel_rfl) (by rfl) (fun W hW => ?_) ?_
  rotate_left 1
  · go_simp <;> with_reducible rfl
  simp only [Act.put, List.setIfInBounds_toArray, List.set_cons_succ, List.set_cons_zero]
  refine flow_val ?_ rfl (by kernel_rfl) (by rfl) (fun W hW => ?_) ?_
  rotate_left 1
  · go_simp <;> with_reducible rfl
  simp only [Act.put, List.setIfInBounds_toArray, List.set_cons_succ, List.set_cons_zero]
  refine flow_val ?_ rfl (by kernel_rfl) (by rfl) (fun W hW => ?_) ?_
  rotate_left 1
  · go_simp <;> with_reducible rfl
  simp only [Act.put, List.setIfInBounds_toArray, List.set_cons_succ, List.set_cons_zero]
  refine flow_val ?_ rfl (by kernel_rfl) (by rfl) (fun W hW => ?_) ?_
  rotate_left 1
  · have hs := HT.out ▸ run_str W (some ⟨g, o, none⟩) k c (bs.take k) (by simpa [List.map_take] using HRT.out.below hW) HLt.out; go_simp <;> with_reducible rfl
  simp only [Act.put, List.setIfInBounds_toArray, List.set_cons_succ, List.set_cons_zero]
  refine flow_new (fun v W => Bs W v (bs.take k)) rfl (by kernel_rfl) (by rfl) (by kernel_rfl) (fun W hW => ⟨_, _, _, by go_simp, (HNum.out W).mono fun e w' ⟨v, he, hv, hb⟩ => ⟨v, he, hW.trans (hb.mono hW.size), hv⟩⟩) ?_
  rintro v6 ⟨W0, _, A6, c6, rfl, _, _, _⟩
  simp only [Act.put, List.setIfInBounds_toArray, List.set_cons_succ, List.set_cons_zero]
  refine flow_val ?_ rfl (by kernel_rfl) (by rfl) (fun W hW => ?_) ?_
  rotate_left 1
  · have hs := HT.out ▸ run_str W A6 k c6 (bs.take k) (by have h := hW.2.rd; rwa [HTL.out] at h) HLt.out; go_simp <;> with_reducible rfl
  simp only [Act.put, List.setIfInBounds_toArray, List.set_cons_succ, List.set_cons_zero]
  refine flow_val ?_ rfl (by kernel_rfl) (by rfl) (fun W hW => ?_) ?_
  rotate_left 1
  · go_simp <;> with_reducible rfl
  simp only [Act.put, List.setIfInBounds_toArray, List.set_cons_succ, List.set_cons_zero]
  refine flow_val ?_ rfl (by kernel_rfl) (by rfl) (fun W hW => ?_) ?_
  rotate_left 1
  · go_simp <;> with_reducible rfl
  simp only [Act.put, List.setIfInBounds_toArray, List.set_cons_succ, List.set_cons_zero]
  refine flow_val ?_ rfl (by kernel_rfl) (by rfl) (fun W hW => ?_) ?_
  rotate_left 1
  · go_simp <;> with_reducible rfl
  simp only [Act.put, List.setIfInBounds_toArray, List.set_cons_succ, List.set_cons_zero]
  refine flow_done ?_
  intro W hW
  go_wp2
  go_ret
  exact ⟨rfl, HB4.out.trans ((HB5.out.trans (hW.1.mono HB5.out.size)).mono HB4.out.size)⟩

theorem firsts_any (A : Option Addr) (c : Nat) (bs : List Nat) (w : World) (hb : IsBy w A c bs) :
    Calls Try.prog 4 #[.slice A bs.length c] w fun e w' => e = .returned (.bool true) ∧ Below w.heap.size w w' := by
  cases hf : firstN bs with
  | none => exact firsts_none A c bs w hb hf
  | some p => exact firsts_some A c bs w hb p.1 p.2 hf
end Go.Proofs.Ytlljeghlfijdnaa
