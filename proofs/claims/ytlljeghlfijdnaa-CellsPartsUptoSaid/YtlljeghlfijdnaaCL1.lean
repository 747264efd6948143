/- The law CellsNumbers: the cell of any number, taken again with whatever stands behind. The walk. -/
import Derived.Test.YtlljeghlfijdnaaCLives
import Derived.Test.YtlljeghlfijdnaaCRFst2
import Derived.Test.YtlljeghlfijdnaaOpen
import Derived.Test.YtlljeghlfijdnaaFlow
namespace Go.Proofs.Ytlljeghlfijdnaa
open Go.RowKit

theorem Bs.rd {w : World} {A : Option Addr} {n c : Nat} {bs : List Nat} (h : Bs w (.slice A n c) bs) : Rd w 1 A n (bs.map u8v) := by
  obtain ⟨A', c', h1, _, _, h4⟩ := h
  injection h1 with e1 e2 e3
  subst e1; subst e2
  exact h4

set_option maxRecDepth 100000 in
set_option maxHeartbeats 4000000 in
theorem numbers_any (n : Int) (A : Option Addr) (c : Nat) (bs : List Nat) (w : World) (hn : I64 n) (hb : IsBy w A c bs) :
    Calls Try.prog 3 #[.int .i64 n, .slice A bs.length c] w fun e w' => e = .returned (.bool true) ∧ Below w.heap.size w w' := by
  obtain ⟨i0, hi0, hz0, hz1, hz2⟩ := info_parts Try.infoByte
  obtain ⟨N, hN⟩ : ∃ N, numB n = N := ⟨_, rfl⟩
  have HNum : Hid (∀ w, Calls Try.prog 13 #[.int .i64 n] w (RetB N w)) := Lib.hid (fun w => hN ▸ num_any n w hn)
  have HRnum : Hid (∀ w, Calls Try.prog 16 #[.int .i64 n] w (RetB N w)) := Lib.hid (fun w => hN ▸ rnum_any n w hn)
  have hFst := fstV_some (firstN_num n hn bs)
  rw [hN] at hFst
  have HFst := Lib.hid hFst
  clear hFst
  have HLt := Lib.hid (numB_lt n)
  rw [hN] at HLt
  have hl := numB_length n
  rw [hN] at hl
  obtain ⟨S, hS⟩ : ∃ S, strOf N = S := ⟨_, rfl⟩
  have HS := Lib.hid hS
  clear hN hS
  have HB := Lib.hid hb
  obtain ⟨h1, h2, _, _, _⟩ := hb
  go_enter Try.func3, Try.ntmps3
  go_wp2_with fail
  refine (HNum.out _).mono ?_
  rintro e w1 ⟨v, rfl, hv, hb1⟩
  have HV := Lib.hid hv
  have HB1 := Lib.hid hb1
  obtain ⟨A1, c1, rfl, g1, g2, _⟩ := hv
  clear hb1
  have hown := own_of_cells w1 #[] 0 (Nat.zero_le _) rfl
  have HOwn := Lib.hid hown
  obtain ⟨g1', g2', g3⟩ : N.length ≤ 9 ∧ bs.length ≤ 140737488351232 ∧ c1 ≤ 9223372036854775807 := ⟨hl.2, by omega, by unfold maxLen at g2; omega⟩
  clear hown g2
  go_wp2_with (first
    | (at_builtin
       refine wpList_append_rd _ rfl (.tmp 12) (.tmp 13) 22 rfl w1.heap.size 5 i0 (.int .u8 0) 1 1 Try.underlying22 hi0 hz0 hz1 hz2 rfl (by decide) (.slice (some ⟨w1.heap.size, 0, none⟩) 0 0) 0 [] rfl HOwn.out A1 N.length c1 (N.map u8v) rfl (HV.out.rd.below ((Below.refl _ _).alloc (Nat.le_refl _) _)) (u8_one' _) (by unfold maxLen; omega) (by omega) (by simp) ?_
       intro v2 w2 hown2 hgrow2 _
       have HO2 := Lib.hid hown2
       have hG2 := Fr.grown (B := w1.heap.size) (T := [5]) (S := []) ((Fr.refl w1).alloc (.cells #[] 5)) hgrow2 (fun j hj => by
         simp [Value.ownBlock] at hj
         subst hj
         exact ⟨Nat.le_refl _, .inr ⟨_, _, _, block_new _ _, by simp⟩⟩)
       have HB2 := Lib.hid (HB1.out.trans ((hG2.below (Nat.le_refl _)).mono HB1.out.size) : Below w.heap.size w w2)
       have hs2 : w1.heap.size ≤ w2.heap.size := hG2.size
       have HB12 := Lib.hid (hG2.below (Nat.le_refl _))
       clear hown2 hgrow2 hG2)
    | (at_builtin
       refine wpList_append_rd _ rfl (.tmp 14) (.tmp 15) 22 rfl w1.heap.size 5 i0 (.int .u8 0) 1 1 Try.underlying22 hi0 hz0 hz1 hz2 rfl (by decide) _ _ _ rfl HO2.out A bs.length c (bs.map u8v) rfl ((HB.out.below HB2.out).2.2.1) (u8_one' _) (by unfold maxLen; omega) (by omega) hs2 ?_
       intro v3 w3 hown3 hgrow3 _
       have HO3 := Lib.hid hown3
       have HG3 := Lib.hid hgrow3
       clear hown3 hgrow3))
  have f3 : Fr w1.heap.size [5] [] w2 w3 := (Fr.refl w2).grown HG3.out (fun j hj => by
    obtain ⟨hb, cs, hc⟩ := own_block HO2.out hj
    exact ⟨hb, .inr ⟨cs, _, _, hc, by simp⟩⟩)
  have HB3 := Lib.hid (HB2.out.trans ((f3.below hs2).mono HB1.out.size) : Below w.heap.size w w3)
  have hV3 : Rd w3 1 A1 N.length (N.map u8v) := (HV.out.rd.below (HB12.out.trans (f3.below hs2)))
  obtain ⟨A3, c3, rfl, k1, k2, k3, _⟩ := own_slice HO3.out
  have hbs3 : Rd w3 1 A3 (N ++ bs).length ((N ++ bs).map u8v) := by
    have := k3
    simp only [Nat.zero_add, List.nil_append] at this
    rw [List.length_append, List.map_append]
    exact this
  have HBS := Lib.hid hbs3
  have HK := Lib.hid k2
  have e3 : 0 + N.length + bs.length = (N ++ bs).length := by simp
  rw [e3] at k1 ⊢
  have HV3 := Lib.hid hV3
  clear k2 k3 hbs3 e3 hV3 f3
  refine (first_any A3 c3 (N ++ bs) w3 HBS.out (fun x hx => by
    rcases List.mem_append.1 hx with hx | hx
    · exact HLt.out x hx
    · exact HB.out.2.2.2.1 x hx) k1 HK.out).mono ?_
  rintro e w4 ⟨rfl, hb4⟩
  rw [HFst.out]
  have HB4 := Lib.hid (HB3.out.trans (hb4.mono HB3.out.size))
  have HV4 := Lib.hid (HV3.out.below hb4)
  clear hb4
  have hs4 := HS.out ▸ run_str w4.drew A1 N.length c1 N HV4.out HLt.out
  go_wp2_with fail
  clear HBS HK HB2 HO2 HO3 HG3 HB12 HOwn HB3 HV3 hi0 hz0 hz1 hz2 hs2
  refine wp_region_flow (fun W => Below w4.heap.size w4 W) [0, 1, 2, 3, 4, 5, 6, 7, 8, 9, 10, 11, 12, 13, 14, 15, 16, 17, 18, 19, 20, 21, 22, 23, 24] (by kernel_rfl) (by kernel_rfl) (by kernel_rfl) ((Below.refl _ w4).drew) ?_
  refine flow_call (.bool true) rfl (by kernel_rfl) (by rfl) (by kernel_rfl) (fun W hW => ⟨_, _, _, by go_simp, (lives_any W).mono fun e w' ⟨he, hb⟩ => ⟨he, hW.trans (hb.mono hW.size)⟩⟩) ?_
  simp only [Act.put, List.setIfInBounds_toArray, List.set_cons_succ, List.set_cons_zero]
  refine flow_val ?_ rfl (by kernel_rfl) (by rfl) (fun W hW => ?_) ?_
  rotate_left 1
  · go_simp <;> with_reducible rfl
  simp only [Act.put, List.setIfInBounds_toArray, List.set_cons_succ, List.set_cons_zero]
  refine flow_val ?_ rfl (by kernel_rfl) (by rfl) (fun W hW => ?_) ?_
  rotate_left 1
  · go_simp <;> with_reducible rfl
  simp only [Act.put, List.setIfInBounds_toArray, List.set_cons_succ, List.set_cons_zero]
  refine flow_val ?_ rfl (by kernel_rfl) (by rfl) (fun W hW => ?_) ?_
  rotate_left 1
  · have hs := HS.out ▸ run_str W A1 N.length c1 N (HV4.out.below hW.1) HLt.out; go_simp <;> with_reducible rfl
  simp only [Act.put, List.setIfInBounds_toArray, List.set_cons_succ, List.set_cons_zero]
  refine flow_val ?_ rfl (by kernel_rfl) (by rfl) (fun W hW => ?_) ?_
  rotate_left 1
  · go_simp <;> with_reducible rfl
  simp only [Act.put, List.setIfInBounds_toArray, List.set_cons_succ, List.set_cons_zero]
  refine flow_new (fun v W => Bs W v N) rfl (by kernel_rfl) (by rfl) (by kernel_rfl) (fun W hW => ⟨_, _, _, by go_simp, (HRnum.out W).mono fun e w' ⟨v, he, hv, hb⟩ => ⟨v, he, ⟨hW.1.trans (hb.mono hW.1.size), trivial⟩, hv⟩⟩) ?_
  rintro v6 ⟨W0, _, A6, c6, rfl, _, _, _⟩
  simp only [Act.put, List.setIfInBounds_toArray, List.set_cons_succ, List.set_cons_zero]
  refine flow_val ?_ rfl (by kernel_rfl) (by rfl) (fun W hW => ?_) ?_
  rotate_left 1
  · have hs := HS.out ▸ run_str W A6 N.length c6 N hW.2.rd HLt.out; go_simp <;> with_reducible rfl
  simp only [Act.put, List.setIfInBounds_toArray, List.set_cons_succ, List.set_cons_zero]
  refine flow_val ?_ rfl (by kernel_rfl) (by rfl) (fun W hW => ?_) ?_
  rotate_left 1
  · go_simp <;> with_reducible rfl
  simp only [Act.put, List.setIfInBounds_toArray, List.set_cons_succ, List.set_cons_zero]
  refine flow_val ?_ rfl (by kernel_rfl) (by rfl) (fun W hW => ?_) ?_
  rotate_left 1
  · go_simp <;> with_reducible rfl
  simp only [Act.put, List.setIfInBounds_toArray, List.set_cons_succ, List.set_cons_zero]
  refine flow_val ?_ rfl (by kernel_rfl) (by rfl) (fun W hW => ?_) ?_
  rotate_left 1
  · go_simp <;> with_reducible rfl
  simp only [Act.put, List.setIfInBounds_toArray, List.set_cons_succ, List.set_cons_zero]
  refine flow_val ?_ rfl (by kernel_rfl) (by rfl) (fun W hW => ?_) ?_
  rotate_left 1
  · go_simp <;> with_reducible rfl
  simp only [Act.put, List.setIfInBounds_toArray, List.set_cons_succ, List.set_cons_zero]
  refine flow_val ?_ rfl (by kernel_rfl) (by rfl) (fun W hW => ?_) ?_
  rotate_left 1
  · go_simp <;> with_reducible rfl
  simp only [Act.put, List.setIfInBounds_toArray, List.set_cons_succ, List.set_cons_zero]
  refine flow_val ?_ rfl (by kernel_rfl) (by rfl) (fun W hW => ?_) ?_
  rotate_left 1
  · go_simp <;> with_reducible rfl
  simp only [Act.put, List.setIfInBounds_toArray, List.set_cons_succ, List.set_cons_zero]
  refine flow_val ?_ rfl (by kernel_rfl) (by rfl) (fun W hW => ?_) ?_
  rotate_left 1
  · go_simp <;> with_reducible rfl
  simp only [Act.put, List.setIfInBounds_toArray, List.set_cons_succ, List.set_cons_zero]
  refine flow_val ?_ rfl (by kernel_rfl) (by rfl) (fun W hW => ?_) ?_
  rotate_left 1
  · go_simp <;> with_reducible rfl
  simp only [Act.put, List.setIfInBounds_toArray, List.set_cons_succ, List.set_cons_zero]
  refine flow_val ?_ rfl (by kernel_rfl) (by rfl) (fun W hW => ?_) ?_
  rotate_left 1
  · go_simp <;> with_reducible rfl
  simp only [Act.put, List.setIfInBounds_toArray, List.set_cons_succ, List.set_cons_zero]
  refine flow_val ?_ rfl (by kernel_rfl) (by rfl) (fun W hW => ?_) ?_
  rotate_left 1
  · go_simp <;> with_reducible rfl
  simp only [Act.put, List.setIfInBounds_toArray, List.set_cons_succ, List.set_cons_zero]
  refine flow_val ?_ rfl (by kernel_rfl) (by rfl) (fun W hW => ?_) ?_
  rotate_left 1
  · go_simp <;> with_reducible rfl
  simp only [Act.put, List.setIfInBounds_toArray, List.set_cons_succ, List.set_cons_zero]
  refine flow_val ?_ rfl (by kernel_rfl) (by rfl) (fun W hW => ?_) ?_
  rotate_left 1
  · go_simp <;> with_reducible rfl
  simp only [Act.put, List.setIfInBounds_toArray, List.set_cons_succ, List.set_cons_zero]
  refine flow_val ?_ rfl (by kernel_rfl) (by rfl) (fun W hW => ?_) ?_
  rotate_left 1
  · go_simp <;> with_reducible rfl
  simp only [Act.put, List.setIfInBounds_toArray, List.set_cons_succ, List.set_cons_zero]
  refine flow_val ?_ rfl (by kernel_rfl) (by rfl) (fun W hW => ?_) ?_
  rotate_left 1
  · go_simp <;> with_reducible rfl
  simp only [Act.put, List.setIfInBounds_toArray, List.set_cons_succ, List.set_cons_zero]
  refine flow_val ?_ rfl (by kernel_rfl) (by rfl) (fun W hW => ?_) ?_
  rotate_left 1
  · go_simp <;> with_reducible rfl
  simp only [Act.put, List.setIfInBounds_toArray, List.set_cons_succ, List.set_cons_zero]
  refine flow_val ?_ rfl (by kernel_rfl) (by rfl) (fun W hW => ?_) ?_
  rotate_left 1
  · go_simp <;> with_reducible rfl
  simp only [Act.put, List.setIfInBounds_toArray, List.set_cons_succ, List.set_cons_zero]
  refine flow_val ?_ rfl (by kernel_rfl) (by rfl) (fun W hW => ?_) ?_
  rotate_left 1
  · go_simp <;> with_reducible rfl
  simp only [Act.put, List.setIfInBounds_toArray, List.set_cons_succ, List.set_cons_zero]
  refine flow_val ?_ rfl (by kernel_rfl) (by rfl) (fun W hW => ?_) ?_
  rotate_left 1
  · go_simp <;> with_reducible rfl
  simp only [Act.put, List.setIfInBounds_toArray, List.set_cons_succ, List.set_cons_zero]
  refine flow_done ?_
  intro W hW
  go_wp2
  go_ret
  exact ⟨rfl, HB4.out.trans (hW.1.1.mono HB4.out.size)⟩
end Go.Proofs.Ytlljeghlfijdnaa
