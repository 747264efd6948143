/- The law LinkEnds: behind any such script all bodies come, and none is open any more. The walk. -/
import Derived.Test.YtnmbblkfaoihfaaZLYLL7
namespace Go.Proofs.Ytnmbblkfaoihfaa
open Go.RowKit

set_option maxRecDepth 100000 in
set_option maxHeartbeats 4000000 in
theorem ends_any (A0 : Option Addr) (c0 : Nat) (zs : List LDeed) (w : World) (hn : zs.length ≤ 140737488355328) (hrd : Rd w 3 A0 zs.length (zs.flatMap encD)) :
    Calls Try.prog 4 #[.slice A0 zs.length c0] w fun e w' => e = .returned (.bool true) ∧ Below w.heap.size w w' := by
  go_enter Try.func4, Try.ntmps4
  obtain ⟨m, hm⟩ : ∃ m, zs.length = m := ⟨_, rfl⟩
  have HM := Lib.hid hm
  have HRD := Lib.hid hrd
  rw [hm] at hn ⊢
  clear hm hrd
  go_wp2_with fail
  refine (begin_any w).mono ?_
  rintro e w1 ⟨y, pe, rfl, hI⟩
  have HI := Lib.hid hI
  clear hI
  go_wp2_with fail
  refine (lives_any w1).mono ?_
  rintro e w2 ⟨rfl, hb⟩
  have HI2 := Lib.hid (HI.out.below hb)
  clear hb HI
  go_wp2_with fail
  go_loopw [4] (fun iv wr => ∃ (k : Nat) (P : Play) (vs vc vw : Bool → Value) (z3 : Bool → List (LPk × Value)), k ≤ m ∧ k ≤ 120 ∧ iv = .int .i64 k ∧ IsY w y pe P vs vc vw z3 wr ∧ GoodY P ∧ FewY P k) (fun iv _ => m - (intOf iv).toNat)
  case atStart => exact ⟨0, zeroY, _, _, _, _, Nat.zero_le _, by omega, rfl, HI2.out, zero_good.1, zero_good.2⟩
  case round =>
    obtain ⟨k, P, vs, vc, vw, z3, hk, hk3, rfl, hI, hG, hF⟩ := hrel
    have HI := Lib.hid hI
    have HG := Lib.hid hG
    have HF := Lib.hid hF
    clear hI hG hF HI2
    by_cases hlm : k < m
    · by_cases hl3 : k < 120
      · obtain ⟨g, o, rfl, hg, hcell⟩ := HRD.out.2 (by have := HM.out; omega)
        have hle : decide ((k : Int) < 120) = true := by simp; omega
        have hkz : k < zs.length := by have := HM.out; omega
        obtain ⟨z, hz⟩ : ∃ z, zs[k] = z := ⟨_, rfl⟩
        have hat := fun j (hj : j < 3) => flatD_at zs k j hkz hj
        simp only [hz] at hat
        have k0 : wr.cell? ⟨g, o + k * 3, none⟩ = some (.int .i64 z.kind) := (HI.out.two.bel.cell (p := ⟨g, o + k * 3, none⟩) hg).trans (hcell (k * 3 + 0) _ ((hat 0 (by omega)).trans rfl))
        have k1 : wr.cell? ⟨g, o + k * 3 + 1, none⟩ = some (.int .i64 z.A) := (HI.out.two.bel.cell (p := ⟨g, o + k * 3 + 1, none⟩) hg).trans (by rw [Nat.add_assoc]; exact hcell (k * 3 + 1) _ ((hat 1 (by omega)).trans rfl))
        have k2 : wr.cell? ⟨g, o + k * 3 + 2, none⟩ = some (.int .i64 z.n) := (HI.out.two.bel.cell (p := ⟨g, o + k * 3 + 2, none⟩) hg).trans (by rw [Nat.add_assoc]; exact hcell (k * 3 + 2) _ ((hat 2 (by omega)).trans rfl))
        have HDO := Lib.hid (do_any w y pe P z.kind z.A z.n wr vs vc vw z3 HI.out HG.out k HF.out (by omega))
        obtain ⟨hg2, hf2⟩ := HG.out.do_ HF.out (by omega) z.kind z.A z.n
        have HG2 := Lib.hid hg2
        have HF2 := Lib.hid hf2
        obtain ⟨P2, hP2⟩ : ∃ P2, doY P z.kind z.A z.n = P2 := ⟨_, rfl⟩
        rw [hP2] at HDO HG2 HF2
        clear hcell hat hz hkz hP2 hg2 hf2
        go_wp2_with fail
        refine HDO.out.mono ?_
        rintro e w5 ⟨rfl, hI5⟩
        obtain ⟨vs5, vc5, vw5, z5, hI5⟩ := hI5
        have HI5 := Lib.hid hI5
        clear hI5 HDO k0 k1 k2
        go_wp2_with fail
        go_roundw
        case rel => exact ⟨k + 1, P2, _, _, _, _, hlm, hl3, by go_num, HI5.out, HG2.out, HF2.out⟩
        case measure => simp [intOf]; omega
      · have hle : decide ((k : Int) < 120) = false := by simp; omega
        have HP0 := Lib.hid (⟨HG.out, HF.out⟩ : GoodY P ∧ FewY P k)
        have HK120 : Hid (k ≤ 120) := Lib.hid hk3
        have hI0 : IsY w y pe (roundsY 0 P) vs vc vw z3 wr := HI.out
        have HI0 := Lib.hid hI0
        clear hI0 HI HG HF HRD HM hk hk3
        go_wp2_with fail
        clear hlm hl3 hle
        go_loopw [5] (fun rv wx => ∃ (r : Nat) (vs vc vw : Bool → Value) (z3 : Bool → List (LPk × Value)), r ≤ 1105 ∧ rv = .int .i64 r ∧ IsY w y pe (roundsY r P) vs vc vw z3 wx) (fun rv _ => 2500 - (intOf rv).toNat)
        case atStart => exact ⟨0, _, _, _, _, by omega, rfl, HI0.out⟩
        case round =>
          obtain ⟨r, vs1, vc1, vw1, zz1, hr, rfl, hI1⟩ := hrel
          have HI1 := Lib.hid hI1
          have hgr := rounds_good HP0.out.1 HP0.out.2 r (by have := HK120.out; omega)
          have HG1 := Lib.hid hgr.1
          have HF1 := Lib.hid hgr.2.1
          obtain ⟨n1, hn1⟩ : ∃ n1, k + r = n1 := ⟨_, rfl⟩
          have hn1' : n1 ≤ 2000 := by have := HK120.out; omega
          rw [hn1] at HF1
          have hcl : r = 1105 → ((roundsY r P).e false).l = [] ∧ ((roundsY r P).e true).l = [] := fun e => e ▸ rounds_closed HP0.out.1 HP0.out.2 (by have := HK120.out; omega)
          have HCL := Lib.hid hcl
          obtain ⟨P1, hP1⟩ : ∃ P1, roundsY r P = P1 := ⟨_, rfl⟩
          have HNX : Hid (roundsY (r + 1) P = roundY P1) := Lib.hid (by rw [← hP1]; rfl)
          rw [hP1] at HI1 HG1 HF1 HCL
          have hb1 := HI1.out.b
          have p0 : wr.cell? ⟨y, 0, none⟩ = some (.pointer (some ⟨pe false, 0, none⟩)) := cell_at hb1 0
          have p1 : wr.cell? ⟨y, 1, none⟩ = some (.pointer (some ⟨pe true, 0, none⟩)) := cell_at hb1 1
          obtain ⟨a0, ha0⟩ : ∃ a0, (P1.e false).l.length = a0 := ⟨_, rfl⟩
          obtain ⟨a1, ha1⟩ : ∃ a1, (P1.e true).l.length = a1 := ⟨_, rfl⟩
          have hla0 : a0 ≤ 64 := by rw [← ha0]; exact HG1.out.len false
          have hla1 : a1 ≤ 64 := by rw [← ha1]; exact HG1.out.len true
          have HA0 := Lib.hid ha0
          have HA1 := Lib.hid ha1
          have hr2 : decide ((r : Int) < 2500) = true := by simp; omega
          have hsum : IntKind.i64.wrap ((a0 : Int) + a1) = (a0 : Int) + a1 := IntWalk.i64_in _ (by omega)
          have HN1 := Lib.hid hn1'
          have HR := Lib.hid hr
          have HB1 := Lib.hid hb1
          clear hI1 hgr hn1 hcl hP1 ha0 ha1 hb1 HI0 hn1'
          go_wp2_with fail
          refine wp_region_flow (fun W => W = wr.drew) [0, 1, 2, 3, 4, 5, 6, 7, 8, 9, 10, 11, 12, 13] (by kernel_rfl) (by kernel_rfl) (by kernel_rfl) (rfl) ?_
          refine flow_val ?_ rfl (by kernel_rfl) (by rfl) (fun W hW => ?_) ?_
          rotate_left 1
          · go_simp <;> with_reducible rfl
          simp only [Act.put, List.setIfInBounds_toArray, List.set_cons_succ, List.set_cons_zero]
          refine flow_val ?_ rfl (by kernel_rfl) (by rfl) (fun W hW => ?_) ?_
          rotate_left 1
          · go_simp <;> with_reducible rfl
          simp only [Act.put, List.setIfInBounds_toArray, List.set_cons_succ, List.set_cons_zero]
          refine flow_val ?_ rfl (by kernel_rfl) (by rfl) (fun W hW => ?_) ?_
          rotate_left 1
          · go_simp <;> with_reducible rfl
          simp only [Act.put, List.setIfInBounds_toArray, List.set_cons_succ, List.set_cons_zero]
          refine flow_val ?_ rfl (by kernel_rfl) (by rfl) (fun W hW => ?_) ?_
          rotate_left 1
          · go_simp <;> with_reducible rfl
          simp only [Act.put, List.setIfInBounds_toArray, List.set_cons_succ, List.set_cons_zero]
          refine flow_val ?_ rfl (by kernel_rfl) (by rfl) (fun W hW => ?_) ?_
          rotate_left 1
          · go_simp <;> with_reducible rfl
          simp only [Act.put, List.setIfInBounds_toArray, List.set_cons_succ, List.set_cons_zero]
          refine flow_quiet (.int .i64 a0) rfl (by kernel_rfl) (by rfl) (fun W hW => ⟨_, _, by go_simp, ((by subst hW; exact HA0.out ▸ ((HI1.out.below (Below.refl _ wr).drew).ts false).open_ : Calls Try.prog 15 #[.pointer (some ⟨pe false, 0, none⟩)] W fun e W' => e = .returned (.int .i64 a0) ∧ W = W'))⟩) ?_
          simp only [Act.put, List.setIfInBounds_toArray, List.set_cons_succ, List.set_cons_zero]
          refine flow_val ?_ rfl (by kernel_rfl) (by rfl) (fun W hW => ?_) ?_
          rotate_left 1
          · go_simp <;> with_reducible rfl
          simp only [Act.put, List.setIfInBounds_toArray, List.set_cons_succ, List.set_cons_zero]
          refine flow_val ?_ rfl (by kernel_rfl) (by rfl) (fun W hW => ?_) ?_
          rotate_left 1
          · go_simp <;> with_reducible rfl
          simp only [Act.put, List.setIfInBounds_toArray, List.set_cons_succ, List.set_cons_zero]
          refine flow_val ?_ rfl (by kernel_rfl) (by rfl) (fun W hW => ?_) ?_
          rotate_left 1
          · go_simp <;> with_reducible rfl
          simp only [Act.put, List.setIfInBounds_toArray, List.set_cons_succ, List.set_cons_zero]
          refine flow_val ?_ rfl (by kernel_rfl) (by rfl) (fun W hW => ?_) ?_
          rotate_left 1
          · go_simp <;> with_reducible rfl
          simp only [Act.put, List.setIfInBounds_toArray, List.set_cons_succ, List.set_cons_zero]
          refine flow_val ?_ rfl (by kernel_rfl) (by rfl) (fun W hW => ?_) ?_
          rotate_left 1
          · go_simp <;> with_reducible rfl
          simp only [Act.put, List.setIfInBounds_toArray, List.set_cons_succ, List.set_cons_zero]
          refine flow_quiet (.int .i64 a1) rfl (by kernel_rfl) (by rfl) (fun W hW => ⟨_, _, by go_simp, ((by subst hW; exact HA1.out ▸ ((HI1.out.below (Below.refl _ wr).drew).ts true).open_ : Calls Try.prog 15 #[.pointer (some ⟨pe true, 0, none⟩)] W fun e W' => e = .returned (.int .i64 a1) ∧ W = W'))⟩) ?_
          simp only [Act.put, List.setIfInBounds_toArray, List.set_cons_succ, List.set_cons_zero]
          refine flow_val ?_ rfl (by kernel_rfl) (by rfl) (fun W hW => ?_) ?_
          rotate_left 1
          · go_simp <;> with_reducible rfl
          simp only [Act.put, List.setIfInBounds_toArray, List.set_cons_succ, List.set_cons_zero]
          refine flow_val ?_ rfl (by kernel_rfl) (by rfl) (fun W hW => ?_) ?_
          rotate_left 1
          · go_simp <;> with_reducible rfl
          simp only [Act.put, List.setIfInBounds_toArray, List.set_cons_succ, List.set_cons_zero]
          refine flow_done ?_
          rintro W hW
          subst hW
          have HID : Hid (IsY w y pe P1 vs1 vc1 vw1 zz1 wr.drew) := Lib.hid (HI1.out.below (Below.refl _ wr).drew)
          obtain ⟨W5, hW5⟩ : ∃ W5, wr.drew = W5 := ⟨_, rfl⟩
          rw [hW5] at HID
          rw [hW5]
          clear hW5 p0 p1 HB1 HI1 hsum
          by_cases hz : a0 = 0 ∧ a1 = 0
          · obtain ⟨rfl, rfl⟩ := hz
            have HCE : Hid (∀ a, (P1.came (!a)).length = (P1.sent a).length) := Lib.hid (fun a => HG1.out.all a (by cases a; exact List.eq_nil_of_length_eq_zero HA0.out; exact List.eq_nil_of_length_eq_zero HA1.out))
            obtain ⟨A2, c2, hv2, _, _, _⟩ := own_slice (HID.out.rows.1 ⟨9, 1, vs1 false, (P1.sent false).length, (P1.sent false).map strY⟩ (by simp [rowsY]))
            obtain ⟨A3, c3, hv3, _, _, _⟩ := own_slice (HID.out.rows.1 ⟨9, 1, vs1 true, (P1.sent true).length, (P1.sent true).map strY⟩ (by simp [rowsY]))
            obtain ⟨A4, c4, hv4, _, _, _⟩ := own_slice (HID.out.rows.1 ⟨9, 1, vc1 false, (P1.came false).length, (P1.came false).map strY⟩ (by simp [rowsY]))
            obtain ⟨A5, c5, hv5, _, _, _⟩ := own_slice (HID.out.rows.1 ⟨9, 1, vc1 true, (P1.came true).length, (P1.came true).map strY⟩ (by simp [rowsY]))
            simp only at hv2 hv3 hv4 hv5
            have q1 := HCE.out false
            have q2 := HCE.out true
            simp only [Bool.not_false, Bool.not_true] at q1 q2
            rw [← q2] at hv3
            rw [← q1] at hv2
            have hb5 := HID.out.b
            rw [hv2, hv3, hv4, hv5] at hb5
            obtain ⟨l0, hl0⟩ : ∃ l0, (P1.came false).length = l0 := ⟨_, rfl⟩
            obtain ⟨l1, hl1⟩ : ∃ l1, (P1.came true).length = l1 := ⟨_, rfl⟩
            rw [hl0, hl1] at hb5
            have HB5 := Lib.hid hb5
            have hz0 : ((0 : Int) + 0 == 0) = true := rfl
            clear hv2 hv3 hv4 hv5 q1 q2 hb5 hl0 hl1
            go_wp2_with fail
            refine wp_region_flow2 (fun W => Below W5.heap.size W5 W) (fun W => IsY w y pe P1 vs1 vc1 vw1 zz1 W) [0, 1, 2, 3, 4, 5, 6, 7, 8, 9, 10, 11, 12, 13, 14, 15, 16, 17, 18, 19, 20, 21, 22, 23, 24, 25, 26, 27, 28, 29, 30, 31, 32] (by kernel_rfl) (by kernel_rfl) (by kernel_rfl) ((Below.refl _ W5).drew) (HID.out.below (Below.refl _ W5).drew) ?_
            refine flow_val ?_ rfl (by kernel_rfl) (by rfl) (fun W hW => ?_) ?_
            rotate_left 1
            · go_simp <;> with_reducible rfl
            simp only [Act.put, List.setIfInBounds_toArray, List.set_cons_succ, List.set_cons_zero]
            refine flow_gcall (fun v W => v = .bool true) rfl (by kernel_rfl) (by rfl) (by kernel_rfl) (fun W hW hC => ⟨_, _, _, by go_simp, (right_any w y pe P1 W vs1 vc1 vw1 zz1 hC HG1.out.right).mono fun e w1 ⟨he, hb⟩ => ⟨_, he, hW.trans (hb.mono hW.size), rfl⟩⟩) ?_
            rintro v49 ⟨_, _, rfl⟩
            simp only [Act.put, List.setIfInBounds_toArray, List.set_cons_succ, List.set_cons_zero]
            refine flow_val ?_ rfl (by kernel_rfl) (by rfl) (fun W hW => ?_) ?_
            rotate_left 1
            · go_simp <;> with_reducible rfl
            simp only [Act.put, List.setIfInBounds_toArray, List.set_cons_succ, List.set_cons_zero]
            refine flow_val ?_ rfl (by kernel_rfl) (by rfl) (fun W hW => ?_) ?_
            rotate_left 1
            · go_simp <;> with_reducible rfl
            simp only [Act.put, List.setIfInBounds_toArray, List.set_cons_succ, List.set_cons_zero]
            refine flow_val ?_ rfl (by kernel_rfl) (by rfl) (fun W hW => ?_) ?_
            rotate_left 1
            · go_simp <;> with_reducible rfl
            simp only [Act.put, List.setIfInBounds_toArray, List.set_cons_succ, List.set_cons_zero]
            refine flow_val ?_ rfl (by kernel_rfl) (by rfl) (fun W hW => ?_) ?_
            rotate_left 1
            · go_simp <;> with_reducible rfl
            simp only [Act.put, List.setIfInBounds_toArray, List.set_cons_succ, List.set_cons_zero]
            refine flow_val ?_ rfl (by kernel_rfl) (by rfl) (fun W hW => ?_) ?_
            rotate_left 1
            · go_simp <;> with_reducible rfl
            simp only [Act.put, List.setIfInBounds_toArray, List.set_cons_succ, List.set_cons_zero]
            refine flow_val ?_ rfl (by kernel_rfl) (by rfl) (fun W hW => ?_) ?_
            rotate_left 1
            · have c1 : W.cell? ⟨y, 4, none⟩ = some (.slice A4 l0 c4) := cell_at ((hW.1.block y (lt_of_block HB5.out)).trans HB5.out) 4; go_simp <;> with_reducible rfl
            simp only [Act.put, List.setIfInBounds_toArray, List.set_cons_succ, List.set_cons_zero]
            refine flow_val ?_ rfl (by kernel_rfl) (by rfl) (fun W hW => ?_) ?_
            rotate_left 1
            · go_simp <;> with_reducible rfl
            simp only [Act.put, List.setIfInBounds_toArray, List.set_cons_succ, List.set_cons_zero]
            refine flow_val ?_ rfl (by kernel_rfl) (by rfl) (fun W hW => ?_) ?_
            rotate_left 1
            · go_simp <;> with_reducible rfl
            simp only [Act.put, List.setIfInBounds_toArray, List.set_cons_succ, List.set_cons_zero]
            refine flow_val ?_ rfl (by kernel_rfl) (by rfl) (fun W hW => ?_) ?_
            rotate_left 1
            · go_simp <;> with_reducible rfl
            simp only [Act.put, List.setIfInBounds_toArray, List.set_cons_succ, List.set_cons_zero]
            refine flow_val ?_ rfl (by kernel_rfl) (by rfl) (fun W hW => ?_) ?_
            rotate_left 1
            · go_simp <;> with_reducible rfl
            simp only [Act.put, List.setIfInBounds_toArray, List.set_cons_succ, List.set_cons_zero]
            refine flow_val ?_ rfl (by kernel_rfl) (by rfl) (fun W hW => ?_) ?_
            rotate_left 1
            · go_simp <;> with_reducible rfl
            simp only [Act.put, List.setIfInBounds_toArray, List.set_cons_succ, List.set_cons_zero]
            refine flow_val ?_ rfl (by kernel_rfl) (by rfl) (fun W hW => ?_) ?_
            rotate_left 1
            · have c1 : W.cell? ⟨y, 3, none⟩ = some (.slice A3 l0 c3) := cell_at ((hW.1.block y (lt_of_block HB5.out)).trans HB5.out) 3; go_simp <;> with_reducible rfl
            simp only [Act.put, List.setIfInBounds_toArray, List.set_cons_succ, List.set_cons_zero]
            refine flow_val ?_ rfl (by kernel_rfl) (by rfl) (fun W hW => ?_) ?_
            rotate_left 1
            · go_simp <;> with_reducible rfl
            simp only [Act.put, List.setIfInBounds_toArray, List.set_cons_succ, List.set_cons_zero]
            refine flow_val ?_ rfl (by kernel_rfl) (by rfl) (fun W hW => ?_) ?_
            rotate_left 1
            · go_simp <;> with_reducible rfl
            simp only [Act.put, List.setIfInBounds_toArray, List.set_cons_succ, List.set_cons_zero]
            refine flow_val ?_ rfl (by kernel_rfl) (by rfl) (fun W hW => ?_) ?_
            rotate_left 1
            · go_simp <;> with_reducible rfl
            simp only [Act.put, List.setIfInBounds_toArray, List.set_cons_succ, List.set_cons_zero]
            refine flow_val ?_ rfl (by kernel_rfl) (by rfl) (fun W hW => ?_) ?_
            rotate_left 1
            · go_simp <;> with_reducible rfl
            simp only [Act.put, List.setIfInBounds_toArray, List.set_cons_succ, List.set_cons_zero]
            refine flow_val ?_ rfl (by kernel_rfl) (by rfl) (fun W hW => ?_) ?_
            rotate_left 1
            · go_simp <;> with_reducible rfl
            simp only [Act.put, List.setIfInBounds_toArray, List.set_cons_succ, List.set_cons_zero]
            refine flow_val ?_ rfl (by kernel_rfl) (by rfl) (fun W hW => ?_) ?_
            rotate_left 1
            · go_simp <;> with_reducible rfl
            simp only [Act.put, List.setIfInBounds_toArray, List.set_cons_succ, List.set_cons_zero]
            refine flow_val ?_ rfl (by kernel_rfl) (by rfl) (fun W hW => ?_) ?_
            rotate_left 1
            · go_simp <;> with_reducible rfl
            simp only [Act.put, List.setIfInBounds_toArray, List.set_cons_succ, List.set_cons_zero]
            refine flow_val ?_ rfl (by kernel_rfl) (by rfl) (fun W hW => ?_) ?_
            rotate_left 1
            · go_simp <;> with_reducible rfl
            simp only [Act.put, List.setIfInBounds_toArray, List.set_cons_succ, List.set_cons_zero]
            refine flow_val ?_ rfl (by kernel_rfl) (by rfl) (fun W hW => ?_) ?_
            rotate_left 1
            · have c1 : W.cell? ⟨y, 5, none⟩ = some (.slice A5 l1 c5) := cell_at ((hW.1.block y (lt_of_block HB5.out)).trans HB5.out) 5; go_simp <;> with_reducible rfl
            simp only [Act.put, List.setIfInBounds_toArray, List.set_cons_succ, List.set_cons_zero]
            refine flow_val ?_ rfl (by kernel_rfl) (by rfl) (fun W hW => ?_) ?_
            rotate_left 1
            · go_simp <;> with_reducible rfl
            simp only [Act.put, List.setIfInBounds_toArray, List.set_cons_succ, List.set_cons_zero]
            refine flow_val ?_ rfl (by kernel_rfl) (by rfl) (fun W hW => ?_) ?_
            rotate_left 1
            · go_simp <;> with_reducible rfl
            simp only [Act.put, List.setIfInBounds_toArray, List.set_cons_succ, List.set_cons_zero]
            refine flow_val ?_ rfl (by kernel_rfl) (by rfl) (fun W hW => ?_) ?_
            rotate_left 1
            · go_simp <;> with_reducible rfl
            simp only [Act.put, List.setIfInBounds_toArray, List.set_cons_succ, List.set_cons_zero]
            refine flow_val ?_ rfl (by kernel_rfl) (by rfl) (fun W hW => ?_) ?_
            rotate_left 1
            · go_simp <;> with_reducible rfl
            simp only [Act.put, List.setIfInBounds_toArray, List.set_cons_succ, List.set_cons_zero]
            refine flow_val ?_ rfl (by kernel_rfl) (by rfl) (fun W hW => ?_) ?_
            rotate_left 1
            · go_simp <;> with_reducible rfl
            simp only [Act.put, List.setIfInBounds_toArray, List.set_cons_succ, List.set_cons_zero]
            refine flow_val ?_ rfl (by kernel_rfl) (by rfl) (fun W hW => ?_) ?_
            rotate_left 1
            · have c1 : W.cell? ⟨y, 2, none⟩ = some (.slice A2 l1 c2) := cell_at ((hW.1.block y (lt_of_block HB5.out)).trans HB5.out) 2; go_simp <;> with_reducible rfl
            simp only [Act.put, List.setIfInBounds_toArray, List.set_cons_succ, List.set_cons_zero]
            refine flow_val ?_ rfl (by kernel_rfl) (by rfl) (fun W hW => ?_) ?_
            rotate_left 1
            · go_simp <;> with_reducible rfl
            simp only [Act.put, List.setIfInBounds_toArray, List.set_cons_succ, List.set_cons_zero]
            refine flow_val ?_ rfl (by kernel_rfl) (by rfl) (fun W hW => ?_) ?_
            rotate_left 1
            · go_simp <;> with_reducible rfl
            simp only [Act.put, List.setIfInBounds_toArray, List.set_cons_succ, List.set_cons_zero]
            refine flow_val ?_ rfl (by kernel_rfl) (by rfl) (fun W hW => ?_) ?_
            rotate_left 1
            · go_simp <;> with_reducible rfl
            simp only [Act.put, List.setIfInBounds_toArray, List.set_cons_succ, List.set_cons_zero]
            refine flow_val ?_ rfl (by kernel_rfl) (by rfl) (fun W hW => ?_) ?_
            rotate_left 1
            · go_simp <;> with_reducible rfl
            simp only [Act.put, List.setIfInBounds_toArray, List.set_cons_succ, List.set_cons_zero]
            refine flow_done2 ?_
            rintro W hW _
            have HBW := Lib.hid hW
            clear hW
            go_wp2
            go_ret
            exact ⟨rfl, HID.out.two.bel.trans (HBW.out.1.mono HID.out.two.bel.size)⟩
          · have hne : ((a0 : Int) + a1 == 0) = false := by simp; omega
            have HRR : Hid (r < 1105) := Lib.hid (by
              rcases Nat.lt_or_ge r 1105 with h | h
              · exact h
              · have := HR.out
                obtain ⟨c1, c2⟩ := HCL.out (by omega)
                have e1 := HA0.out
                have e2 := HA1.out
                rw [c1] at e1
                rw [c2] at e2
                simp at e1 e2
                omega)
            obtain ⟨hgt, hft⟩ := HG1.out.ticks HF1.out (by have := HN1.out; omega)
            have HTK := Lib.hid (ytick_any w y pe P1 W5 vs1 vc1 vw1 zz1 HID.out (fun a => HG1.out.okE HF1.out (by have := HN1.out; omega) a) (by have := HG1.out.now; have := HF1.out.now; have := HN1.out; omega) HG1.out.way)
            obtain ⟨PT, hPT⟩ : ∃ PT, ticksY P1 = PT := ⟨_, rfl⟩
            have HNX2 : Hid (roundsY (r + 1) P = drainY 900 PT) := Lib.hid (by rw [HNX.out, ← hPT]; rfl)
            rw [hPT] at hgt hft HTK
            have HGT := Lib.hid hgt
            have HFT := Lib.hid hft
            clear hgt hft hPT HNX HID HCL HA0 HA1 hla0 hla1 hz HG1 HF1
            go_wp2_with fail
            refine HTK.out.mono ?_
            rintro e w6 ⟨rfl, hI6⟩
            obtain ⟨vs6, vc6, vw6, z6, hI6⟩ := hI6
            have HI6 := Lib.hid hI6
            clear hI6 HTK hne
            go_wp2_with fail
            go_loopw [6] (fun iv wx => ∃ (i : Nat) (Q : Play) (vs vc vw : Bool → Value) (z3 : Bool → List (LPk × Value)), i ≤ 900 ∧ iv = .int .i64 i ∧ IsY w y pe Q vs vc vw z3 wx ∧ GoodY Q ∧ FewY Q (n1 + 1) ∧ drainY (900 - i) Q = drainY 900 PT) (fun iv _ => 900 - (intOf iv).toNat)
            case atStart => exact ⟨0, PT, _, _, _, _, by omega, rfl, HI6.out, HGT.out, HFT.out, rfl⟩
            case round =>
              obtain ⟨i, Q, vs7, vc7, vw7, z7, hi, rfl, hI7, hG7, hF7, hD7⟩ := hrel
              have HI7 := Lib.hid hI7
              have HG7 := Lib.hid hG7
              have HF7 := Lib.hid hF7
              have HD7 := Lib.hid hD7
              clear hI7 hG7 hF7 hD7 HI6 HGT HFT
              by_cases hi9 : i < 900
              · have hid : decide ((i : Int) < 900) = true := by simp; omega
                obtain ⟨A6, c6, hv6, k61, k62, _⟩ := own_slice (HI7.out.rows.1 ⟨43, 3, vw7 false, (Q.way false).length, (z7 false).flatMap encP⟩ (by simp [rowsY]))
                obtain ⟨A7, c7, hv7, k71, k72, _⟩ := own_slice (HI7.out.rows.1 ⟨43, 3, vw7 true, (Q.way true).length, (z7 true).flatMap encP⟩ (by simp [rowsY]))
                simp only at hv6 hv7
                have hb7 := HI7.out.b
                rw [hv6, hv7] at hb7
                obtain ⟨l0, hl0⟩ : ∃ l0, (Q.way false).length = l0 := ⟨_, rfl⟩
                obtain ⟨l1, hl1⟩ : ∃ l1, (Q.way true).length = l1 := ⟨_, rfl⟩
                have h40 : l0 ≤ 400 := by rw [← hl0]; exact HG7.out.way false
                have h41 : l1 ≤ 400 := by rw [← hl1]; exact HG7.out.way true
                rw [hl0, hl1] at hb7
                have p6 : wr.cell? ⟨y, 6, none⟩ = some (.slice A6 l0 c6) := cell_at hb7 6
                have p7 : wr.cell? ⟨y, 7, none⟩ = some (.slice A7 l1 c7) := cell_at hb7 7
                have hsum : IntKind.i64.wrap ((l0 : Int) + l1) = (l0 : Int) + l1 := IntWalk.i64_in _ (by omega)
                have HL0 := Lib.hid hl0
                have HL1 := Lib.hid hl1
                clear hv6 hv7 hb7 hl0 hl1 k61 k62 k71 k72
                go_wp2_with fail
                refine wp_region_flow (fun W => W = wr.drew) [0, 1, 2, 3, 4, 5, 6, 7, 8, 9, 10, 11, 12, 13, 14, 15, 16, 17] (by kernel_rfl) (by kernel_rfl) (by kernel_rfl) (rfl) ?_
                refine flow_val ?_ rfl (by kernel_rfl) (by rfl) (fun W hW => ?_) ?_
                rotate_left 1
                · go_simp <;> with_reducible rfl
                simp only [Act.put, List.setIfInBounds_toArray, List.set_cons_succ, List.set_cons_zero]
                refine flow_val ?_ rfl (by kernel_rfl) (by rfl) (fun W hW => ?_) ?_
                rotate_left 1
                · go_simp <;> with_reducible rfl
                simp only [Act.put, List.setIfInBounds_toArray, List.set_cons_succ, List.set_cons_zero]
                refine flow_val ?_ rfl (by kernel_rfl) (by rfl) (fun W hW => ?_) ?_
                rotate_left 1
                · go_simp <;> with_reducible rfl
                simp only [Act.put, List.setIfInBounds_toArray, List.set_cons_succ, List.set_cons_zero]
                refine flow_val ?_ rfl (by kernel_rfl) (by rfl) (fun W hW => ?_) ?_
                rotate_left 1
                · go_simp <;> with_reducible rfl
                simp only [Act.put, List.setIfInBounds_toArray, List.set_cons_succ, List.set_cons_zero]
                refine flow_val ?_ rfl (by kernel_rfl) (by rfl) (fun W hW => ?_) ?_
                rotate_left 1
                · go_simp <;> with_reducible rfl
                simp only [Act.put, List.setIfInBounds_toArray, List.set_cons_succ, List.set_cons_zero]
                refine flow_val ?_ rfl (by kernel_rfl) (by rfl) (fun W hW => ?_) ?_
                rotate_left 1
                · go_simp <;> with_reducible rfl
                simp only [Act.put, List.setIfInBounds_toArray, List.set_cons_succ, List.set_cons_zero]
                refine flow_val ?_ rfl (by kernel_rfl) (by rfl) (fun W hW => ?_) ?_
                rotate_left 1
                · go_simp <;> with_reducible rfl
                simp only [Act.put, List.setIfInBounds_toArray, List.set_cons_succ, List.set_cons_zero]
                refine flow_val ?_ rfl (by kernel_rfl) (by rfl) (fun W hW => ?_) ?_
                rotate_left 1
                · go_simp <;> with_reducible rfl
                simp only [Act.put, List.setIfInBounds_toArray, List.set_cons_succ, List.set_cons_zero]
                refine flow_val ?_ rfl (by kernel_rfl) (by rfl) (fun W hW => ?_) ?_
                rotate_left 1
                · go_simp <;> with_reducible rfl
                simp only [Act.put, List.setIfInBounds_toArray, List.set_cons_succ, List.set_cons_zero]
                refine flow_val ?_ rfl (by kernel_rfl) (by rfl) (fun W hW => ?_) ?_
                rotate_left 1
                · go_simp <;> with_reducible rfl
                simp only [Act.put, List.setIfInBounds_toArray, List.set_cons_succ, List.set_cons_zero]
                refine flow_val ?_ rfl (by kernel_rfl) (by rfl) (fun W hW => ?_) ?_
                rotate_left 1
                · go_simp <;> with_reducible rfl
                simp only [Act.put, List.setIfInBounds_toArray, List.set_cons_succ, List.set_cons_zero]
                refine flow_val ?_ rfl (by kernel_rfl) (by rfl) (fun W hW => ?_) ?_
                rotate_left 1
                · go_simp <;> with_reducible rfl
                simp only [Act.put, List.setIfInBounds_toArray, List.set_cons_succ, List.set_cons_zero]
                refine flow_val ?_ rfl (by kernel_rfl) (by rfl) (fun W hW => ?_) ?_
                rotate_left 1
                · go_simp <;> with_reducible rfl
                simp only [Act.put, List.setIfInBounds_toArray, List.set_cons_succ, List.set_cons_zero]
                refine flow_val ?_ rfl (by kernel_rfl) (by rfl) (fun W hW => ?_) ?_
                rotate_left 1
                · go_simp <;> with_reducible rfl
                simp only [Act.put, List.setIfInBounds_toArray, List.set_cons_succ, List.set_cons_zero]
                refine flow_val ?_ rfl (by kernel_rfl) (by rfl) (fun W hW => ?_) ?_
                rotate_left 1
                · go_simp <;> with_reducible rfl
                simp only [Act.put, List.setIfInBounds_toArray, List.set_cons_succ, List.set_cons_zero]
                refine flow_val ?_ rfl (by kernel_rfl) (by rfl) (fun W hW => ?_) ?_
                rotate_left 1
                · go_simp <;> with_reducible rfl
                simp only [Act.put, List.setIfInBounds_toArray, List.set_cons_succ, List.set_cons_zero]
                refine flow_val ?_ rfl (by kernel_rfl) (by rfl) (fun W hW => ?_) ?_
                rotate_left 1
                · go_simp <;> with_reducible rfl
                simp only [Act.put, List.setIfInBounds_toArray, List.set_cons_succ, List.set_cons_zero]
                refine flow_val ?_ rfl (by kernel_rfl) (by rfl) (fun W hW => ?_) ?_
                rotate_left 1
                · go_simp <;> with_reducible rfl
                simp only [Act.put, List.setIfInBounds_toArray, List.set_cons_succ, List.set_cons_zero]
                refine flow_done ?_
                rintro W hW
                subst hW
                have HID : Hid (IsY w y pe Q vs7 vc7 vw7 z7 wr.drew) := Lib.hid (HI7.out.below (Below.refl _ wr).drew)
                obtain ⟨W8, hW8⟩ : ∃ W8, wr.drew = W8 := ⟨_, rfl⟩
                rw [hW8] at HID
                rw [hW8]
                clear hW8 p6 p7 HI7 hsum
                obtain ⟨d, hd⟩ : ∃ d, 900 - i = d + 1 := ⟨899 - i, by omega⟩
                by_cases hz : 0 < l0 + l1
                · have hgt : decide ((l0 : Int) + l1 > 0) = true := by simp; omega
                  have hgt' : decide (0 < (l0 : Int) + l1) = true := by simp; omega
                  have HC0 := Lib.hid (come_false w y pe Q 0 false false W8 vs7 vc7 vw7 z7 HID.out HG7.out.way (by have := HG7.out.came_le HF7.out false; have := HN1.out; omega) (by have h1 := HG7.out.mark false; have := HF7.out.sent (!false); have := HN1.out; omega))
                  obtain ⟨hg8, hf8⟩ := HG7.out.come HF7.out (by have := HN1.out; omega) false 0 false false
                  obtain ⟨Q1, hQ1⟩ : ∃ Q1, comeY Q false 0 false false = Q1 := ⟨_, rfl⟩
                  have HST : Hid (stepY Q = comeY Q1 true 0 false false) := Lib.hid (by rw [← hQ1]; rfl)
                  have HD8 : Hid (drainY (900 - (i + 1)) (stepY Q) = drainY 900 PT) := Lib.hid (by
                    rw [← HD7.out, show 900 - i = (900 - (i + 1)) + 1 by omega]
                    exact (if_pos (by rw [HL0.out, HL1.out]; exact hz)).symm)
                  rw [hQ1] at HC0 hg8 hf8
                  have HG8 := Lib.hid hg8
                  have HF8 := Lib.hid hf8
                  clear hg8 hf8 hQ1 HID HG7 HF7 HD7
                  go_wp2_with fail
                  refine HC0.out.mono ?_
                  rintro e w9 ⟨rfl, hI9⟩
                  obtain ⟨vs9, vc9, vw9, z9, hI9⟩ := hI9
                  have HI9 := Lib.hid hI9
                  have HC1 := Lib.hid (come_true w y pe Q1 0 false false w9 vs9 vc9 vw9 z9 HI9.out HG8.out.way (by have := HG8.out.came_le HF8.out true; have := HN1.out; omega) (by have h1 := HG8.out.mark true; have := HF8.out.sent (!true); have := HN1.out; omega))
                  obtain ⟨hg9, hf9⟩ := HG8.out.come HF8.out (by have := HN1.out; omega) true 0 false false
                  rw [← HST.out] at HC1 hg9 hf9
                  have HG9 := Lib.hid hg9
                  have HF9 := Lib.hid hf9
                  clear hI9 hg9 hf9 HC0
                  go_wp2_with fail
                  refine HC1.out.mono ?_
                  rintro e w10 ⟨rfl, hI10⟩
                  obtain ⟨vs10, vc10, vw10, z10, hI10⟩ := hI10
                  have HI10 := Lib.hid hI10
                  clear hI10 HC1 hgt hgt' hz hd
                  go_wp2_with fail
                  go_roundw
                  case rel => exact ⟨i + 1, stepY Q, _, _, _, _, hi9, by go_num, HI10.out, HG9.out, HF9.out, HD8.out⟩
                  case measure => simp [intOf]; omega
                · have hgt : decide ((l0 : Int) + l1 > 0) = false := by simp; omega
                  have hgt' : decide (0 < (l0 : Int) + l1) = false := by simp; omega
                  have HE : Hid (Q = drainY 900 PT) := Lib.hid (by
                    rw [← HD7.out, hd]
                    exact (if_neg (by rw [HL0.out, HL1.out]; exact hz)).symm)
                  clear hd
                  go_wp2_with fail
                  go_roundw
                  case rel => exact ⟨r + 1, _, _, _, _, HRR.out, by go_num, by rw [HNX2.out, ← HE.out]; exact HID.out⟩
                  case measure => simp [intOf]; have := HRR.out; omega
              · have hid : decide ((i : Int) < 900) = false := by simp; omega
                have HE : Hid (Q = drainY 900 PT) := Lib.hid (by
                  rw [← HD7.out, show 900 - i = 0 by omega]
                  rfl)
                go_wp2_with fail
                refine wp_region_flow (fun W => W = wr.drew) [0, 1, 2, 3, 4, 5, 6, 7, 8, 9, 10, 11, 12, 13, 14, 15, 16, 17] (by kernel_rfl) (by kernel_rfl) (by kernel_rfl) (rfl) ?_
                refine flow_val ?_ rfl (by kernel_rfl) (by rfl) (fun W hW => ?_) ?_
                rotate_left 1
                · go_simp <;> with_reducible rfl
                simp only [Act.put, List.setIfInBounds_toArray, List.set_cons_succ, List.set_cons_zero]
                refine flow_val ?_ rfl (by kernel_rfl) (by rfl) (fun W hW => ?_) ?_
                rotate_left 1
                · go_simp <;> with_reducible rfl
                simp only [Act.put, List.setIfInBounds_toArray, List.set_cons_succ, List.set_cons_zero]
                refine flow_val ?_ rfl (by kernel_rfl) (by rfl) (fun W hW => ?_) ?_
                rotate_left 1
                · go_simp <;> with_reducible rfl
                simp only [Act.put, List.setIfInBounds_toArray, List.set_cons_succ, List.set_cons_zero]
                refine flow_off rfl (by kernel_rfl) (by rfl) ?_
                simp only [Act.put, List.setIfInBounds_toArray, List.set_cons_succ, List.set_cons_zero]
                refine flow_off rfl (by kernel_rfl) (by rfl) ?_
                simp only [Act.put, List.setIfInBounds_toArray, List.set_cons_succ, List.set_cons_zero]
                refine flow_off rfl (by kernel_rfl) (by rfl) ?_
                simp only [Act.put, List.setIfInBounds_toArray, List.set_cons_succ, List.set_cons_zero]
                refine flow_off rfl (by kernel_rfl) (by rfl) ?_
                simp only [Act.put, List.setIfInBounds_toArray, List.set_cons_succ, List.set_cons_zero]
                refine flow_off rfl (by kernel_rfl) (by rfl) ?_
                simp only [Act.put, List.setIfInBounds_toArray, List.set_cons_succ, List.set_cons_zero]
                refine flow_off rfl (by kernel_rfl) (by rfl) ?_
                simp only [Act.put, List.setIfInBounds_toArray, List.set_cons_succ, List.set_cons_zero]
                refine flow_off rfl (by kernel_rfl) (by rfl) ?_
                simp only [Act.put, List.setIfInBounds_toArray, List.set_cons_succ, List.set_cons_zero]
                refine flow_off rfl (by kernel_rfl) (by rfl) ?_
                simp only [Act.put, List.setIfInBounds_toArray, List.set_cons_succ, List.set_cons_zero]
                refine flow_off rfl (by kernel_rfl) (by rfl) ?_
                simp only [Act.put, List.setIfInBounds_toArray, List.set_cons_succ, List.set_cons_zero]
                refine flow_off rfl (by kernel_rfl) (by rfl) ?_
                simp only [Act.put, List.setIfInBounds_toArray, List.set_cons_succ, List.set_cons_zero]
                refine flow_off rfl (by kernel_rfl) (by rfl) ?_
                simp only [Act.put, List.setIfInBounds_toArray, List.set_cons_succ, List.set_cons_zero]
                refine flow_off rfl (by kernel_rfl) (by rfl) ?_
                simp only [Act.put, List.setIfInBounds_toArray, List.set_cons_succ, List.set_cons_zero]
                refine flow_off rfl (by kernel_rfl) (by rfl) ?_
                simp only [Act.put, List.setIfInBounds_toArray, List.set_cons_succ, List.set_cons_zero]
                refine flow_off rfl (by kernel_rfl) (by rfl) ?_
                simp only [Act.put, List.setIfInBounds_toArray, List.set_cons_succ, List.set_cons_zero]
                refine flow_val ?_ rfl (by kernel_rfl) (by rfl) (fun W hW => ?_) ?_
                rotate_left 1
                · go_simp <;> with_reducible rfl
                simp only [Act.put, List.setIfInBounds_toArray, List.set_cons_succ, List.set_cons_zero]
                refine flow_done ?_
                rintro W hW
                subst hW
                have HID : Hid (IsY w y pe Q vs7 vc7 vw7 z7 wr.drew) := Lib.hid (HI7.out.below (Below.refl _ wr).drew)
                clear HI7
                go_wp2_with fail
                go_roundw
                case rel => exact ⟨r + 1, _, _, _, _, HRR.out, by go_num, by rw [HNX2.out, ← HE.out]; exact HID.out⟩
                case measure => simp [intOf]; have := HRR.out; omega
    · have hd : decide (k < m) = false := by simpa using hlm
      have HP0 := Lib.hid (⟨HG.out, HF.out⟩ : GoodY P ∧ FewY P k)
      have HK120 : Hid (k ≤ 120) := Lib.hid hk3
      have hI0 : IsY w y pe (roundsY 0 P) vs vc vw z3 wr := HI.out
      have HI0 := Lib.hid hI0
      clear hI0 HI HG HF HRD HM hk hk3
      go_wp2_with fail
      clear hlm hd
      go_loopw [5] (fun rv wx => ∃ (r : Nat) (vs vc vw : Bool → Value) (z3 : Bool → List (LPk × Value)), r ≤ 1105 ∧ rv = .int .i64 r ∧ IsY w y pe (roundsY r P) vs vc vw z3 wx) (fun rv _ => 2500 - (intOf rv).toNat)
      case atStart => exact ⟨0, _, _, _, _, by omega, rfl, HI0.out⟩
      case round =>
        obtain ⟨r, vs1, vc1, vw1, zz1, hr, rfl, hI1⟩ := hrel
        have HI1 := Lib.hid hI1
        have hgr := rounds_good HP0.out.1 HP0.out.2 r (by have := HK120.out; omega)
        have HG1 := Lib.hid hgr.1
        have HF1 := Lib.hid hgr.2.1
        obtain ⟨n1, hn1⟩ : ∃ n1, k + r = n1 := ⟨_, rfl⟩
        have hn1' : n1 ≤ 2000 := by have := HK120.out; omega
        rw [hn1] at HF1
        have hcl : r = 1105 → ((roundsY r P).e false).l = [] ∧ ((roundsY r P).e true).l = [] := fun e => e ▸ rounds_closed HP0.out.1 HP0.out.2 (by have := HK120.out; omega)
        have HCL := Lib.hid hcl
        obtain ⟨P1, hP1⟩ : ∃ P1, roundsY r P = P1 := ⟨_, rfl⟩
        have HNX : Hid (roundsY (r + 1) P = roundY P1) := Lib.hid (by rw [← hP1]; rfl)
        rw [hP1] at HI1 HG1 HF1 HCL
        have hb1 := HI1.out.b
        have p0 : wr.cell? ⟨y, 0, none⟩ = some (.pointer (some ⟨pe false, 0, none⟩)) := cell_at hb1 0
        have p1 : wr.cell? ⟨y, 1, none⟩ = some (.pointer (some ⟨pe true, 0, none⟩)) := cell_at hb1 1
        obtain ⟨a0, ha0⟩ : ∃ a0, (P1.e false).l.length = a0 := ⟨_, rfl⟩
        obtain ⟨a1, ha1⟩ : ∃ a1, (P1.e true).l.length = a1 := ⟨_, rfl⟩
        have hla0 : a0 ≤ 64 := by rw [← ha0]; exact HG1.out.len false
        have hla1 : a1 ≤ 64 := by rw [← ha1]; exact HG1.out.len true
        have HA0 := Lib.hid ha0
        have HA1 := Lib.hid ha1
        have hr2 : decide ((r : Int) < 2500) = true := by simp; omega
        have hsum : IntKind.i64.wrap ((a0 : Int) + a1) = (a0 : Int) + a1 := IntWalk.i64_in _ (by omega)
        have HN1 := Lib.hid hn1'
        have HR := Lib.hid hr
        have HB1 := Lib.hid hb1
        clear hI1 hgr hn1 hcl hP1 ha0 ha1 hb1 HI0 hn1'
        go_wp2_with fail
        refine wp_region_flow (fun W => W = wr.drew) [0, 1, 2, 3, 4, 5, 6, 7, 8, 9, 10, 11, 12, 13] (by kernel_rfl) (by kernel_rfl) (by kernel_rfl) (rfl) ?_
        refine flow_val ?_ rfl (by kernel_rfl) (by rfl) (fun W hW => ?_) ?_
        rotate_left 1
        · go_simp <;> with_reducible rfl
        simp only [Act.put, List.setIfInBounds_toArray, List.set_cons_succ, List.set_cons_zero]
        refine flow_val ?_ rfl (by kernel_rfl) (by rfl) (fun W hW => ?_) ?_
        rotate_left 1
        · go_simp <;> with_reducible rfl
        simp only [Act.put, List.setIfInBounds_toArray, List.set_cons_succ, List.set_cons_zero]
        refine flow_val ?_ rfl (by kernel_rfl) (by rfl) (fun W hW => ?_) ?_
        rotate_left 1
        · go_simp <;> with_reducible rfl
        simp only [Act.put, List.setIfInBounds_toArray, List.set_cons_succ, List.set_cons_zero]
        refine flow_val ?_ rfl (by kernel_rfl) (by rfl) (fun W hW => ?_) ?_
        rotate_left 1
        · go_simp <;> with_reducible rfl
        simp only [Act.put, List.setIfInBounds_toArray, List.set_cons_succ, List.set_cons_zero]
        refine flow_val ?_ rfl (by kernel_rfl) (by rfl) (fun W hW => ?_) ?_
        rotate_left 1
        · go_simp <;> with_reducible rfl
        simp only [Act.put, List.setIfInBounds_toArray, List.set_cons_succ, List.set_cons_zero]
        refine flow_quiet (.int .i64 a0) rfl (by kernel_rfl) (by rfl) (fun W hW => ⟨_, _, by go_simp, ((by subst hW; exact HA0.out ▸ ((HI1.out.below (Below.refl _ wr).drew).ts false).open_ : Calls Try.prog 15 #[.pointer (some ⟨pe false, 0, none⟩)] W fun e W' => e = .returned (.int .i64 a0) ∧ W = W'))⟩) ?_
        simp only [Act.put, List.setIfInBounds_toArray, List.set_cons_succ, List.set_cons_zero]
        refine flow_val ?_ rfl (by kernel_rfl) (by rfl) (fun W hW => ?_) ?_
        rotate_left 1
        · go_simp <;> with_reducible rfl
        simp only [Act.put, List.setIfInBounds_toArray, List.set_cons_succ, List.set_cons_zero]
        refine flow_val ?_ rfl (by kernel_rfl) (by rfl) (fun W hW => ?_) ?_
        rotate_left 1
        · go_simp <;> with_reducible rfl
        simp only [Act.put, List.setIfInBounds_toArray, List.set_cons_succ, List.set_cons_zero]
        refine flow_val ?_ rfl (by kernel_rfl) (by rfl) (fun W hW => ?_) ?_
        rotate_left 1
        · go_simp <;> with_reducible rfl
        simp only [Act.put, List.setIfInBounds_toArray, List.set_cons_succ, List.set_cons_zero]
        refine flow_val ?_ rfl (by kernel_rfl) (by rfl) (fun W hW => ?_) ?_
        rotate_left 1
        · go_simp <;> with_reducible rfl
        simp only [Act.put, List.setIfInBounds_toArray, List.set_cons_succ, List.set_cons_zero]
        refine flow_val ?_ rfl (by kernel_rfl) (by rfl) (fun W hW => ?_) ?_
        rotate_left 1
        · go_simp <;> with_reducible rfl
        simp only [Act.put, List.setIfInBounds_toArray, List.set_cons_succ, List.set_cons_zero]
        refine flow_quiet (.int .i64 a1) rfl (by kernel_rfl) (by rfl) (fun W hW => ⟨_, _, by go_simp, ((by subst hW; exact HA1.out ▸ ((HI1.out.below (Below.refl _ wr).drew).ts true).open_ : Calls Try.prog 15 #[.pointer (some ⟨pe true, 0, none⟩)] W fun e W' => e = .returned (.int .i64 a1) ∧ W = W'))⟩) ?_
        simp only [Act.put, List.setIfInBounds_toArray, List.set_cons_succ, List.set_cons_zero]
        refine flow_val ?_ rfl (by kernel_rfl) (by rfl) (fun W hW => ?_) ?_
        rotate_left 1
        · go_simp <;> with_reducible rfl
        simp only [Act.put, List.setIfInBounds_toArray, List.set_cons_succ, List.set_cons_zero]
        refine flow_val ?_ rfl (by kernel_rfl) (by rfl) (fun W hW => ?_) ?_
        rotate_left 1
        · go_simp <;> with_reducible rfl
        simp only [Act.put, List.setIfInBounds_toArray, List.set_cons_succ, List.set_cons_zero]
        refine flow_done ?_
        rintro W hW
        subst hW
        have HID : Hid (IsY w y pe P1 vs1 vc1 vw1 zz1 wr.drew) := Lib.hid (HI1.out.below (Below.refl _ wr).drew)
        obtain ⟨W5, hW5⟩ : ∃ W5, wr.drew = W5 := ⟨_, rfl⟩
        rw [hW5] at HID
        rw [hW5]
        clear hW5 p0 p1 HB1 HI1 hsum
        by_cases hz : a0 = 0 ∧ a1 = 0
        · obtain ⟨rfl, rfl⟩ := hz
          have HCE : Hid (∀ a, (P1.came (!a)).length = (P1.sent a).length) := Lib.hid (fun a => HG1.out.all a (by cases a; exact List.eq_nil_of_length_eq_zero HA0.out; exact List.eq_nil_of_length_eq_zero HA1.out))
          obtain ⟨A2, c2, hv2, _, _, _⟩ := own_slice (HID.out.rows.1 ⟨9, 1, vs1 false, (P1.sent false).length, (P1.sent false).map strY⟩ (by simp [rowsY]))
          obtain ⟨A3, c3, hv3, _, _, _⟩ := own_slice (HID.out.rows.1 ⟨9, 1, vs1 true, (P1.sent true).length, (P1.sent true).map strY⟩ (by simp [rowsY]))
          obtain ⟨A4, c4, hv4, _, _, _⟩ := own_slice (HID.out.rows.1 ⟨9, 1, vc1 false, (P1.came false).length, (P1.came false).map strY⟩ (by simp [rowsY]))
          obtain ⟨A5, c5, hv5, _, _, _⟩ := own_slice (HID.out.rows.1 ⟨9, 1, vc1 true, (P1.came true).length, (P1.came true).map strY⟩ (by simp [rowsY]))
          simp only at hv2 hv3 hv4 hv5
          have q1 := HCE.out false
          have q2 := HCE.out true
          simp only [Bool.not_false, Bool.not_true] at q1 q2
          rw [← q2] at hv3
          rw [← q1] at hv2
          have hb5 := HID.out.b
          rw [hv2, hv3, hv4, hv5] at hb5
          obtain ⟨l0, hl0⟩ : ∃ l0, (P1.came false).length = l0 := ⟨_, rfl⟩
          obtain ⟨l1, hl1⟩ : ∃ l1, (P1.came true).length = l1 := ⟨_, rfl⟩
          rw [hl0, hl1] at hb5
          have HB5 := Lib.hid hb5
          have hz0 : ((0 : Int) + 0 == 0) = true := rfl
          clear hv2 hv3 hv4 hv5 q1 q2 hb5 hl0 hl1
          go_wp2_with fail
          refine wp_region_flow2 (fun W => Below W5.heap.size W5 W) (fun W => IsY w y pe P1 vs1 vc1 vw1 zz1 W) [0, 1, 2, 3, 4, 5, 6, 7, 8, 9, 10, 11, 12, 13, 14, 15, 16, 17, 18, 19, 20, 21, 22, 23, 24, 25, 26, 27, 28, 29, 30, 31, 32] (by kernel_rfl) (by kernel_rfl) (by kernel_rfl) ((Below.refl _ W5).drew) (HID.out.below (Below.refl _ W5).drew) ?_
          refine flow_val ?_ rfl (by kernel_rfl) (by rfl) (fun W hW => ?_) ?_
          rotate_left 1
          · go_simp <;> with_reducible rfl
          simp only [Act.put, List.setIfInBounds_toArray, List.set_cons_succ, List.set_cons_zero]
          refine flow_gcall (fun v W => v = .bool true) rfl (by kernel_rfl) (by rfl) (by kernel_rfl) (fun W hW hC => ⟨_, _, _, by go_simp, (right_any w y pe P1 W vs1 vc1 vw1 zz1 hC HG1.out.right).mono fun e w1 ⟨he, hb⟩ => ⟨_, he, hW.trans (hb.mono hW.size), rfl⟩⟩) ?_
          rintro v49 ⟨_, _, rfl⟩
          simp only [Act.put, List.setIfInBounds_toArray, List.set_cons_succ, List.set_cons_zero]
          refine flow_val ?_ rfl (by kernel_rfl) (by rfl) (fun W hW => ?_) ?_
          rotate_left 1
          · go_simp <;> with_reducible rfl
          simp only [Act.put, List.setIfInBounds_toArray, List.set_cons_succ, List.set_cons_zero]
          refine flow_val ?_ rfl (by kernel_rfl) (by rfl) (fun W hW => ?_) ?_
          rotate_left 1
          · go_simp <;> with_reducible rfl
          simp only [Act.put, List.setIfInBounds_toArray, List.set_cons_succ, List.set_cons_zero]
          refine flow_val ?_ rfl (by kernel_rfl) (by rfl) (fun W hW => ?_) ?_
          rotate_left 1
          · go_simp <;> with_reducible rfl
          simp only [Act.put, List.setIfInBounds_toArray, List.set_cons_succ, List.set_cons_zero]
          refine flow_val ?_ rfl (by kernel_rfl) (by rfl) (fun W hW => ?_) ?_
          rotate_left 1
          · go_simp <;> with_reducible rfl
          simp only [Act.put, List.setIfInBounds_toArray, List.set_cons_succ, List.set_cons_zero]
          refine flow_val ?_ rfl (by kernel_rfl) (by rfl) (fun W hW => ?_) ?_
          rotate_left 1
          · go_simp <;> with_reducible rfl
          simp only [Act.put, List.setIfInBounds_toArray, List.set_cons_succ, List.set_cons_zero]
          refine flow_val ?_ rfl (by kernel_rfl) (by rfl) (fun W hW => ?_) ?_
          rotate_left 1
          · have c1 : W.cell? ⟨y, 4, none⟩ = some (.slice A4 l0 c4) := cell_at ((hW.1.block y (lt_of_block HB5.out)).trans HB5.out) 4; go_simp <;> with_reducible rfl
          simp only [Act.put, List.setIfInBounds_toArray, List.set_cons_succ, List.set_cons_zero]
          refine flow_val ?_ rfl (by kernel_rfl) (by rfl) (fun W hW => ?_) ?_
          rotate_left 1
          · go_simp <;> with_reducible rfl
          simp only [Act.put, List.setIfInBounds_toArray, List.set_cons_succ, List.set_cons_zero]
          refine flow_val ?_ rfl (by kernel_rfl) (by rfl) (fun W hW => ?_) ?_
          rotate_left 1
          · go_simp <;> with_reducible rfl
          simp only [Act.put, List.setIfInBounds_toArray, List.set_cons_succ, List.set_cons_zero]
          refine flow_val ?_ rfl (by kernel_rfl) (by rfl) (fun W hW => ?_) ?_
          rotate_left 1
          · go_simp <;> with_reducible rfl
          simp only [Act.put, List.setIfInBounds_toArray, List.set_cons_succ, List.set_cons_zero]
          refine flow_val ?_ rfl (by kernel_rfl) (by rfl) (fun W hW => ?_) ?_
          rotate_left 1
          · go_simp <;> with_reducible rfl
          simp only [Act.put, List.setIfInBounds_toArray, List.set_cons_succ, List.set_cons_zero]
          refine flow_val ?_ rfl (by kernel_rfl) (by rfl) (fun W hW => ?_) ?_
          rotate_left 1
          · go_simp <;> with_reducible rfl
          simp only [Act.put, List.setIfInBounds_toArray, List.set_cons_succ, List.set_cons_zero]
          refine flow_val ?_ rfl (by kernel_rfl) (by rfl) (fun W hW => ?_) ?_
          rotate_left 1
          · have c1 : W.cell? ⟨y, 3, none⟩ = some (.slice A3 l0 c3) := cell_at ((hW.1.block y (lt_of_block HB5.out)).trans HB5.out) 3; go_simp <;> with_reducible rfl
          simp only [Act.put, List.setIfInBounds_toArray, List.set_cons_succ, List.set_cons_zero]
          refine flow_val ?_ rfl (by kernel_rfl) (by rfl) (fun W hW => ?_) ?_
          rotate_left 1
          · go_simp <;> with_reducible rfl
          simp only [Act.put, List.setIfInBounds_toArray, List.set_cons_succ, List.set_cons_zero]
          refine flow_val ?_ rfl (by kernel_rfl) (by rfl) (fun W hW => ?_) ?_
          rotate_left 1
          · go_simp <;> with_reducible rfl
          simp only [Act.put, List.setIfInBounds_toArray, List.set_cons_succ, List.set_cons_zero]
          refine flow_val ?_ rfl (by kernel_rfl) (by rfl) (fun W hW => ?_) ?_
          rotate_left 1
          · go_simp <;> with_reducible rfl
          simp only [Act.put, List.setIfInBounds_toArray, List.set_cons_succ, List.set_cons_zero]
          refine flow_val ?_ rfl (by kernel_rfl) (by rfl) (fun W hW => ?_) ?_
          rotate_left 1
          · go_simp <;> with_reducible rfl
          simp only [Act.put, List.setIfInBounds_toArray, List.set_cons_succ, List.set_cons_zero]
          refine flow_val ?_ rfl (by kernel_rfl) (by rfl) (fun W hW => ?_) ?_
          rotate_left 1
          · go_simp <;> with_reducible rfl
          simp only [Act.put, List.setIfInBounds_toArray, List.set_cons_succ, List.set_cons_zero]
          refine flow_val ?_ rfl (by kernel_rfl) (by rfl) (fun W hW => ?_) ?_
          rotate_left 1
          · go_simp <;> with_reducible rfl
          simp only [Act.put, List.setIfInBounds_toArray, List.set_cons_succ, List.set_cons_zero]
          refine flow_val ?_ rfl (by kernel_rfl) (by rfl) (fun W hW => ?_) ?_
          rotate_left 1
          · go_simp <;> with_reducible rfl
          simp only [Act.put, List.setIfInBounds_toArray, List.set_cons_succ, List.set_cons_zero]
          refine flow_val ?_ rfl (by kernel_rfl) (by rfl) (fun W hW => ?_) ?_
          rotate_left 1
          · go_simp <;> with_reducible rfl
          simp only [Act.put, List.setIfInBounds_toArray, List.set_cons_succ, List.set_cons_zero]
          refine flow_val ?_ rfl (by kernel_rfl) (by rfl) (fun W hW => ?_) ?_
          rotate_left 1
          · have c1 : W.cell? ⟨y, 5, none⟩ = some (.slice A5 l1 c5) := cell_at ((hW.1.block y (lt_of_block HB5.out)).trans HB5.out) 5; go_simp <;> with_reducible rfl
          simp only [Act.put, List.setIfInBounds_toArray, List.set_cons_succ, List.set_cons_zero]
          refine flow_val ?_ rfl (by kernel_rfl) (by rfl) (fun W hW => ?_) ?_
          rotate_left 1
          · go_simp <;> with_reducible rfl
          simp only [Act.put, List.setIfInBounds_toArray, List.set_cons_succ, List.set_cons_zero]
          refine flow_val ?_ rfl (by kernel_rfl) (by rfl) (fun W hW => ?_) ?_
          rotate_left 1
          · go_simp <;> with_reducible rfl
          simp only [Act.put, List.setIfInBounds_toArray, List.set_cons_succ, List.set_cons_zero]
          refine flow_val ?_ rfl (by kernel_rfl) (by rfl) (fun W hW => ?_) ?_
          rotate_left 1
          · go_simp <;> with_reducible rfl
          simp only [Act.put, List.setIfInBounds_toArray, List.set_cons_succ, List.set_cons_zero]
          refine flow_val ?_ rfl (by kernel_rfl) (by rfl) (fun W hW => ?_) ?_
          rotate_left 1
          · go_simp <;> with_reducible rfl
          simp only [Act.put, List.setIfInBounds_toArray, List.set_cons_succ, List.set_cons_zero]
          refine flow_val ?_ rfl (by kernel_rfl) (by rfl) (fun W hW => ?_) ?_
          rotate_left 1
          · go_simp <;> with_reducible rfl
          simp only [Act.put, List.setIfInBounds_toArray, List.set_cons_succ, List.set_cons_zero]
          refine flow_val ?_ rfl (by kernel_rfl) (by rfl) (fun W hW => ?_) ?_
          rotate_left 1
          · have c1 : W.cell? ⟨y, 2, none⟩ = some (.slice A2 l1 c2) := cell_at ((hW.1.block y (lt_of_block HB5.out)).trans HB5.out) 2; go_simp <;> with_reducible rfl
          simp only [Act.put, List.setIfInBounds_toArray, List.set_cons_succ, List.set_cons_zero]
          refine flow_val ?_ rfl (by kernel_rfl) (by rfl) (fun W hW => ?_) ?_
          rotate_left 1
          · go_simp <;> with_reducible rfl
          simp only [Act.put, List.setIfInBounds_toArray, List.set_cons_succ, List.set_cons_zero]
          refine flow_val ?_ rfl (by kernel_rfl) (by rfl) (fun W hW => ?_) ?_
          rotate_left 1
          · go_simp <;> with_reducible rfl
          simp only [Act.put, List.setIfInBounds_toArray, List.set_cons_succ, List.set_cons_zero]
          refine flow_val ?_ rfl (by kernel_rfl) (by rfl) (fun W hW => ?_) ?_
          rotate_left 1
          · go_simp <;> with_reducible rfl
          simp only [Act.put, List.setIfInBounds_toArray, List.set_cons_succ, List.set_cons_zero]
          refine flow_val ?_ rfl (by kernel_rfl) (by rfl) (fun W hW => ?_) ?_
          rotate_left 1
          · go_simp <;> with_reducible rfl
          simp only [Act.put, List.setIfInBounds_toArray, List.set_cons_succ, List.set_cons_zero]
          refine flow_done2 ?_
          rintro W hW _
          have HBW := Lib.hid hW
          clear hW
          go_wp2
          go_ret
          exact ⟨rfl, HID.out.two.bel.trans (HBW.out.1.mono HID.out.two.bel.size)⟩
        · have hne : ((a0 : Int) + a1 == 0) = false := by simp; omega
          have HRR : Hid (r < 1105) := Lib.hid (by
            rcases Nat.lt_or_ge r 1105 with h | h
            · exact h
            · have := HR.out
              obtain ⟨c1, c2⟩ := HCL.out (by omega)
              have e1 := HA0.out
              have e2 := HA1.out
              rw [c1] at e1
              rw [c2] at e2
              simp at e1 e2
              omega)
          obtain ⟨hgt, hft⟩ := HG1.out.ticks HF1.out (by have := HN1.out; omega)
          have HTK := Lib.hid (ytick_any w y pe P1 W5 vs1 vc1 vw1 zz1 HID.out (fun a => HG1.out.okE HF1.out (by have := HN1.out; omega) a) (by have := HG1.out.now; have := HF1.out.now; have := HN1.out; omega) HG1.out.way)
          obtain ⟨PT, hPT⟩ : ∃ PT, ticksY P1 = PT := ⟨_, rfl⟩
          have HNX2 : Hid (roundsY (r + 1) P = drainY 900 PT) := Lib.hid (by rw [HNX.out, ← hPT]; rfl)
          rw [hPT] at hgt hft HTK
          have HGT := Lib.hid hgt
          have HFT := Lib.hid hft
          clear hgt hft hPT HNX HID HCL HA0 HA1 hla0 hla1 hz HG1 HF1
          go_wp2_with fail
          refine HTK.out.mono ?_
          rintro e w6 ⟨rfl, hI6⟩
          obtain ⟨vs6, vc6, vw6, z6, hI6⟩ := hI6
          have HI6 := Lib.hid hI6
          clear hI6 HTK hne
          go_wp2_with fail
          go_loopw [6] (fun iv wx => ∃ (i : Nat) (Q : Play) (vs vc vw : Bool → Value) (z3 : Bool → List (LPk × Value)), i ≤ 900 ∧ iv = .int .i64 i ∧ IsY w y pe Q vs vc vw z3 wx ∧ GoodY Q ∧ FewY Q (n1 + 1) ∧ drainY (900 - i) Q = drainY 900 PT) (fun iv _ => 900 - (intOf iv).toNat)
          case atStart => exact ⟨0, PT, _, _, _, _, by omega, rfl, HI6.out, HGT.out, HFT.out, rfl⟩
          case round =>
            obtain ⟨i, Q, vs7, vc7, vw7, z7, hi, rfl, hI7, hG7, hF7, hD7⟩ := hrel
            have HI7 := Lib.hid hI7
            have HG7 := Lib.hid hG7
            have HF7 := Lib.hid hF7
            have HD7 := Lib.hid hD7
            clear hI7 hG7 hF7 hD7 HI6 HGT HFT
            by_cases hi9 : i < 900
            · have hid : decide ((i : Int) < 900) = true := by simp; omega
              obtain ⟨A6, c6, hv6, k61, k62, _⟩ := own_slice (HI7.out.rows.1 ⟨43, 3, vw7 false, (Q.way false).length, (z7 false).flatMap encP⟩ (by simp [rowsY]))
              obtain ⟨A7, c7, hv7, k71, k72, _⟩ := own_slice (HI7.out.rows.1 ⟨43, 3, vw7 true, (Q.way true).length, (z7 true).flatMap encP⟩ (by simp [rowsY]))
              simp only at hv6 hv7
              have hb7 := HI7.out.b
              rw [hv6, hv7] at hb7
              obtain ⟨l0, hl0⟩ : ∃ l0, (Q.way false).length = l0 := ⟨_, rfl⟩
              obtain ⟨l1, hl1⟩ : ∃ l1, (Q.way true).length = l1 := ⟨_, rfl⟩
              have h40 : l0 ≤ 400 := by rw [← hl0]; exact HG7.out.way false
              have h41 : l1 ≤ 400 := by rw [← hl1]; exact HG7.out.way true
              rw [hl0, hl1] at hb7
              have p6 : wr.cell? ⟨y, 6, none⟩ = some (.slice A6 l0 c6) := cell_at hb7 6
              have p7 : wr.cell? ⟨y, 7, none⟩ = some (.slice A7 l1 c7) := cell_at hb7 7
              have hsum : IntKind.i64.wrap ((l0 : Int) + l1) = (l0 : Int) + l1 := IntWalk.i64_in _ (by omega)
              have HL0 := Lib.hid hl0
              have HL1 := Lib.hid hl1
              clear hv6 hv7 hb7 hl0 hl1 k61 k62 k71 k72
              go_wp2_with fail
              refine wp_region_flow (fun W => W = wr.drew) [0, 1, 2, 3, 4, 5, 6, 7, 8, 9, 10, 11, 12, 13, 14, 15, 16, 17] (by kernel_rfl) (by kernel_rfl) (by kernel_rfl) (rfl) ?_
              refine flow_val ?_ rfl (by kernel_rfl) (by rfl) (fun W hW => ?_) ?_
              rotate_left 1
              · go_simp <;> with_reducible rfl
              simp only [Act.put, List.setIfInBounds_toArray, List.set_cons_succ, List.set_cons_zero]
              refine flow_val ?_ rfl (by kernel_rfl) (by rfl) (fun W hW => ?_) ?_
              rotate_left 1
              · go_simp <;> with_reducible rfl
              simp only [Act.put, List.setIfInBounds_toArray, List.set_cons_succ, List.set_cons_zero]
              refine flow_val ?_ rfl (by kernel_rfl) (by rfl) (fun W hW => ?_) ?_
              rotate_left 1
              · go_simp <;> with_reducible rfl
              simp only [Act.put, List.setIfInBounds_toArray, List.set_cons_succ, List.set_cons_zero]
              refine flow_val ?_ rfl (by kernel_rfl) (by rfl) (fun W hW => ?_) ?_
              rotate_left 1
              · go_simp <;> with_reducible rfl
              simp only [Act.put, List.setIfInBounds_toArray, List.set_cons_succ, List.set_cons_zero]
              refine flow_val ?_ rfl (by kernel_rfl) (by rfl) (fun W hW => ?_) ?_
              rotate_left 1
              · go_simp <;> with_reducible rfl
              simp only [Act.put, List.setIfInBounds_toArray, List.set_cons_succ, List.set_cons_zero]
              refine flow_val ?_ rfl (by kernel_rfl) (by rfl) (fun W hW => ?_) ?_
              rotate_left 1
              · go_simp <;> with_reducible rfl
              simp only [Act.put, List.setIfInBounds_toArray, List.set_cons_succ, List.set_cons_zero]
              refine flow_val ?_ rfl (by kernel_rfl) (by rfl) (fun W hW => ?_) ?_
              rotate_left 1
              · go_simp <;> with_reducible rfl
              simp only [Act.put, List.setIfInBounds_toArray, List.set_cons_succ, List.set_cons_zero]
              refine flow_val ?_ rfl (by kernel_rfl) (by rfl) (fun W hW => ?_) ?_
              rotate_left 1
              · go_simp <;> with_reducible rfl
              simp only [Act.put, List.setIfInBounds_toArray, List.set_cons_succ, List.set_cons_zero]
              refine flow_val ?_ rfl (by kernel_rfl) (by rfl) (fun W hW => ?_) ?_
              rotate_left 1
              · go_simp <;> with_reducible rfl
              simp only [Act.put, List.setIfInBounds_toArray, List.set_cons_succ, List.set_cons_zero]
              refine flow_val ?_ rfl (by kernel_rfl) (by rfl) (fun W hW => ?_) ?_
              rotate_left 1
              · go_simp <;> with_reducible rfl
              simp only [Act.put, List.setIfInBounds_toArray, List.set_cons_succ, List.set_cons_zero]
              refine flow_val ?_ rfl (by kernel_rfl) (by rfl) (fun W hW => ?_) ?_
              rotate_left 1
              · go_simp <;> with_reducible rfl
              simp only [Act.put, List.setIfInBounds_toArray, List.set_cons_succ, List.set_cons_zero]
              refine flow_val ?_ rfl (by kernel_rfl) (by rfl) (fun W hW => ?_) ?_
              rotate_left 1
              · go_simp <;> with_reducible rfl
              simp only [Act.put, List.setIfInBounds_toArray, List.set_cons_succ, List.set_cons_zero]
              refine flow_val ?_ rfl (by kernel_rfl) (by rfl) (fun W hW => ?_) ?_
              rotate_left 1
              · go_simp <;> with_reducible rfl
              simp only [Act.put, List.setIfInBounds_toArray, List.set_cons_succ, List.set_cons_zero]
              refine flow_val ?_ rfl (by kernel_rfl) (by rfl) (fun W hW => ?_) ?_
              rotate_left 1
              · go_simp <;> with_reducible rfl
              simp only [Act.put, List.setIfInBounds_toArray, List.set_cons_succ, List.set_cons_zero]
              refine flow_val ?_ rfl (by kernel_rfl) (by rfl) (fun W hW => ?_) ?_
              rotate_left 1
              · go_simp <;> with_reducible rfl
              simp only [Act.put, List.setIfInBounds_toArray, List.set_cons_succ, List.set_cons_zero]
              refine flow_val ?_ rfl (by kernel_rfl) (by rfl) (fun W hW => ?_) ?_
              rotate_left 1
              · go_simp <;> with_reducible rfl
              simp only [Act.put, List.setIfInBounds_toArray, List.set_cons_succ, List.set_cons_zero]
              refine flow_val ?_ rfl (by kernel_rfl) (by rfl) (fun W hW => ?_) ?_
              rotate_left 1
              · go_simp <;> with_reducible rfl
              simp only [Act.put, List.setIfInBounds_toArray, List.set_cons_succ, List.set_cons_zero]
              refine flow_val ?_ rfl (by kernel_rfl) (by rfl) (fun W hW => ?_) ?_
              rotate_left 1
              · go_simp <;> with_reducible rfl
              simp only [Act.put, List.setIfInBounds_toArray, List.set_cons_succ, List.set_cons_zero]
              refine flow_done ?_
              rintro W hW
              subst hW
              have HID : Hid (IsY w y pe Q vs7 vc7 vw7 z7 wr.drew) := Lib.hid (HI7.out.below (Below.refl _ wr).drew)
              obtain ⟨W8, hW8⟩ : ∃ W8, wr.drew = W8 := ⟨_, rfl⟩
              rw [hW8] at HID
              rw [hW8]
              clear hW8 p6 p7 HI7 hsum
              obtain ⟨d, hd⟩ : ∃ d, 900 - i = d + 1 := ⟨899 - i, by omega⟩
              by_cases hz : 0 < l0 + l1
              · have hgt : decide ((l0 : Int) + l1 > 0) = true := by simp; omega
                have hgt' : decide (0 < (l0 : Int) + l1) = true := by simp; omega
                have HC0 := Lib.hid (come_false w y pe Q 0 false false W8 vs7 vc7 vw7 z7 HID.out HG7.out.way (by have := HG7.out.came_le HF7.out false; have := HN1.out; omega) (by have h1 := HG7.out.mark false; have := HF7.out.sent (!false); have := HN1.out; omega))
                obtain ⟨hg8, hf8⟩ := HG7.out.come HF7.out (by have := HN1.out; omega) false 0 false false
                obtain ⟨Q1, hQ1⟩ : ∃ Q1, comeY Q false 0 false false = Q1 := ⟨_, rfl⟩
                have HST : Hid (stepY Q = comeY Q1 true 0 false false) := Lib.hid (by rw [← hQ1]; rfl)
                have HD8 : Hid (drainY (900 - (i + 1)) (stepY Q) = drainY 900 PT) := Lib.hid (by
                  rw [← HD7.out, show 900 - i = (900 - (i + 1)) + 1 by omega]
                  exact (if_pos (by rw [HL0.out, HL1.out]; exact hz)).symm)
                rw [hQ1] at HC0 hg8 hf8
                have HG8 := Lib.hid hg8
                have HF8 := Lib.hid hf8
                clear hg8 hf8 hQ1 HID HG7 HF7 HD7
                go_wp2_with fail
                refine HC0.out.mono ?_
                rintro e w9 ⟨rfl, hI9⟩
                obtain ⟨vs9, vc9, vw9, z9, hI9⟩ := hI9
                have HI9 := Lib.hid hI9
                have HC1 := Lib.hid (come_true w y pe Q1 0 false false w9 vs9 vc9 vw9 z9 HI9.out HG8.out.way (by have := HG8.out.came_le HF8.out true; have := HN1.out; omega) (by have h1 := HG8.out.mark true; have := HF8.out.sent (!true); have := HN1.out; omega))
                obtain ⟨hg9, hf9⟩ := HG8.out.come HF8.out (by have := HN1.out; omega) true 0 false false
                rw [← HST.out] at HC1 hg9 hf9
                have HG9 := Lib.hid hg9
                have HF9 := Lib.hid hf9
                clear hI9 hg9 hf9 HC0
                go_wp2_with fail
                refine HC1.out.mono ?_
                rintro e w10 ⟨rfl, hI10⟩
                obtain ⟨vs10, vc10, vw10, z10, hI10⟩ := hI10
                have HI10 := Lib.hid hI10
                clear hI10 HC1 hgt hgt' hz hd
                go_wp2_with fail
                go_roundw
                case rel => exact ⟨i + 1, stepY Q, _, _, _, _, hi9, by go_num, HI10.out, HG9.out, HF9.out, HD8.out⟩
                case measure => simp [intOf]; omega
              · have hgt : decide ((l0 : Int) + l1 > 0) = false := by simp; omega
                have hgt' : decide (0 < (l0 : Int) + l1) = false := by simp; omega
                have HE : Hid (Q = drainY 900 PT) := Lib.hid (by
                  rw [← HD7.out, hd]
                  exact (if_neg (by rw [HL0.out, HL1.out]; exact hz)).symm)
                clear hd
                go_wp2_with fail
                go_roundw
                case rel => exact ⟨r + 1, _, _, _, _, HRR.out, by go_num, by rw [HNX2.out, ← HE.out]; exact HID.out⟩
                case measure => simp [intOf]; have := HRR.out; omega
            · have hid : decide ((i : Int) < 900) = false := by simp; omega
              have HE : Hid (Q = drainY 900 PT) := Lib.hid (by
                rw [← HD7.out, show 900 - i = 0 by omega]
                rfl)
              go_wp2_with fail
              refine wp_region_flow (fun W => W = wr.drew) [0, 1, 2, 3, 4, 5, 6, 7, 8, 9, 10, 11, 12, 13, 14, 15, 16, 17] (by kernel_rfl) (by kernel_rfl) (by kernel_rfl) (rfl) ?_
              refine flow_val ?_ rfl (by kernel_rfl) (by rfl) (fun W hW => ?_) ?_
              rotate_left 1
              · go_simp <;> with_reducible rfl
              simp only [Act.put, List.setIfInBounds_toArray, List.set_cons_succ, List.set_cons_zero]
              refine flow_val ?_ rfl (by kernel_rfl) (by rfl) (fun W hW => ?_) ?_
              rotate_left 1
              · go_simp <;> with_reducible rfl
              simp only [Act.put, List.setIfInBounds_toArray, List.set_cons_succ, List.set_cons_zero]
              refine flow_val ?_ rfl (by kernel_rfl) (by rfl) (fun W hW => ?_) ?_
              rotate_left 1
              · go_simp <;> with_reducible rfl
              simp only [Act.put, List.setIfInBounds_toArray, List.set_cons_succ, List.set_cons_zero]
              refine flow_off rfl (by kernel_rfl) (by rfl) ?_
              simp only [Act.put, List.setIfInBounds_toArray, List.set_cons_succ, List.set_cons_zero]
              refine flow_off rfl (by kernel_rfl) (by rfl) ?_
              simp only [Act.put, List.setIfInBounds_toArray, List.set_cons_succ, List.set_cons_zero]
              refine flow_off rfl (by kernel_rfl) (by rfl) ?_
              simp only [Act.put, List.setIfInBounds_toArray, List.set_cons_succ, List.set_cons_zero]
              refine flow_off rfl (by kernel_rfl) (by rfl) ?_
              simp only [Act.put, List.setIfInBounds_toArray, List.set_cons_succ, List.set_cons_zero]
              refine flow_off rfl (by kernel_rfl) (by rfl) ?_
              simp only [Act.put, List.setIfInBounds_toArray, List.set_cons_succ, List.set_cons_zero]
              refine flow_off rfl (by kernel_rfl) (by rfl) ?_
              simp only [Act.put, List.setIfInBounds_toArray, List.set_cons_succ, List.set_cons_zero]
              refine flow_off rfl (by kernel_rfl) (by rfl) ?_
              simp only [Act.put, List.setIfInBounds_toArray, List.set_cons_succ, List.set_cons_zero]
              refine flow_off rfl (by kernel_rfl) (by rfl) ?_
              simp only [Act.put, List.setIfInBounds_toArray, List.set_cons_succ, List.set_cons_zero]
              refine flow_off rfl (by kernel_rfl) (by rfl) ?_
              simp only [Act.put, List.setIfInBounds_toArray, List.set_cons_succ, List.set_cons_zero]
              refine flow_off rfl (by kernel_rfl) (by rfl) ?_
              simp only [Act.put, List.setIfInBounds_toArray, List.set_cons_succ, List.set_cons_zero]
              refine flow_off rfl (by kernel_rfl) (by rfl) ?_
              simp only [Act.put, List.setIfInBounds_toArray, List.set_cons_succ, List.set_cons_zero]
              refine flow_off rfl (by kernel_rfl) (by rfl) ?_
              simp only [Act.put, List.setIfInBounds_toArray, List.set_cons_succ, List.set_cons_zero]
              refine flow_off rfl (by kernel_rfl) (by rfl) ?_
              simp only [Act.put, List.setIfInBounds_toArray, List.set_cons_succ, List.set_cons_zero]
              refine flow_off rfl (by kernel_rfl) (by rfl) ?_
              simp only [Act.put, List.setIfInBounds_toArray, List.set_cons_succ, List.set_cons_zero]
              refine flow_val ?_ rfl (by kernel_rfl) (by rfl) (fun W hW => ?_) ?_
              rotate_left 1
              · go_simp <;> with_reducible rfl
              simp only [Act.put, List.setIfInBounds_toArray, List.set_cons_succ, List.set_cons_zero]
              refine flow_done ?_
              rintro W hW
              subst hW
              have HID : Hid (IsY w y pe Q vs7 vc7 vw7 z7 wr.drew) := Lib.hid (HI7.out.below (Below.refl _ wr).drew)
              clear HI7
              go_wp2_with fail
              go_roundw
              case rel => exact ⟨r + 1, _, _, _, _, HRR.out, by go_num, by rw [HNX2.out, ← HE.out]; exact HID.out⟩
              case measure => simp [intOf]; have := HRR.out; omega
end Go.Proofs.Ytnmbblkfaoihfaa
