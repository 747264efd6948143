/- The reference's May of a mail. -/
import Derived.Test.YtpccbobomppdbaaZR11
import Derived.Test.YtpccbobomppdbaaZR12
import Derived.Test.YtpccbobomppdbaaZR27
import Derived.Test.YtpccbobomppdbaaZR7
namespace Go.Proofs.Ytpccbobomppdbaa
open Go.RowKit

/-- The same, as the reference asks it. -/
theorem mayM_ref (m : Ml) {BO BI BA BY L1 L2 Z1 MI LP MA EA YM D1 D2 F1 F2 F3 F4 : Bool} (hBO : hasM m.kind 111 = BO) (hBI : hasM m.kind 105 = BI) (hBA : hasM m.kind 97 = BA) (hBY : hasM m.kind 121 = BY)
 (hL1 : decide (m.order < 1) = L1) (hL2 : decide (1099511627776 < m.order) = L2) (hZ1 : (m.order != 0) = Z1) (hMI : mayI m.items = MI) (hLP : decide (0 < m.items.length) = LP) (hMA : mayA m.ask = MA) (hEA : eqA m.ask zeroK = EA)
 (hYM : (inB m.yc 0 63 && inB m.yn 1 4294967296) = YM) (hD1 : decide (0 ≤ m.yd) = D1) (hD2 : decide (m.yd ≤ 1000) = D2) (hF1 : (m.yc == 0) = F1) (hF2 : (m.yn == 0) = F2) (hF3 : (m.yd == 0) = F3) (hF4 : (m.yN == 0) = F4) :
 mayM m = (inB m.kind 1 14 && ((bif BO then (!L1 && !L2) else !Z1) && ((MI && (BI || !LP)) && ((bif BA then MA else (!MA && EA)) && (bif BY then (YM && (D1 && D2)) else (F1 && (F2 && (F3 && F4)))))))) := by
 have h1 : mayM1 m = (bif BO then (!L1 && !L2) else !Z1) := by
  unfold mayM1 rightM
  rw [hBO, ← hL1, ← hL2, ← hZ1]
  cases BO
  · simp only [Bool.false_eq_true, if_false, cond_false]
    cases h : (m.order != 0) <;> simp_all
  · simp only [if_true, cond_true]
    rw [Bool.eq_iff_iff, inB_iff]
    simp only [Bool.and_eq_true, Bool.not_eq_true', decide_eq_false_iff_not]
    omega
 have h2 : mayM2 m = (MI && (BI || !LP)) := by
  unfold mayM2 rightM
  rw [hBI, ← hMI, ← hLP]
  cases BI
  · simp only [Bool.false_eq_true, if_false, Bool.false_or]
    cases h : m.items with
    | nil => rw [mayI_nil]; rfl
    | cons x xs => simp
  · simp only [if_true, Bool.true_or, Bool.and_true]
 have h3 : mayM3 m = (bif BA then MA else (!MA && EA)) := by
  unfold mayM3 rightM
  rw [hBA, hMA, hEA]
  cases BA
  · simp only [Bool.false_eq_true, if_false, cond_false]
    cases EA
    · simp
    · rw [← hMA, eqA_iff.1 hEA, zeroK_may]; rfl
  · rfl
 have h4 : mayM4 m = (bif BY then (YM && (D1 && D2)) else (F1 && (F2 && (F3 && F4)))) := by
  unfold mayM4 rightM
  rw [hBY]
  cases BY
  · simp only [Bool.false_eq_true, if_false, cond_false]
    rw [← hF1, ← hF2, ← hF3, ← hF4, ← Bool.and_assoc, ← Bool.and_assoc]
    rfl
  · simp only [if_true, cond_true]
    unfold mayYM
    rw [hYM, ← hD1, ← hD2]
    rfl
 unfold mayM
 rw [h1, h2, h3, h4]
set_option maxRecDepth 100000 in
set_option maxHeartbeats 4000000 in
theorem xmmay_any (m : Ml) (A : Option Addr) (c : Nat) (A' : Option Addr) (c' : Nat) (w : World) (hr : Rd w 2 A m.items.length (m.items.flatMap encI)) (hr' : Rd w 2 A' m.ask.items.length (m.ask.items.flatMap encI)) (hb : BdL m.items) (hb' : BdL m.ask.items) (hg : m.ask.good.size ≤ 9223372036854775807) :
 Calls Try.prog 15 #[mlV m (.slice A m.items.length c) (.slice A' m.ask.items.length c')] w fun e W => e = .returned (.bool (mayM m)) ∧ Below w.heap.size w W := by
 have HMI := Lib.hid (fun W (hW : Below w.heap.size w W) => xmayI_any A c m.items W (hr.below hW) hb.1 hb.2)
 have HMA := Lib.hid (fun W (hW : Below w.heap.size w W) => xamay_any m.ask A' c' W (hr'.below hW) hb' hg)
 have HEA : Hid (∀ W, Below w.heap.size w W → Calls Try.prog 26 #[akV m.ask (.slice A' m.ask.items.length c'), .agg #[.int .i64 0, .int .i64 0, .int .i64 0, .int .i64 0, .int .i64 0, .int .i64 0, .int .i64 0, .string { data := #[] }, .slice none 0 0]] W fun e W' => e = .returned (.bool (eqA m.ask zeroK)) ∧ Below W.heap.size W W') := Lib.hid (fun W hW => xsameA_any m.ask zeroK A' c' none 0 W (hr'.below hW) Rd.nil hb'.2)
 have HYM := Lib.hid (fun W => xmay9_any m.yc m.yn W)
 have HHo := Lib.hid (fun W => xmhasf_any m.kind 111 W)
 have HHi := Lib.hid (fun W => xmhasf_any m.kind 105 W)
 have HHa := Lib.hid (fun W => xmhasf_any m.kind 97 W)
 have HHy := Lib.hid (fun W => xmhasf_any m.kind 121 W)
 obtain ⟨BO, hBO⟩ : ∃ E, hasM m.kind 111 = E := ⟨_, rfl⟩
 obtain ⟨BI, hBI⟩ : ∃ E, hasM m.kind 105 = E := ⟨_, rfl⟩
 obtain ⟨BA, hBA⟩ : ∃ E, hasM m.kind 97 = E := ⟨_, rfl⟩
 obtain ⟨BY, hBY⟩ : ∃ E, hasM m.kind 121 = E := ⟨_, rfl⟩
 obtain ⟨L1, hL1⟩ : ∃ E, decide (m.order < 1) = E := ⟨_, rfl⟩
 obtain ⟨L2, hL2⟩ : ∃ E, decide (1099511627776 < m.order) = E := ⟨_, rfl⟩
 obtain ⟨Z1, hZ1⟩ : ∃ E, (m.order != 0) = E := ⟨_, rfl⟩
 obtain ⟨MI, hMI⟩ : ∃ E, mayI m.items = E := ⟨_, rfl⟩
 obtain ⟨LP, hLP⟩ : ∃ E, decide (0 < m.items.length) = E := ⟨_, rfl⟩
 obtain ⟨MA, hMA⟩ : ∃ E, mayA m.ask = E := ⟨_, rfl⟩
 obtain ⟨EA, hEA⟩ : ∃ E, eqA m.ask zeroK = E := ⟨_, rfl⟩
 obtain ⟨YM, hYM⟩ : ∃ E, (inB m.yc 0 63 && inB m.yn 1 4294967296) = E := ⟨_, rfl⟩
 obtain ⟨D1, hD1⟩ : ∃ E, decide (0 ≤ m.yd) = E := ⟨_, rfl⟩
 obtain ⟨D2, hD2⟩ : ∃ E, decide (m.yd ≤ 1000) = E := ⟨_, rfl⟩
 obtain ⟨F1, hF1⟩ : ∃ E, (m.yc == 0) = E := ⟨_, rfl⟩
 obtain ⟨F2, hF2⟩ : ∃ E, (m.yn == 0) = E := ⟨_, rfl⟩
 obtain ⟨F3, hF3⟩ : ∃ E, (m.yd == 0) = E := ⟨_, rfl⟩
 obtain ⟨F4, hF4⟩ : ∃ E, (m.yN == 0) = E := ⟨_, rfl⟩
 have HM := Lib.hid (mayM_ref m hBO hBI hBA hBY hL1 hL2 hZ1 hMI hLP hMA hEA hYM hD1 hD2 hF1 hF2 hF3 hF4)
 rw [hMI] at HMI
 rw [hMA] at HMA
 rw [hEA] at HEA
 rw [hYM] at HYM
 simp only [hBO] at HHo
 simp only [hBI] at HHi
 simp only [hBA] at HHa
 simp only [hBY] at HHy
 obtain ⟨MM, hMM⟩ : ∃ E, mayM m = E := ⟨_, rfl⟩
 rw [hMM] at HM ⊢
 obtain ⟨la, hla⟩ : ∃ l, m.items.length = l := ⟨_, rfl⟩
 obtain ⟨ka, hka⟩ : ∃ l, m.ask.items.length = l := ⟨_, rfl⟩
 rw [hla] at HMI hLP ⊢
 rw [hka] at HMA HEA ⊢
 show Calls Try.prog 15 #[.agg #[.int .i64 m.kind, .int .i64 m.order, .slice A la c, .int .i64 m.ask.client, .int .i64 m.ask.number, .int .i64 m.ask.kind, .int .i64 m.ask.order, .int .i64 m.ask.region, .int .i64 m.ask.to, .int .i64 m.ask.n, .string m.ask.good, .slice A' ka c', .int .i64 m.yc, .int .i64 m.yn, .int .i64 m.yd, .int .i64 m.yN]] w _
 have k0 := block_new w (.cells #[.int .i64 m.kind, .int .i64 m.order, .slice A la c, .int .i64 m.ask.client, .int .i64 m.ask.number, .int .i64 m.ask.kind, .int .i64 m.ask.order, .int .i64 m.ask.region, .int .i64 m.ask.to, .int .i64 m.ask.n, .string m.ask.good, .slice A' ka c', .int .i64 m.yc, .int .i64 m.yn, .int .i64 m.yd, .int .i64 m.yN] 29)
 have kb := (Below.refl _ w).alloc (Nat.le_refl _) (.cells #[.int .i64 m.kind, .int .i64 m.order, .slice A la c, .int .i64 m.ask.client, .int .i64 m.ask.number, .int .i64 m.ask.kind, .int .i64 m.ask.order, .int .i64 m.ask.region, .int .i64 m.ask.to, .int .i64 m.ask.n, .string m.ask.good, .slice A' ka c', .int .i64 m.yc, .int .i64 m.yn, .int .i64 m.yd, .int .i64 m.yN] 29)
 obtain ⟨W2, hW2⟩ : ∃ W2, w.alloc (.cells #[.int .i64 m.kind, .int .i64 m.order, .slice A la c, .int .i64 m.ask.client, .int .i64 m.ask.number, .int .i64 m.ask.kind, .int .i64 m.ask.order, .int .i64 m.ask.region, .int .i64 m.ask.to, .int .i64 m.ask.n, .string m.ask.good, .slice A' ka c', .int .i64 m.yc, .int .i64 m.yn, .int .i64 m.yd, .int .i64 m.yN] 29) = W2 := ⟨_, rfl⟩
 rw [hW2] at k0 kb
 have HKB := Lib.hid kb
 have HWW := Lib.hid hW2
 have HB2 := Lib.hid (Below.refl W2.heap.size W2)
 have HCA : Hid (∀ W, Below W2.heap.size W2 W → W.heap[w.heap.size]? = some (.cells #[.int .i64 m.kind, .int .i64 m.order, .slice A la c, .int .i64 m.ask.client, .int .i64 m.ask.number, .int .i64 m.ask.kind, .int .i64 m.ask.order, .int .i64 m.ask.region, .int .i64 m.ask.to, .int .i64 m.ask.n, .string m.ask.good, .slice A' ka c', .int .i64 m.yc, .int .i64 m.yn, .int .i64 m.yd, .int .i64 m.yN] 29 (0, 0))) := Lib.hid (fun W hW => (hW.block _ (lt_of_block k0)).trans k0)
 replace HMI := Lib.hid (fun W (hW : Below W2.heap.size W2 W) => HMI.out W (HKB.out.trans (hW.mono HKB.out.size)))
 replace HMA := Lib.hid (fun W (hW : Below W2.heap.size W2 W) => HMA.out W (HKB.out.trans (hW.mono HKB.out.size)))
 replace HEA := Lib.hid (fun W (hW : Below W2.heap.size W2 W) => HEA.out W (HKB.out.trans (hW.mono HKB.out.size)))
 have c0 := cell_at (HCA.out W2 (Below.refl _ _)) 0
 clear k0 kb hW2 hMM hr hr' hb hb' hg hMI hMA hEA hYM hBO hBI hBA hBY hla hka
 go_enter Try.func15, Try.ntmps15
 by_cases g1 : m.kind < 1
 · have HF : Hid (MM = false) := Lib.hid (by rw [HM.out, inB_lo (n := m.kind) g1]; rfl)
   go_wp2
   go_ret
   exact ⟨ret_bool HF.out.symm, by rw [HWW.out]; exact HKB.out⟩
 by_cases g2 : 14 < m.kind
 · have HF : Hid (MM = false) := Lib.hid (by rw [HM.out, inB_hi (n := m.kind) g2]; rfl)
   go_wp2
   go_ret
   exact ⟨ret_bool HF.out.symm, by rw [HWW.out]; exact HKB.out⟩
 rw [inB_in (by omega) (by omega), Bool.true_and] at HM
 go_wp2_with fail
 rw [HWW.out]
 refine (HHo.out W2).mono ?_
 rintro e w3 ⟨rfl, hb⟩
 have HB3 := Lib.hid (HB2.out.trans (hb.mono HB2.out.size))
 clear hb c0
 have c1 := cell_at (HCA.out w3 HB3.out) 1
 cases BO
 case false =>
  go_wp2_with fail
  refine (HHo.out w3).mono ?_
  rintro e w4 ⟨rfl, hb⟩
  have HB4 := Lib.hid (HB3.out.trans (hb.mono HB3.out.size))
  clear hb c1
  have c1 := cell_at (HCA.out w4 HB4.out) 1
  cases Z1
  case false =>
   have c2 := cell_at (HCA.out w4 HB4.out) 2
   go_wp2_with fail
   refine (HMI.out w4 HB4.out).mono ?_
   rintro e w5 ⟨rfl, hb⟩
   have HB5 := Lib.hid (HB4.out.trans (hb.mono HB4.out.size))
   clear hb c1 c2
   have c2 := cell_at (HCA.out w5 HB5.out) 2
   cases MI
   case false =>
    go_wp2
    go_ret
    exact ⟨ret_bool HM.out.symm, HKB.out.trans (HB5.out.mono HKB.out.size)⟩
   case true =>
    go_wp2_with fail
    refine (HHi.out w5).mono ?_
    rintro e w6 ⟨rfl, hb⟩
    have HB6 := Lib.hid (HB5.out.trans (hb.mono HB5.out.size))
    clear hb c2
    have c2 := cell_at (HCA.out w6 HB6.out) 2
    cases BI
    case false =>
     cases LP
     case false =>
      cases BA
      case false =>
       cases MA
       case false =>
        cases EA
        case false =>
         go_wp2_with fail
         refine wp_region_flow (fun W => Below W2.heap.size W2 W) [0, 2, 3, 1, 4, 5, 6, 7, 8, 9, 10, 11, 12, 13, 14, 15, 16, 17] (by kernel_rfl) (by kernel_rfl) (by kernel_rfl) (HB6.out.drew) ?_
         iterate 2
          refine flow_val ?_ rfl (by kernel_rfl) (by rfl) (fun W hW => ?_) ?_
          rotate_left 1
          · go_simp <;> with_reducible rfl
          simp only [puts]
         refine flow_val ?_ rfl (by kernel_rfl) (by rfl) (fun W hW => ?_) ?_
         rotate_left 1
         · have c3 := cell_at (HCA.out W hW) 3; have c4 := cell_at (HCA.out W hW) 4; have c5 := cell_at (HCA.out W hW) 5; have c6 := cell_at (HCA.out W hW) 6; have c7 := cell_at (HCA.out W hW) 7; have c8 := cell_at (HCA.out W hW) 8; have c9 := cell_at (HCA.out W hW) 9; have c10 := cell_at (HCA.out W hW) 10; have c11 := cell_at (HCA.out W hW) 11; go_simp <;> with_reducible rfl
         simp only [puts]
         refine flow_call (.bool false) rfl (by kernel_rfl) (by rfl) (by kernel_rfl) (fun W hW => ⟨_, _, _, by go_simp, (HHa.out W).mono fun e w' ⟨he, hb⟩ => ⟨he, hW.trans (hb.mono hW.size)⟩⟩) ?_
         simp only [puts]
         refine flow_call (.bool false) rfl (by kernel_rfl) (by rfl) (by kernel_rfl) (fun W hW => ⟨_, _, _, by go_simp, (HMA.out W hW.1).mono fun e w' ⟨he, hb⟩ => ⟨he, ⟨hW.1.trans (hb.mono hW.1.size), trivial⟩⟩⟩) ?_
         simp only [puts]
         iterate 3
          refine flow_val ?_ rfl (by kernel_rfl) (by rfl) (fun W hW => ?_) ?_
          rotate_left 1
          · go_simp <;> with_reducible rfl
          simp only [puts]
         refine flow_call (.bool false) rfl (by kernel_rfl) (by rfl) (by kernel_rfl) (fun W hW => ⟨_, _, _, by go_simp, (HHa.out W).mono fun e w' ⟨he, hb⟩ => ⟨he, ⟨⟨hW.1.1.trans (hb.mono hW.1.1.size), trivial⟩, trivial⟩⟩⟩) ?_
         simp only [puts]
         iterate 3
          refine flow_val ?_ rfl (by kernel_rfl) (by rfl) (fun W hW => ?_) ?_
          rotate_left 1
          · go_simp <;> with_reducible rfl
          simp only [puts]
         refine flow_val ?_ rfl (by kernel_rfl) (by rfl) (fun W hW => ?_) ?_
         rotate_left 1
         · have c3 := cell_at (HCA.out W hW.1.1.1) 3; have c4 := cell_at (HCA.out W hW.1.1.1) 4; have c5 := cell_at (HCA.out W hW.1.1.1) 5; have c6 := cell_at (HCA.out W hW.1.1.1) 6; have c7 := cell_at (HCA.out W hW.1.1.1) 7; have c8 := cell_at (HCA.out W hW.1.1.1) 8; have c9 := cell_at (HCA.out W hW.1.1.1) 9; have c10 := cell_at (HCA.out W hW.1.1.1) 10; have c11 := cell_at (HCA.out W hW.1.1.1) 11; go_simp <;> with_reducible rfl
         simp only [puts]
         refine flow_val ?_ rfl (by kernel_rfl) (by rfl) (fun W hW => ?_) ?_
         rotate_left 1
         · go_simp <;> with_reducible rfl
         simp only [puts]
         refine flow_call (.bool false) rfl (by kernel_rfl) (by rfl) (by kernel_rfl) (fun W hW => ⟨_, _, _, by go_simp, (HEA.out W hW.1.1.1).mono fun e w' ⟨he, hb⟩ => ⟨he, ⟨⟨⟨hW.1.1.1.trans (hb.mono hW.1.1.1.size), trivial⟩, trivial⟩, trivial⟩⟩⟩) ?_
         simp only [puts]
         iterate 3
          refine flow_val ?_ rfl (by kernel_rfl) (by rfl) (fun W hW => ?_) ?_
          rotate_left 1
          · go_simp <;> with_reducible rfl
          simp only [puts]
         refine flow_done ?_
         intro W hW
         have HB20 := Lib.hid (hW.1.1.1.1)
         clear hW
         obtain ⟨w20, hw⟩ : ∃ w20, w20 = W := ⟨_, rfl⟩
         subst hw
         go_wp2
         go_ret
         exact ⟨ret_bool HM.out.symm, HKB.out.trans (HB20.out.mono HKB.out.size)⟩
        case true =>
         go_wp2_with fail
         refine wp_region_flow (fun W => Below W2.heap.size W2 W) [0, 2, 3, 1, 4, 5, 6, 7, 8, 9, 10, 11, 12, 13, 14, 15, 16, 17] (by kernel_rfl) (by kernel_rfl) (by kernel_rfl) (HB6.out.drew) ?_
         iterate 2
          refine flow_val ?_ rfl (by kernel_rfl) (by rfl) (fun W hW => ?_) ?_
          rotate_left 1
          · go_simp <;> with_reducible rfl
          simp only [puts]
         refine flow_val ?_ rfl (by kernel_rfl) (by rfl) (fun W hW => ?_) ?_
         rotate_left 1
         · have c3 := cell_at (HCA.out W hW) 3; have c4 := cell_at (HCA.out W hW) 4; have c5 := cell_at (HCA.out W hW) 5; have c6 := cell_at (HCA.out W hW) 6; have c7 := cell_at (HCA.out W hW) 7; have c8 := cell_at (HCA.out W hW) 8; have c9 := cell_at (HCA.out W hW) 9; have c10 := cell_at (HCA.out W hW) 10; have c11 := cell_at (HCA.out W hW) 11; go_simp <;> with_reducible rfl
         simp only [puts]
         refine flow_call (.bool false) rfl (by kernel_rfl) (by rfl) (by kernel_rfl) (fun W hW => ⟨_, _, _, by go_simp, (HHa.out W).mono fun e w' ⟨he, hb⟩ => ⟨he, hW.trans (hb.mono hW.size)⟩⟩) ?_
         simp only [puts]
         refine flow_call (.bool false) rfl (by kernel_rfl) (by rfl) (by kernel_rfl) (fun W hW => ⟨_, _, _, by go_simp, (HMA.out W hW.1).mono fun e w' ⟨he, hb⟩ => ⟨he, ⟨hW.1.trans (hb.mono hW.1.size), trivial⟩⟩⟩) ?_
         simp only [puts]
         iterate 3
          refine flow_val ?_ rfl (by kernel_rfl) (by rfl) (fun W hW => ?_) ?_
          rotate_left 1
          · go_simp <;> with_reducible rfl
          simp only [puts]
         refine flow_call (.bool false) rfl (by kernel_rfl) (by rfl) (by kernel_rfl) (fun W hW => ⟨_, _, _, by go_simp, (HHa.out W).mono fun e w' ⟨he, hb⟩ => ⟨he, ⟨⟨hW.1.1.trans (hb.mono hW.1.1.size), trivial⟩, trivial⟩⟩⟩) ?_
         simp only [puts]
         iterate 3
          refine flow_val ?_ rfl (by kernel_rfl) (by rfl) (fun W hW => ?_) ?_
          rotate_left 1
          · go_simp <;> with_reducible rfl
          simp only [puts]
         refine flow_val ?_ rfl (by kernel_rfl) (by rfl) (fun W hW => ?_) ?_
         rotate_left 1
         · have c3 := cell_at (HCA.out W hW.1.1.1) 3; have c4 := cell_at (HCA.out W hW.1.1.1) 4; have c5 := cell_at (HCA.out W hW.1.1.1) 5; have c6 := cell_at (HCA.out W hW.1.1.1) 6; have c7 := cell_at (HCA.out W hW.1.1.1) 7; have c8 := cell_at (HCA.out W hW.1.1.1) 8; have c9 := cell_at (HCA.out W hW.1.1.1) 9; have c10 := cell_at (HCA.out W hW.1.1.1) 10; have c11 := cell_at (HCA.out W hW.1.1.1) 11; go_simp <;> with_reducible rfl
         simp only [puts]
         refine flow_val ?_ rfl (by kernel_rfl) (by rfl) (fun W hW => ?_) ?_
         rotate_left 1
         · go_simp <;> with_reducible rfl
         simp only [puts]
         refine flow_call (.bool true) rfl (by kernel_rfl) (by rfl) (by kernel_rfl) (fun W hW => ⟨_, _, _, by go_simp, (HEA.out W hW.1.1.1).mono fun e w' ⟨he, hb⟩ => ⟨he, ⟨⟨⟨hW.1.1.1.trans (hb.mono hW.1.1.1.size), trivial⟩, trivial⟩, trivial⟩⟩⟩) ?_
         simp only [puts]
         iterate 3
          refine flow_val ?_ rfl (by kernel_rfl) (by rfl) (fun W hW => ?_) ?_
          rotate_left 1
          · go_simp <;> with_reducible rfl
          simp only [puts]
         refine flow_done ?_
         intro W hW
         have HB20 := Lib.hid (hW.1.1.1.1)
         clear hW
         obtain ⟨w20, hw⟩ : ∃ w20, w20 = W := ⟨_, rfl⟩
         subst hw
         go_wp2_with fail
         refine (HHy.out w20).mono ?_
         rintro e w21 ⟨rfl, hb⟩
         have HB21 := Lib.hid (HB20.out.trans (hb.mono HB20.out.size))
         clear hb
         have c12 := cell_at (HCA.out w21 HB21.out) 12
         have c13 := cell_at (HCA.out w21 HB21.out) 13
         have c14 := cell_at (HCA.out w21 HB21.out) 14
         have c15 := cell_at (HCA.out w21 HB21.out) 15
         cases BY
         case false =>
          cases F1
          case false =>
           go_wp2
           go_ret
           exact ⟨ret_bool HM.out.symm, HKB.out.trans (HB21.out.mono HKB.out.size)⟩
          cases F2
          case false =>
           go_wp2
           go_ret
           exact ⟨ret_bool HM.out.symm, HKB.out.trans (HB21.out.mono HKB.out.size)⟩
          cases F3
          case false =>
           go_wp2
           go_ret
           exact ⟨ret_bool HM.out.symm, HKB.out.trans (HB21.out.mono HKB.out.size)⟩
          cases F4
          case false =>
           go_wp2
           go_ret
           exact ⟨ret_bool HM.out.symm, HKB.out.trans (HB21.out.mono HKB.out.size)⟩
          go_wp2
          go_ret
          exact ⟨ret_bool HM.out.symm, HKB.out.trans (HB21.out.mono HKB.out.size)⟩
         case true =>
          go_wp2_with fail
          refine (HYM.out w21).mono ?_
          rintro e _ ⟨rfl, rfl⟩
          cases YM
          case false =>
           go_wp2
           go_ret
           exact ⟨ret_bool HM.out.symm, HKB.out.trans (HB21.out.mono HKB.out.size)⟩
          case true =>
           cases D1
           case false =>
            go_wp2
            go_ret
            exact ⟨ret_bool HM.out.symm, HKB.out.trans (HB21.out.mono HKB.out.size)⟩
           case true =>
            cases D2
            case false =>
             go_wp2
             go_ret
             exact ⟨ret_bool HM.out.symm, HKB.out.trans (HB21.out.mono HKB.out.size)⟩
            case true =>
             go_wp2
             go_ret
             exact ⟨ret_bool HM.out.symm, HKB.out.trans (HB21.out.mono HKB.out.size)⟩
       case true =>
        go_wp2_with fail
        refine wp_region_flow (fun W => Below W2.heap.size W2 W) [0, 2, 3, 1, 4, 5, 6, 7, 8, 9, 10, 11, 12, 13, 14, 15, 16, 17] (by kernel_rfl) (by kernel_rfl) (by kernel_rfl) (HB6.out.drew) ?_
        iterate 2
         refine flow_val ?_ rfl (by kernel_rfl) (by rfl) (fun W hW => ?_) ?_
         rotate_left 1
         · go_simp <;> with_reducible rfl
         simp only [puts]
        refine flow_val ?_ rfl (by kernel_rfl) (by rfl) (fun W hW => ?_) ?_
        rotate_left 1
        · have c3 := cell_at (HCA.out W hW) 3; have c4 := cell_at (HCA.out W hW) 4; have c5 := cell_at (HCA.out W hW) 5; have c6 := cell_at (HCA.out W hW) 6; have c7 := cell_at (HCA.out W hW) 7; have c8 := cell_at (HCA.out W hW) 8; have c9 := cell_at (HCA.out W hW) 9; have c10 := cell_at (HCA.out W hW) 10; have c11 := cell_at (HCA.out W hW) 11; go_simp <;> with_reducible rfl
        simp only [puts]
        refine flow_call (.bool false) rfl (by kernel_rfl) (by rfl) (by kernel_rfl) (fun W hW => ⟨_, _, _, by go_simp, (HHa.out W).mono fun e w' ⟨he, hb⟩ => ⟨he, hW.trans (hb.mono hW.size)⟩⟩) ?_
        simp only [puts]
        refine flow_call (.bool true) rfl (by kernel_rfl) (by rfl) (by kernel_rfl) (fun W hW => ⟨_, _, _, by go_simp, (HMA.out W hW.1).mono fun e w' ⟨he, hb⟩ => ⟨he, ⟨hW.1.trans (hb.mono hW.1.size), trivial⟩⟩⟩) ?_
        simp only [puts]
        iterate 2
         refine flow_val ?_ rfl (by kernel_rfl) (by rfl) (fun W hW => ?_) ?_
         rotate_left 1
         · go_simp <;> with_reducible rfl
         simp only [puts]
        iterate 10
         refine flow_off rfl (by kernel_rfl) (by rfl) ?_
         simp only [puts]
        refine flow_val ?_ rfl (by kernel_rfl) (by rfl) (fun W hW => ?_) ?_
        rotate_left 1
        · go_simp <;> with_reducible rfl
        simp only [puts]
        refine flow_done ?_
        intro W hW
        have HB20 := Lib.hid (hW.1.1)
        clear hW
        obtain ⟨w20, hw⟩ : ∃ w20, w20 = W := ⟨_, rfl⟩
        subst hw
        go_wp2
        go_ret
        exact ⟨ret_bool HM.out.symm, HKB.out.trans (HB20.out.mono HKB.out.size)⟩
      case true =>
       cases MA
       case false =>
        go_wp2_with fail
        refine wp_region_flow (fun W => Below W2.heap.size W2 W) [0, 2, 3, 1, 4, 5, 6, 7, 8, 9, 10, 11, 12, 13, 14, 15, 16, 17] (by kernel_rfl) (by kernel_rfl) (by kernel_rfl) (HB6.out.drew) ?_
        iterate 2
         refine flow_val ?_ rfl (by kernel_rfl) (by rfl) (fun W hW => ?_) ?_
         rotate_left 1
         · go_simp <;> with_reducible rfl
         simp only [puts]
        refine flow_val ?_ rfl (by kernel_rfl) (by rfl) (fun W hW => ?_) ?_
        rotate_left 1
        · have c3 := cell_at (HCA.out W hW) 3; have c4 := cell_at (HCA.out W hW) 4; have c5 := cell_at (HCA.out W hW) 5; have c6 := cell_at (HCA.out W hW) 6; have c7 := cell_at (HCA.out W hW) 7; have c8 := cell_at (HCA.out W hW) 8; have c9 := cell_at (HCA.out W hW) 9; have c10 := cell_at (HCA.out W hW) 10; have c11 := cell_at (HCA.out W hW) 11; go_simp <;> with_reducible rfl
        simp only [puts]
        refine flow_call (.bool true) rfl (by kernel_rfl) (by rfl) (by kernel_rfl) (fun W hW => ⟨_, _, _, by go_simp, (HHa.out W).mono fun e w' ⟨he, hb⟩ => ⟨he, hW.trans (hb.mono hW.size)⟩⟩) ?_
        simp only [puts]
        refine flow_call (.bool false) rfl (by kernel_rfl) (by rfl) (by kernel_rfl) (fun W hW => ⟨_, _, _, by go_simp, (HMA.out W hW.1).mono fun e w' ⟨he, hb⟩ => ⟨he, ⟨hW.1.trans (hb.mono hW.1.size), trivial⟩⟩⟩) ?_
        simp only [puts]
        iterate 2
         refine flow_val ?_ rfl (by kernel_rfl) (by rfl) (fun W hW => ?_) ?_
         rotate_left 1
         · go_simp <;> with_reducible rfl
         simp only [puts]
        iterate 10
         refine flow_off rfl (by kernel_rfl) (by rfl) ?_
         simp only [puts]
        refine flow_val ?_ rfl (by kernel_rfl) (by rfl) (fun W hW => ?_) ?_
        rotate_left 1
        · go_simp <;> with_reducible rfl
        simp only [puts]
        refine flow_done ?_
        intro W hW
        have HB20 := Lib.hid (hW.1.1)
        clear hW
        obtain ⟨w20, hw⟩ : ∃ w20, w20 = W := ⟨_, rfl⟩
        subst hw
        go_wp2
        go_ret
        exact ⟨ret_bool HM.out.symm, HKB.out.trans (HB20.out.mono HKB.out.size)⟩
       case true =>
        go_wp2_with fail
        refine wp_region_flow (fun W => Below W2.heap.size W2 W) [0, 2, 3, 1, 4, 5, 6, 7, 8, 9, 10, 11, 12, 13, 14, 15, 16, 17] (by kernel_rfl) (by kernel_rfl) (by kernel_rfl) (HB6.out.drew) ?_
        iterate 2
         refine flow_val ?_ rfl (by kernel_rfl) (by rfl) (fun W hW => ?_) ?_
         rotate_left 1
         · go_simp <;> with_reducible rfl
         simp only [puts]
        refine flow_val ?_ rfl (by kernel_rfl) (by rfl) (fun W hW => ?_) ?_
        rotate_left 1
        · have c3 := cell_at (HCA.out W hW) 3; have c4 := cell_at (HCA.out W hW) 4; have c5 := cell_at (HCA.out W hW) 5; have c6 := cell_at (HCA.out W hW) 6; have c7 := cell_at (HCA.out W hW) 7; have c8 := cell_at (HCA.out W hW) 8; have c9 := cell_at (HCA.out W hW) 9; have c10 := cell_at (HCA.out W hW) 10; have c11 := cell_at (HCA.out W hW) 11; go_simp <;> with_reducible rfl
        simp only [puts]
        refine flow_call (.bool true) rfl (by kernel_rfl) (by rfl) (by kernel_rfl) (fun W hW => ⟨_, _, _, by go_simp, (HHa.out W).mono fun e w' ⟨he, hb⟩ => ⟨he, hW.trans (hb.mono hW.size)⟩⟩) ?_
        simp only [puts]
        refine flow_call (.bool true) rfl (by kernel_rfl) (by rfl) (by kernel_rfl) (fun W hW => ⟨_, _, _, by go_simp, (HMA.out W hW.1).mono fun e w' ⟨he, hb⟩ => ⟨he, ⟨hW.1.trans (hb.mono hW.1.size), trivial⟩⟩⟩) ?_
        simp only [puts]
        iterate 3
         refine flow_val ?_ rfl (by kernel_rfl) (by rfl) (fun W hW => ?_) ?_
         rotate_left 1
         · go_simp <;> with_reducible rfl
         simp only [puts]
        refine flow_call (.bool true) rfl (by kernel_rfl) (by rfl) (by kernel_rfl) (fun W hW => ⟨_, _, _, by go_simp, (HHa.out W).mono fun e w' ⟨he, hb⟩ => ⟨he, ⟨⟨hW.1.1.trans (hb.mono hW.1.1.size), trivial⟩, trivial⟩⟩⟩) ?_
        simp only [puts]
        iterate 2
         refine flow_val ?_ rfl (by kernel_rfl) (by rfl) (fun W hW => ?_) ?_
         rotate_left 1
         · go_simp <;> with_reducible rfl
         simp only [puts]
        iterate 5
         refine flow_off rfl (by kernel_rfl) (by rfl) ?_
         simp only [puts]
        iterate 2
         refine flow_val ?_ rfl (by kernel_rfl) (by rfl) (fun W hW => ?_) ?_
         rotate_left 1
         · go_simp <;> with_reducible rfl
         simp only [puts]
        refine flow_done ?_
        intro W hW
        have HB20 := Lib.hid (hW.1.1.1)
        clear hW
        obtain ⟨w20, hw⟩ : ∃ w20, w20 = W := ⟨_, rfl⟩
        subst hw
        go_wp2_with fail
        refine (HHy.out w20).mono ?_
        rintro e w21 ⟨rfl, hb⟩
        have HB21 := Lib.hid (HB20.out.trans (hb.mono HB20.out.size))
        clear hb
        have c12 := cell_at (HCA.out w21 HB21.out) 12
        have c13 := cell_at (HCA.out w21 HB21.out) 13
        have c14 := cell_at (HCA.out w21 HB21.out) 14
        have c15 := cell_at (HCA.out w21 HB21.out) 15
        cases BY
        case false =>
         cases F1
         case false =>
          go_wp2
          go_ret
          exact ⟨ret_bool HM.out.symm, HKB.out.trans (HB21.out.mono HKB.out.size)⟩
         cases F2
         case false =>
          go_wp2
          go_ret
          exact ⟨ret_bool HM.out.symm, HKB.out.trans (HB21.out.mono HKB.out.size)⟩
         cases F3
         case false =>
          go_wp2
          go_ret
          exact ⟨ret_bool HM.out.symm, HKB.out.trans (HB21.out.mono HKB.out.size)⟩
         cases F4
         case false =>
          go_wp2
          go_ret
          exact ⟨ret_bool HM.out.symm, HKB.out.trans (HB21.out.mono HKB.out.size)⟩
         go_wp2
         go_ret
         exact ⟨ret_bool HM.out.symm, HKB.out.trans (HB21.out.mono HKB.out.size)⟩
        case true =>
         go_wp2_with fail
         refine (HYM.out w21).mono ?_
         rintro e _ ⟨rfl, rfl⟩
         cases YM
         case false =>
          go_wp2
          go_ret
          exact ⟨ret_bool HM.out.symm, HKB.out.trans (HB21.out.mono HKB.out.size)⟩
         case true =>
          cases D1
          case false =>
           go_wp2
           go_ret
           exact ⟨ret_bool HM.out.symm, HKB.out.trans (HB21.out.mono HKB.out.size)⟩
          case true =>
           cases D2
           case false =>
            go_wp2
            go_ret
            exact ⟨ret_bool HM.out.symm, HKB.out.trans (HB21.out.mono HKB.out.size)⟩
           case true =>
            go_wp2
            go_ret
            exact ⟨ret_bool HM.out.symm, HKB.out.trans (HB21.out.mono HKB.out.size)⟩
     case true =>
      go_wp2
      go_ret
      exact ⟨ret_bool HM.out.symm, HKB.out.trans (HB6.out.mono HKB.out.size)⟩
    case true =>
     cases BA
     case false =>
      cases MA
      case false =>
       cases EA
       case false =>
        go_wp2_with fail
        refine wp_region_flow (fun W => Below W2.heap.size W2 W) [0, 2, 3, 1, 4, 5, 6, 7, 8, 9, 10, 11, 12, 13, 14, 15, 16, 17] (by kernel_rfl) (by kernel_rfl) (by kernel_rfl) (HB6.out.drew) ?_
        iterate 2
         refine flow_val ?_ rfl (by kernel_rfl) (by rfl) (fun W hW => ?_) ?_
         rotate_left 1
         · go_simp <;> with_reducible rfl
         simp only [puts]
        refine flow_val ?_ rfl (by kernel_rfl) (by rfl) (fun W hW => ?_) ?_
        rotate_left 1
        · have c3 := cell_at (HCA.out W hW) 3; have c4 := cell_at (HCA.out W hW) 4; have c5 := cell_at (HCA.out W hW) 5; have c6 := cell_at (HCA.out W hW) 6; have c7 := cell_at (HCA.out W hW) 7; have c8 := cell_at (HCA.out W hW) 8; have c9 := cell_at (HCA.out W hW) 9; have c10 := cell_at (HCA.out W hW) 10; have c11 := cell_at (HCA.out W hW) 11; go_simp <;> with_reducible rfl
        simp only [puts]
        refine flow_call (.bool false) rfl (by kernel_rfl) (by rfl) (by kernel_rfl) (fun W hW => ⟨_, _, _, by go_simp, (HHa.out W).mono fun e w' ⟨he, hb⟩ => ⟨he, hW.trans (hb.mono hW.size)⟩⟩) ?_
        simp only [puts]
        refine flow_call (.bool false) rfl (by kernel_rfl) (by rfl) (by kernel_rfl) (fun W hW => ⟨_, _, _, by go_simp, (HMA.out W hW.1).mono fun e w' ⟨he, hb⟩ => ⟨he, ⟨hW.1.trans (hb.mono hW.1.size), trivial⟩⟩⟩) ?_
        simp only [puts]
        iterate 3
         refine flow_val ?_ rfl (by kernel_rfl) (by rfl) (fun W hW => ?_) ?_
         rotate_left 1
         · go_simp <;> with_reducible rfl
         simp only [puts]
        refine flow_call (.bool false) rfl (by kernel_rfl) (by rfl) (by kernel_rfl) (fun W hW => ⟨_, _, _, by go_simp, (HHa.out W).mono fun e w' ⟨he, hb⟩ => ⟨he, ⟨⟨hW.1.1.trans (hb.mono hW.1.1.size), trivial⟩, trivial⟩⟩⟩) ?_
        simp only [puts]
        iterate 3
         refine flow_val ?_ rfl (by kernel_rfl) (by rfl) (fun W hW => ?_) ?_
         rotate_left 1
         · go_simp <;> with_reducible rfl
         simp only [puts]
        refine flow_val ?_ rfl (by kernel_rfl) (by rfl) (fun W hW => ?_) ?_
        rotate_left 1
        · have c3 := cell_at (HCA.out W hW.1.1.1) 3; have c4 := cell_at (HCA.out W hW.1.1.1) 4; have c5 := cell_at (HCA.out W hW.1.1.1) 5; have c6 := cell_at (HCA.out W hW.1.1.1) 6; have c7 := cell_at (HCA.out W hW.1.1.1) 7; have c8 := cell_at (HCA.out W hW.1.1.1) 8; have c9 := cell_at (HCA.out W hW.1.1.1) 9; have c10 := cell_at (HCA.out W hW.1.1.1) 10; have c11 := cell_at (HCA.out W hW.1.1.1) 11; go_simp <;> with_reducible rfl
        simp only [puts]
        refine flow_val ?_ rfl (by kernel_rfl) (by rfl) (fun W hW => ?_) ?_
        rotate_left 1
        · go_simp <;> with_reducible rfl
        simp only [puts]
        refine flow_call (.bool false) rfl (by kernel_rfl) (by rfl) (by kernel_rfl) (fun W hW => ⟨_, _, _, by go_simp, (HEA.out W hW.1.1.1).mono fun e w' ⟨he, hb⟩ => ⟨he, ⟨⟨⟨hW.1.1.1.trans (hb.mono hW.1.1.1.size), trivial⟩, trivial⟩, trivial⟩⟩⟩) ?_
        simp only [puts]
        iterate 3
         refine flow_val ?_ rfl (by kernel_rfl) (by rfl) (fun W hW => ?_) ?_
         rotate_left 1
         · go_simp <;> with_reducible rfl
         simp only [puts]
        refine flow_done ?_
        intro W hW
        have HB20 := Lib.hid (hW.1.1.1.1)
        clear hW
        obtain ⟨w20, hw⟩ : ∃ w20, w20 = W := ⟨_, rfl⟩
        subst hw
        go_wp2
        go_ret
        exact ⟨ret_bool HM.out.symm, HKB.out.trans (HB20.out.mono HKB.out.size)⟩
       case true =>
        go_wp2_with fail
        refine wp_region_flow (fun W => Below W2.heap.size W2 W) [0, 2, 3, 1, 4, 5, 6, 7, 8, 9, 10, 11, 12, 13, 14, 15, 16, 17] (by kernel_rfl) (by kernel_rfl) (by kernel_rfl) (HB6.out.drew) ?_
        iterate 2
         refine flow_val ?_ rfl (by kernel_rfl) (by rfl) (fun W hW => ?_) ?_
         rotate_left 1
         · go_simp <;> with_reducible rfl
         simp only [puts]
        refine flow_val ?_ rfl (by kernel_rfl) (by rfl) (fun W hW => ?_) ?_
        rotate_left 1
        · have c3 := cell_at (HCA.out W hW) 3; have c4 := cell_at (HCA.out W hW) 4; have c5 := cell_at (HCA.out W hW) 5; have c6 := cell_at (HCA.out W hW) 6; have c7 := cell_at (HCA.out W hW) 7; have c8 := cell_at (HCA.out W hW) 8; have c9 := cell_at (HCA.out W hW) 9; have c10 := cell_at (HCA.out W hW) 10; have c11 := cell_at (HCA.out W hW) 11; go_simp <;> with_reducible rfl
        simp only [puts]
        refine flow_call (.bool false) rfl (by kernel_rfl) (by rfl) (by kernel_rfl) (fun W hW => ⟨_, _, _, by go_simp, (HHa.out W).mono fun e w' ⟨he, hb⟩ => ⟨he, hW.trans (hb.mono hW.size)⟩⟩) ?_
        simp only [puts]
        refine flow_call (.bool false) rfl (by kernel_rfl) (by rfl) (by kernel_rfl) (fun W hW => ⟨_, _, _, by go_simp, (HMA.out W hW.1).mono fun e w' ⟨he, hb⟩ => ⟨he, ⟨hW.1.trans (hb.mono hW.1.size), trivial⟩⟩⟩) ?_
        simp only [puts]
        iterate 3
         refine flow_val ?_ rfl (by kernel_rfl) (by rfl) (fun W hW => ?_) ?_
         rotate_left 1
         · go_simp <;> with_reducible rfl
         simp only [puts]
        refine flow_call (.bool false) rfl (by kernel_rfl) (by rfl) (by kernel_rfl) (fun W hW => ⟨_, _, _, by go_simp, (HHa.out W).mono fun e w' ⟨he, hb⟩ => ⟨he, ⟨⟨hW.1.1.trans (hb.mono hW.1.1.size), trivial⟩, trivial⟩⟩⟩) ?_
        simp only [puts]
        iterate 3
         refine flow_val ?_ rfl (by kernel_rfl) (by rfl) (fun W hW => ?_) ?_
         rotate_left 1
         · go_simp <;> with_reducible rfl
         simp only [puts]
        refine flow_val ?_ rfl (by kernel_rfl) (by rfl) (fun W hW => ?_) ?_
        rotate_left 1
        · have c3 := cell_at (HCA.out W hW.1.1.1) 3; have c4 := cell_at (HCA.out W hW.1.1.1) 4; have c5 := cell_at (HCA.out W hW.1.1.1) 5; have c6 := cell_at (HCA.out W hW.1.1.1) 6; have c7 := cell_at (HCA.out W hW.1.1.1) 7; have c8 := cell_at (HCA.out W hW.1.1.1) 8; have c9 := cell_at (HCA.out W hW.1.1.1) 9; have c10 := cell_at (HCA.out W hW.1.1.1) 10; have c11 := cell_at (HCA.out W hW.1.1.1) 11; go_simp <;> with_reducible rfl
        simp only [puts]
        refine flow_val ?_ rfl (by kernel_rfl) (by rfl) (fun W hW => ?_) ?_
        rotate_left 1
        · go_simp <;> with_reducible rfl
        simp only [puts]
        refine flow_call (.bool true) rfl (by kernel_rfl) (by rfl) (by kernel_rfl) (fun W hW => ⟨_, _, _, by go_simp, (HEA.out W hW.1.1.1).mono fun e w' ⟨he, hb⟩ => ⟨he, ⟨⟨⟨hW.1.1.1.trans (hb.mono hW.1.1.1.size), trivial⟩, trivial⟩, trivial⟩⟩⟩) ?_
        simp only [puts]
        iterate 3
         refine flow_val ?_ rfl (by kernel_rfl) (by rfl) (fun W hW => ?_) ?_
         rotate_left 1
         · go_simp <;> with_reducible rfl
         simp only [puts]
        refine flow_done ?_
        intro W hW
        have HB20 := Lib.hid (hW.1.1.1.1)
        clear hW
        obtain ⟨w20, hw⟩ : ∃ w20, w20 = W := ⟨_, rfl⟩
        subst hw
        go_wp2_with fail
        refine (HHy.out w20).mono ?_
        rintro e w21 ⟨rfl, hb⟩
        have HB21 := Lib.hid (HB20.out.trans (hb.mono HB20.out.size))
        clear hb
        have c12 := cell_at (HCA.out w21 HB21.out) 12
        have c13 := cell_at (HCA.out w21 HB21.out) 13
        have c14 := cell_at (HCA.out w21 HB21.out) 14
        have c15 := cell_at (HCA.out w21 HB21.out) 15
        cases BY
        case false =>
         cases F1
         case false =>
          go_wp2
          go_ret
          exact ⟨ret_bool HM.out.symm, HKB.out.trans (HB21.out.mono HKB.out.size)⟩
         cases F2
         case false =>
          go_wp2
          go_ret
          exact ⟨ret_bool HM.out.symm, HKB.out.trans (HB21.out.mono HKB.out.size)⟩
         cases F3
         case false =>
          go_wp2
          go_ret
          exact ⟨ret_bool HM.out.symm, HKB.out.trans (HB21.out.mono HKB.out.size)⟩
         cases F4
         case false =>
          go_wp2
          go_ret
          exact ⟨ret_bool HM.out.symm, HKB.out.trans (HB21.out.mono HKB.out.size)⟩
         go_wp2
         go_ret
         exact ⟨ret_bool HM.out.symm, HKB.out.trans (HB21.out.mono HKB.out.size)⟩
        case true =>
         go_wp2_with fail
         refine (HYM.out w21).mono ?_
         rintro e _ ⟨rfl, rfl⟩
         cases YM
         case false =>
          go_wp2
          go_ret
          exact ⟨ret_bool HM.out.symm, HKB.out.trans (HB21.out.mono HKB.out.size)⟩
         case true =>
          cases D1
          case false =>
           go_wp2
           go_ret
           exact ⟨ret_bool HM.out.symm, HKB.out.trans (HB21.out.mono HKB.out.size)⟩
          case true =>
           cases D2
           case false =>
            go_wp2
            go_ret
            exact ⟨ret_bool HM.out.symm, HKB.out.trans (HB21.out.mono HKB.out.size)⟩
           case true =>
            go_wp2
            go_ret
            exact ⟨ret_bool HM.out.symm, HKB.out.trans (HB21.out.mono HKB.out.size)⟩
      case true =>
       go_wp2_with fail
       refine wp_region_flow (fun W => Below W2.heap.size W2 W) [0, 2, 3, 1, 4, 5, 6, 7, 8, 9, 10, 11, 12, 13, 14, 15, 16, 17] (by kernel_rfl) (by kernel_rfl) (by kernel_rfl) (HB6.out.drew) ?_
       iterate 2
        refine flow_val ?_ rfl (by kernel_rfl) (by rfl) (fun W hW => ?_) ?_
        rotate_left 1
        · go_simp <;> with_reducible rfl
        simp only [puts]
       refine flow_val ?_ rfl (by kernel_rfl) (by rfl) (fun W hW => ?_) ?_
       rotate_left 1
       · have c3 := cell_at (HCA.out W hW) 3; have c4 := cell_at (HCA.out W hW) 4; have c5 := cell_at (HCA.out W hW) 5; have c6 := cell_at (HCA.out W hW) 6; have c7 := cell_at (HCA.out W hW) 7; have c8 := cell_at (HCA.out W hW) 8; have c9 := cell_at (HCA.out W hW) 9; have c10 := cell_at (HCA.out W hW) 10; have c11 := cell_at (HCA.out W hW) 11; go_simp <;> with_reducible rfl
       simp only [puts]
       refine flow_call (.bool false) rfl (by kernel_rfl) (by rfl) (by kernel_rfl) (fun W hW => ⟨_, _, _, by go_simp, (HHa.out W).mono fun e w' ⟨he, hb⟩ => ⟨he, hW.trans (hb.mono hW.size)⟩⟩) ?_
       simp only [puts]
       refine flow_call (.bool true) rfl (by kernel_rfl) (by rfl) (by kernel_rfl) (fun W hW => ⟨_, _, _, by go_simp, (HMA.out W hW.1).mono fun e w' ⟨he, hb⟩ => ⟨he, ⟨hW.1.trans (hb.mono hW.1.size), trivial⟩⟩⟩) ?_
       simp only [puts]
       iterate 2
        refine flow_val ?_ rfl (by kernel_rfl) (by rfl) (fun W hW => ?_) ?_
        rotate_left 1
        · go_simp <;> with_reducible rfl
        simp only [puts]
       iterate 10
        refine flow_off rfl (by kernel_rfl) (by rfl) ?_
        simp only [puts]
       refine flow_val ?_ rfl (by kernel_rfl) (by rfl) (fun W hW => ?_) ?_
       rotate_left 1
       · go_simp <;> with_reducible rfl
       simp only [puts]
       refine flow_done ?_
       intro W hW
       have HB20 := Lib.hid (hW.1.1)
       clear hW
       obtain ⟨w20, hw⟩ : ∃ w20, w20 = W := ⟨_, rfl⟩
       subst hw
       go_wp2
       go_ret
       exact ⟨ret_bool HM.out.symm, HKB.out.trans (HB20.out.mono HKB.out.size)⟩
     case true =>
      cases MA
      case false =>
       go_wp2_with fail
       refine wp_region_flow (fun W => Below W2.heap.size W2 W) [0, 2, 3, 1, 4, 5, 6, 7, 8, 9, 10, 11, 12, 13, 14, 15, 16, 17] (by kernel_rfl) (by kernel_rfl) (by kernel_rfl) (HB6.out.drew) ?_
       iterate 2
        refine flow_val ?_ rfl (by kernel_rfl) (by rfl) (fun W hW => ?_) ?_
        rotate_left 1
        · go_simp <;> with_reducible rfl
        simp only [puts]
       refine flow_val ?_ rfl (by kernel_rfl) (by rfl) (fun W hW => ?_) ?_
       rotate_left 1
       · have c3 := cell_at (HCA.out W hW) 3; have c4 := cell_at (HCA.out W hW) 4; have c5 := cell_at (HCA.out W hW) 5; have c6 := cell_at (HCA.out W hW) 6; have c7 := cell_at (HCA.out W hW) 7; have c8 := cell_at (HCA.out W hW) 8; have c9 := cell_at (HCA.out W hW) 9; have c10 := cell_at (HCA.out W hW) 10; have c11 := cell_at (HCA.out W hW) 11; go_simp <;> with_reducible rfl
       simp only [puts]
       refine flow_call (.bool true) rfl (by kernel_rfl) (by rfl) (by kernel_rfl) (fun W hW => ⟨_, _, _, by go_simp, (HHa.out W).mono fun e w' ⟨he, hb⟩ => ⟨he, hW.trans (hb.mono hW.size)⟩⟩) ?_
       simp only [puts]
       refine flow_call (.bool false) rfl (by kernel_rfl) (by rfl) (by kernel_rfl) (fun W hW => ⟨_, _, _, by go_simp, (HMA.out W hW.1).mono fun e w' ⟨he, hb⟩ => ⟨he, ⟨hW.1.trans (hb.mono hW.1.size), trivial⟩⟩⟩) ?_
       simp only [puts]
       iterate 2
        refine flow_val ?_ rfl (by kernel_rfl) (by rfl) (fun W hW => ?_) ?_
        rotate_left 1
        · go_simp <;> with_reducible rfl
        simp only [puts]
       iterate 10
        refine flow_off rfl (by kernel_rfl) (by rfl) ?_
        simp only [puts]
       refine flow_val ?_ rfl (by kernel_rfl) (by rfl) (fun W hW => ?_) ?_
       rotate_left 1
       · go_simp <;> with_reducible rfl
       simp only [puts]
       refine flow_done ?_
       intro W hW
       have HB20 := Lib.hid (hW.1.1)
       clear hW
       obtain ⟨w20, hw⟩ : ∃ w20, w20 = W := ⟨_, rfl⟩
       subst hw
       go_wp2
       go_ret
       exact ⟨ret_bool HM.out.symm, HKB.out.trans (HB20.out.mono HKB.out.size)⟩
      case true =>
       go_wp2_with fail
       refine wp_region_flow (fun W => Below W2.heap.size W2 W) [0, 2, 3, 1, 4, 5, 6, 7, 8, 9, 10, 11, 12, 13, 14, 15, 16, 17] (by kernel_rfl) (by kernel_rfl) (by kernel_rfl) (HB6.out.drew) ?_
       iterate 2
        refine flow_val ?_ rfl (by kernel_rfl) (by rfl) (fun W hW => ?_) ?_
        rotate_left 1
        · go_simp <;> with_reducible rfl
        simp only [puts]
       refine flow_val ?_ rfl (by kernel_rfl) (by rfl) (fun W hW => ?_) ?_
       rotate_left 1
       · have c3 := cell_at (HCA.out W hW) 3; have c4 := cell_at (HCA.out W hW) 4; have c5 := cell_at (HCA.out W hW) 5; have c6 := cell_at (HCA.out W hW) 6; have c7 := cell_at (HCA.out W hW) 7; have c8 := cell_at (HCA.out W hW) 8; have c9 := cell_at (HCA.out W hW) 9; have c10 := cell_at (HCA.out W hW) 10; have c11 := cell_at (HCA.out W hW) 11; go_simp <;> with_reducible rfl
       simp only [puts]
       refine flow_call (.bool true) rfl (by kernel_rfl) (by rfl) (by kernel_rfl) (fun W hW => ⟨_, _, _, by go_simp, (HHa.out W).mono fun e w' ⟨he, hb⟩ => ⟨he, hW.trans (hb.mono hW.size)⟩⟩) ?_
       simp only [puts]
       refine flow_call (.bool true) rfl (by kernel_rfl) (by rfl) (by kernel_rfl) (fun W hW => ⟨_, _, _, by go_simp, (HMA.out W hW.1).mono fun e w' ⟨he, hb⟩ => ⟨he, ⟨hW.1.trans (hb.mono hW.1.size), trivial⟩⟩⟩) ?_
       simp only [puts]
       iterate 3
        refine flow_val ?_ rfl (by kernel_rfl) (by rfl) (fun W hW => ?_) ?_
        rotate_left 1
        · go_simp <;> with_reducible rfl
        simp only [puts]
       refine flow_call (.bool true) rfl (by kernel_rfl) (by rfl) (by kernel_rfl) (fun W hW => ⟨_, _, _, by go_simp, (HHa.out W).mono fun e w' ⟨he, hb⟩ => ⟨he, ⟨⟨hW.1.1.trans (hb.mono hW.1.1.size), trivial⟩, trivial⟩⟩⟩) ?_
       simp only [puts]
       iterate 2
        refine flow_val ?_ rfl (by kernel_rfl) (by rfl) (fun W hW => ?_) ?_
        rotate_left 1
        · go_simp <;> with_reducible rfl
        simp only [puts]
       iterate 5
        refine flow_off rfl (by kernel_rfl) (by rfl) ?_
        simp only [puts]
       iterate 2
        refine flow_val ?_ rfl (by kernel_rfl) (by rfl) (fun W hW => ?_) ?_
        rotate_left 1
        · go_simp <;> with_reducible rfl
        simp only [puts]
       refine flow_done ?_
       intro W hW
       have HB20 := Lib.hid (hW.1.1.1)
       clear hW
       obtain ⟨w20, hw⟩ : ∃ w20, w20 = W := ⟨_, rfl⟩
       subst hw
       go_wp2_with fail
       refine (HHy.out w20).mono ?_
       rintro e w21 ⟨rfl, hb⟩
       have HB21 := Lib.hid (HB20.out.trans (hb.mono HB20.out.size))
       clear hb
       have c12 := cell_at (HCA.out w21 HB21.out) 12
       have c13 := cell_at (HCA.out w21 HB21.out) 13
       have c14 := cell_at (HCA.out w21 HB21.out) 14
       have c15 := cell_at (HCA.out w21 HB21.out) 15
       cases BY
       case false =>
        cases F1
        case false =>
         go_wp2
         go_ret
         exact ⟨ret_bool HM.out.symm, HKB.out.trans (HB21.out.mono HKB.out.size)⟩
        cases F2
        case false =>
         go_wp2
         go_ret
         exact ⟨ret_bool HM.out.symm, HKB.out.trans (HB21.out.mono HKB.out.size)⟩
        cases F3
        case false =>
         go_wp2
         go_ret
         exact ⟨ret_bool HM.out.symm, HKB.out.trans (HB21.out.mono HKB.out.size)⟩
        cases F4
        case false =>
         go_wp2
         go_ret
         exact ⟨ret_bool HM.out.symm, HKB.out.trans (HB21.out.mono HKB.out.size)⟩
        go_wp2
        go_ret
        exact ⟨ret_bool HM.out.symm, HKB.out.trans (HB21.out.mono HKB.out.size)⟩
       case true =>
        go_wp2_with fail
        refine (HYM.out w21).mono ?_
        rintro e _ ⟨rfl, rfl⟩
        cases YM
        case false =>
         go_wp2
         go_ret
         exact ⟨ret_bool HM.out.symm, HKB.out.trans (HB21.out.mono HKB.out.size)⟩
        case true =>
         cases D1
         case false =>
          go_wp2
          go_ret
          exact ⟨ret_bool HM.out.symm, HKB.out.trans (HB21.out.mono HKB.out.size)⟩
         case true =>
          cases D2
          case false =>
           go_wp2
           go_ret
           exact ⟨ret_bool HM.out.symm, HKB.out.trans (HB21.out.mono HKB.out.size)⟩
          case true =>
           go_wp2
           go_ret
           exact ⟨ret_bool HM.out.symm, HKB.out.trans (HB21.out.mono HKB.out.size)⟩
  case true =>
   go_wp2
   go_ret
   exact ⟨ret_bool HM.out.symm, HKB.out.trans (HB4.out.mono HKB.out.size)⟩
 case true =>
  cases L1
  case false =>
   cases L2
   case false =>
    go_wp2_with fail
    refine (HHo.out w3).mono ?_
    rintro e w4 ⟨rfl, hb⟩
    have HB4 := Lib.hid (HB3.out.trans (hb.mono HB3.out.size))
    clear hb c1
    have c1 := cell_at (HCA.out w4 HB4.out) 1
    have c2 := cell_at (HCA.out w4 HB4.out) 2
    go_wp2_with fail
    refine (HMI.out w4 HB4.out).mono ?_
    rintro e w5 ⟨rfl, hb⟩
    have HB5 := Lib.hid (HB4.out.trans (hb.mono HB4.out.size))
    clear hb c1 c2
    have c2 := cell_at (HCA.out w5 HB5.out) 2
    cases MI
    case false =>
     go_wp2
     go_ret
     exact ⟨ret_bool HM.out.symm, HKB.out.trans (HB5.out.mono HKB.out.size)⟩
    case true =>
     go_wp2_with fail
     refine (HHi.out w5).mono ?_
     rintro e w6 ⟨rfl, hb⟩
     have HB6 := Lib.hid (HB5.out.trans (hb.mono HB5.out.size))
     clear hb c2
     have c2 := cell_at (HCA.out w6 HB6.out) 2
     cases BI
     case false =>
      cases LP
      case false =>
       cases BA
       case false =>
        cases MA
        case false =>
         cases EA
         case false =>
          go_wp2_with fail
          refine wp_region_flow (fun W => Below W2.heap.size W2 W) [0, 2, 3, 1, 4, 5, 6, 7, 8, 9, 10, 11, 12, 13, 14, 15, 16, 17] (by kernel_rfl) (by kernel_rfl) (by kernel_rfl) (HB6.out.drew) ?_
          iterate 2
           refine flow_val ?_ rfl (by kernel_rfl) (by rfl) (fun W hW => ?_) ?_
           rotate_left 1
           · go_simp <;> with_reducible rfl
           simp only [puts]
          refine flow_val ?_ rfl (by kernel_rfl) (by rfl) (fun W hW => ?_) ?_
          rotate_left 1
          · have c3 := cell_at (HCA.out W hW) 3; have c4 := cell_at (HCA.out W hW) 4; have c5 := cell_at (HCA.out W hW) 5; have c6 := cell_at (HCA.out W hW) 6; have c7 := cell_at (HCA.out W hW) 7; have c8 := cell_at (HCA.out W hW) 8; have c9 := cell_at (HCA.out W hW) 9; have c10 := cell_at (HCA.out W hW) 10; have c11 := cell_at (HCA.out W hW) 11; go_simp <;> with_reducible rfl
          simp only [puts]
          refine flow_call (.bool false) rfl (by kernel_rfl) (by rfl) (by kernel_rfl) (fun W hW => ⟨_, _, _, by go_simp, (HHa.out W).mono fun e w' ⟨he, hb⟩ => ⟨he, hW.trans (hb.mono hW.size)⟩⟩) ?_
          simp only [puts]
          refine flow_call (.bool false) rfl (by kernel_rfl) (by rfl) (by kernel_rfl) (fun W hW => ⟨_, _, _, by go_simp, (HMA.out W hW.1).mono fun e w' ⟨he, hb⟩ => ⟨he, ⟨hW.1.trans (hb.mono hW.1.size), trivial⟩⟩⟩) ?_
          simp only [puts]
          iterate 3
           refine flow_val ?_ rfl (by kernel_rfl) (by rfl) (fun W hW => ?_) ?_
           rotate_left 1
           · go_simp <;> with_reducible rfl
           simp only [puts]
          refine flow_call (.bool false) rfl (by kernel_rfl) (by rfl) (by kernel_rfl) (fun W hW => ⟨_, _, _, by go_simp, (HHa.out W).mono fun e w' ⟨he, hb⟩ => ⟨he, ⟨⟨hW.1.1.trans (hb.mono hW.1.1.size), trivial⟩, trivial⟩⟩⟩) ?_
          simp only [puts]
          iterate 3
           refine flow_val ?_ rfl (by kernel_rfl) (by rfl) (fun W hW => ?_) ?_
           rotate_left 1
           · go_simp <;> with_reducible rfl
           simp only [puts]
          refine flow_val ?_ rfl (by kernel_rfl) (by rfl) (fun W hW => ?_) ?_
          rotate_left 1
          · have c3 := cell_at (HCA.out W hW.1.1.1) 3; have c4 := cell_at (HCA.out W hW.1.1.1) 4; have c5 := cell_at (HCA.out W hW.1.1.1) 5; have c6 := cell_at (HCA.out W hW.1.1.1) 6; have c7 := cell_at (HCA.out W hW.1.1.1) 7; have c8 := cell_at (HCA.out W hW.1.1.1) 8; have c9 := cell_at (HCA.out W hW.1.1.1) 9; have c10 := cell_at (HCA.out W hW.1.1.1) 10; have c11 := cell_at (HCA.out W hW.1.1.1) 11; go_simp <;> with_reducible rfl
          simp only [puts]
          refine flow_val ?_ rfl (by kernel_rfl) (by rfl) (fun W hW => ?_) ?_
          rotate_left 1
          · go_simp <;> with_reducible rfl
          simp only [puts]
          refine flow_call (.bool false) rfl (by kernel_rfl) (by rfl) (by kernel_rfl) (fun W hW => ⟨_, _, _, by go_simp, (HEA.out W hW.1.1.1).mono fun e w' ⟨he, hb⟩ => ⟨he, ⟨⟨⟨hW.1.1.1.trans (hb.mono hW.1.1.1.size), trivial⟩, trivial⟩, trivial⟩⟩⟩) ?_
          simp only [puts]
          iterate 3
           refine flow_val ?_ rfl (by kernel_rfl) (by rfl) (fun W hW => ?_) ?_
           rotate_left 1
           · go_simp <;> with_reducible rfl
           simp only [puts]
          refine flow_done ?_
          intro W hW
          have HB20 := Lib.hid (hW.1.1.1.1)
          clear hW
          obtain ⟨w20, hw⟩ : ∃ w20, w20 = W := ⟨_, rfl⟩
          subst hw
          go_wp2
          go_ret
          exact ⟨ret_bool HM.out.symm, HKB.out.trans (HB20.out.mono HKB.out.size)⟩
         case true =>
          go_wp2_with fail
          refine wp_region_flow (fun W => Below W2.heap.size W2 W) [0, 2, 3, 1, 4, 5, 6, 7, 8, 9, 10, 11, 12, 13, 14, 15, 16, 17] (by kernel_rfl) (by kernel_rfl) (by kernel_rfl) (HB6.out.drew) ?_
          iterate 2
           refine flow_val ?_ rfl (by kernel_rfl) (by rfl) (fun W hW => ?_) ?_
           rotate_left 1
           · go_simp <;> with_reducible rfl
           simp only [puts]
          refine flow_val ?_ rfl (by kernel_rfl) (by rfl) (fun W hW => ?_) ?_
          rotate_left 1
          · have c3 := cell_at (HCA.out W hW) 3; have c4 := cell_at (HCA.out W hW) 4; have c5 := cell_at (HCA.out W hW) 5; have c6 := cell_at (HCA.out W hW) 6; have c7 := cell_at (HCA.out W hW) 7; have c8 := cell_at (HCA.out W hW) 8; have c9 := cell_at (HCA.out W hW) 9; have c10 := cell_at (HCA.out W hW) 10; have c11 := cell_at (HCA.out W hW) 11; go_simp <;> with_reducible rfl
          simp only [puts]
          refine flow_call (.bool false) rfl (by kernel_rfl) (by rfl) (by kernel_rfl) (fun W hW => ⟨_, _, _, by go_simp, (HHa.out W).mono fun e w' ⟨he, hb⟩ => ⟨he, hW.trans (hb.mono hW.size)⟩⟩) ?_
          simp only [puts]
          refine flow_call (.bool false) rfl (by kernel_rfl) (by rfl) (by kernel_rfl) (fun W hW => ⟨_, _, _, by go_simp, (HMA.out W hW.1).mono fun e w' ⟨he, hb⟩ => ⟨he, ⟨hW.1.trans (hb.mono hW.1.size), trivial⟩⟩⟩) ?_
          simp only [puts]
          iterate 3
           refine flow_val ?_ rfl (by kernel_rfl) (by rfl) (fun W hW => ?_) ?_
           rotate_left 1
           · go_simp <;> with_reducible rfl
           simp only [puts]
          refine flow_call (.bool false) rfl (by kernel_rfl) (by rfl) (by kernel_rfl) (fun W hW => ⟨_, _, _, by go_simp, (HHa.out W).mono fun e w' ⟨he, hb⟩ => ⟨he, ⟨⟨hW.1.1.trans (hb.mono hW.1.1.size), trivial⟩, trivial⟩⟩⟩) ?_
          simp only [puts]
          iterate 3
           refine flow_val ?_ rfl (by kernel_rfl) (by rfl) (fun W hW => ?_) ?_
           rotate_left 1
           · go_simp <;> with_reducible rfl
           simp only [puts]
          refine flow_val ?_ rfl (by kernel_rfl) (by rfl) (fun W hW => ?_) ?_
          rotate_left 1
          · have c3 := cell_at (HCA.out W hW.1.1.1) 3; have c4 := cell_at (HCA.out W hW.1.1.1) 4; have c5 := cell_at (HCA.out W hW.1.1.1) 5; have c6 := cell_at (HCA.out W hW.1.1.1) 6; have c7 := cell_at (HCA.out W hW.1.1.1) 7; have c8 := cell_at (HCA.out W hW.1.1.1) 8; have c9 := cell_at (HCA.out W hW.1.1.1) 9; have c10 := cell_at (HCA.out W hW.1.1.1) 10; have c11 := cell_at (HCA.out W hW.1.1.1) 11; go_simp <;> with_reducible rfl
          simp only [puts]
          refine flow_val ?_ rfl (by kernel_rfl) (by rfl) (fun W hW => ?_) ?_
          rotate_left 1
          · go_simp <;> with_reducible rfl
          simp only [puts]
          refine flow_call (.bool true) rfl (by kernel_rfl) (by rfl) (by kernel_rfl) (fun W hW => ⟨_, _, _, by go_simp, (HEA.out W hW.1.1.1).mono fun e w' ⟨he, hb⟩ => ⟨he, ⟨⟨⟨hW.1.1.1.trans (hb.mono hW.1.1.1.size), trivial⟩, trivial⟩, trivial⟩⟩⟩) ?_
          simp only [puts]
          iterate 3
           refine flow_val ?_ rfl (by kernel_rfl) (by rfl) (fun W hW => ?_) ?_
           rotate_left 1
           · go_simp <;> with_reducible rfl
           simp only [puts]
          refine flow_done ?_
          intro W hW
          have HB20 := Lib.hid (hW.1.1.1.1)
          clear hW
          obtain ⟨w20, hw⟩ : ∃ w20, w20 = W := ⟨_, rfl⟩
          subst hw
          go_wp2_with fail
          refine (HHy.out w20).mono ?_
          rintro e w21 ⟨rfl, hb⟩
          have HB21 := Lib.hid (HB20.out.trans (hb.mono HB20.out.size))
          clear hb
          have c12 := cell_at (HCA.out w21 HB21.out) 12
          have c13 := cell_at (HCA.out w21 HB21.out) 13
          have c14 := cell_at (HCA.out w21 HB21.out) 14
          have c15 := cell_at (HCA.out w21 HB21.out) 15
          cases BY
          case false =>
           cases F1
           case false =>
            go_wp2
            go_ret
            exact ⟨ret_bool HM.out.symm, HKB.out.trans (HB21.out.mono HKB.out.size)⟩
           cases F2
           case false =>
            go_wp2
            go_ret
            exact ⟨ret_bool HM.out.symm, HKB.out.trans (HB21.out.mono HKB.out.size)⟩
           cases F3
           case false =>
            go_wp2
            go_ret
            exact ⟨ret_bool HM.out.symm, HKB.out.trans (HB21.out.mono HKB.out.size)⟩
           cases F4
           case false =>
            go_wp2
            go_ret
            exact ⟨ret_bool HM.out.symm, HKB.out.trans (HB21.out.mono HKB.out.size)⟩
           go_wp2
           go_ret
           exact ⟨ret_bool HM.out.symm, HKB.out.trans (HB21.out.mono HKB.out.size)⟩
          case true =>
           go_wp2_with fail
           refine (HYM.out w21).mono ?_
           rintro e _ ⟨rfl, rfl⟩
           cases YM
           case false =>
            go_wp2
            go_ret
            exact ⟨ret_bool HM.out.symm, HKB.out.trans (HB21.out.mono HKB.out.size)⟩
           case true =>
            cases D1
            case false =>
             go_wp2
             go_ret
             exact ⟨ret_bool HM.out.symm, HKB.out.trans (HB21.out.mono HKB.out.size)⟩
            case true =>
             cases D2
             case false =>
              go_wp2
              go_ret
              exact ⟨ret_bool HM.out.symm, HKB.out.trans (HB21.out.mono HKB.out.size)⟩
             case true =>
              go_wp2
              go_ret
              exact ⟨ret_bool HM.out.symm, HKB.out.trans (HB21.out.mono HKB.out.size)⟩
        case true =>
         go_wp2_with fail
         refine wp_region_flow (fun W => Below W2.heap.size W2 W) [0, 2, 3, 1, 4, 5, 6, 7, 8, 9, 10, 11, 12, 13, 14, 15, 16, 17] (by kernel_rfl) (by kernel_rfl) (by kernel_rfl) (HB6.out.drew) ?_
         iterate 2
          refine flow_val ?_ rfl (by kernel_rfl) (by rfl) (fun W hW => ?_) ?_
          rotate_left 1
          · go_simp <;> with_reducible rfl
          simp only [puts]
         refine flow_val ?_ rfl (by kernel_rfl) (by rfl) (fun W hW => ?_) ?_
         rotate_left 1
         · have c3 := cell_at (HCA.out W hW) 3; have c4 := cell_at (HCA.out W hW) 4; have c5 := cell_at (HCA.out W hW) 5; have c6 := cell_at (HCA.out W hW) 6; have c7 := cell_at (HCA.out W hW) 7; have c8 := cell_at (HCA.out W hW) 8; have c9 := cell_at (HCA.out W hW) 9; have c10 := cell_at (HCA.out W hW) 10; have c11 := cell_at (HCA.out W hW) 11; go_simp <;> with_reducible rfl
         simp only [puts]
         refine flow_call (.bool false) rfl (by kernel_rfl) (by rfl) (by kernel_rfl) (fun W hW => ⟨_, _, _, by go_simp, (HHa.out W).mono fun e w' ⟨he, hb⟩ => ⟨he, hW.trans (hb.mono hW.size)⟩⟩) ?_
         simp only [puts]
         refine flow_call (.bool true) rfl (by kernel_rfl) (by rfl) (by kernel_rfl) (fun W hW => ⟨_, _, _, by go_simp, (HMA.out W hW.1).mono fun e w' ⟨he, hb⟩ => ⟨he, ⟨hW.1.trans (hb.mono hW.1.size), trivial⟩⟩⟩) ?_
         simp only [puts]
         iterate 2
          refine flow_val ?_ rfl (by kernel_rfl) (by rfl) (fun W hW => ?_) ?_
          rotate_left 1
          · go_simp <;> with_reducible rfl
          simp only [puts]
         iterate 10
          refine flow_off rfl (by kernel_rfl) (by rfl) ?_
          simp only [puts]
         refine flow_val ?_ rfl (by kernel_rfl) (by rfl) (fun W hW => ?_) ?_
         rotate_left 1
         · go_simp <;> with_reducible rfl
         simp only [puts]
         refine flow_done ?_
         intro W hW
         have HB20 := Lib.hid (hW.1.1)
         clear hW
         obtain ⟨w20, hw⟩ : ∃ w20, w20 = W := ⟨_, rfl⟩
         subst hw
         go_wp2
         go_ret
         exact ⟨ret_bool HM.out.symm, HKB.out.trans (HB20.out.mono HKB.out.size)⟩
       case true =>
        cases MA
        case false =>
         go_wp2_with fail
         refine wp_region_flow (fun W => Below W2.heap.size W2 W) [0, 2, 3, 1, 4, 5, 6, 7, 8, 9, 10, 11, 12, 13, 14, 15, 16, 17] (by kernel_rfl) (by kernel_rfl) (by kernel_rfl) (HB6.out.drew) ?_
         iterate 2
          refine flow_val ?_ rfl (by kernel_rfl) (by rfl) (fun W hW => ?_) ?_
          rotate_left 1
          · go_simp <;> with_reducible rfl
          simp only [puts]
         refine flow_val ?_ rfl (by kernel_rfl) (by rfl) (fun W hW => ?_) ?_
         rotate_left 1
         · have c3 := cell_at (HCA.out W hW) 3; have c4 := cell_at (HCA.out W hW) 4; have c5 := cell_at (HCA.out W hW) 5; have c6 := cell_at (HCA.out W hW) 6; have c7 := cell_at (HCA.out W hW) 7; have c8 := cell_at (HCA.out W hW) 8; have c9 := cell_at (HCA.out W hW) 9; have c10 := cell_at (HCA.out W hW) 10; have c11 := cell_at (HCA.out W hW) 11; go_simp <;> with_reducible rfl
         simp only [puts]
         refine flow_call (.bool true) rfl (by kernel_rfl) (by rfl) (by kernel_rfl) (fun W hW => ⟨_, _, _, by go_simp, (HHa.out W).mono fun e w' ⟨he, hb⟩ => ⟨he, hW.trans (hb.mono hW.size)⟩⟩) ?_
         simp only [puts]
         refine flow_call (.bool false) rfl (by kernel_rfl) (by rfl) (by kernel_rfl) (fun W hW => ⟨_, _, _, by go_simp, (HMA.out W hW.1).mono fun e w' ⟨he, hb⟩ => ⟨he, ⟨hW.1.trans (hb.mono hW.1.size), trivial⟩⟩⟩) ?_
         simp only [puts]
         iterate 2
          refine flow_val ?_ rfl (by kernel_rfl) (by rfl) (fun W hW => ?_) ?_
          rotate_left 1
          · go_simp <;> with_reducible rfl
          simp only [puts]
         iterate 10
          refine flow_off rfl (by kernel_rfl) (by rfl) ?_
          simp only [puts]
         refine flow_val ?_ rfl (by kernel_rfl) (by rfl) (fun W hW => ?_) ?_
         rotate_left 1
         · go_simp <;> with_reducible rfl
         simp only [puts]
         refine flow_done ?_
         intro W hW
         have HB20 := Lib.hid (hW.1.1)
         clear hW
         obtain ⟨w20, hw⟩ : ∃ w20, w20 = W := ⟨_, rfl⟩
         subst hw
         go_wp2
         go_ret
         exact ⟨ret_bool HM.out.symm, HKB.out.trans (HB20.out.mono HKB.out.size)⟩
        case true =>
         go_wp2_with fail
         refine wp_region_flow (fun W => Below W2.heap.size W2 W) [0, 2, 3, 1, 4, 5, 6, 7, 8, 9, 10, 11, 12, 13, 14, 15, 16, 17] (by kernel_rfl) (by kernel_rfl) (by kernel_rfl) (HB6.out.drew) ?_
         iterate 2
          refine flow_val ?_ rfl (by kernel_rfl) (by rfl) (fun W hW => ?_) ?_
          rotate_left 1
          · go_simp <;> with_reducible rfl
          simp only [puts]
         refine flow_val ?_ rfl (by kernel_rfl) (by rfl) (fun W hW => ?_) ?_
         rotate_left 1
         · have c3 := cell_at (HCA.out W hW) 3; have c4 := cell_at (HCA.out W hW) 4; have c5 := cell_at (HCA.out W hW) 5; have c6 := cell_at (HCA.out W hW) 6; have c7 := cell_at (HCA.out W hW) 7; have c8 := cell_at (HCA.out W hW) 8; have c9 := cell_at (HCA.out W hW) 9; have c10 := cell_at (HCA.out W hW) 10; have c11 := cell_at (HCA.out W hW) 11; go_simp <;> with_reducible rfl
         simp only [puts]
         refine flow_call (.bool true) rfl (by kernel_rfl) (by rfl) (by kernel_rfl) (fun W hW => ⟨_, _, _, by go_simp, (HHa.out W).mono fun e w' ⟨he, hb⟩ => ⟨he, hW.trans (hb.mono hW.size)⟩⟩) ?_
         simp only [puts]
         refine flow_call (.bool true) rfl (by kernel_rfl) (by rfl) (by kernel_rfl) (fun W hW => ⟨_, _, _, by go_simp, (HMA.out W hW.1).mono fun e w' ⟨he, hb⟩ => ⟨he, ⟨hW.1.trans (hb.mono hW.1.size), trivial⟩⟩⟩) ?_
         simp only [puts]
         iterate 3
          refine flow_val ?_ rfl (by kernel_rfl) (by rfl) (fun W hW => ?_) ?_
          rotate_left 1
          · go_simp <;> with_reducible rfl
          simp only [puts]
         refine flow_call (.bool true) rfl (by kernel_rfl) (by rfl) (by kernel_rfl) (fun W hW => ⟨_, _, _, by go_simp, (HHa.out W).mono fun e w' ⟨he, hb⟩ => ⟨he, ⟨⟨hW.1.1.trans (hb.mono hW.1.1.size), trivial⟩, trivial⟩⟩⟩) ?_
         simp only [puts]
         iterate 2
          refine flow_val ?_ rfl (by kernel_rfl) (by rfl) (fun W hW => ?_) ?_
          rotate_left 1
          · go_simp <;> with_reducible rfl
          simp only [puts]
         iterate 5
          refine flow_off rfl (by kernel_rfl) (by rfl) ?_
          simp only [puts]
         iterate 2
          refine flow_val ?_ rfl (by kernel_rfl) (by rfl) (fun W hW => ?_) ?_
          rotate_left 1
          · go_simp <;> with_reducible rfl
          simp only [puts]
         refine flow_done ?_
         intro W hW
         have HB20 := Lib.hid (hW.1.1.1)
         clear hW
         obtain ⟨w20, hw⟩ : ∃ w20, w20 = W := ⟨_, rfl⟩
         subst hw
         go_wp2_with fail
         refine (HHy.out w20).mono ?_
         rintro e w21 ⟨rfl, hb⟩
         have HB21 := Lib.hid (HB20.out.trans (hb.mono HB20.out.size))
         clear hb
         have c12 := cell_at (HCA.out w21 HB21.out) 12
         have c13 := cell_at (HCA.out w21 HB21.out) 13
         have c14 := cell_at (HCA.out w21 HB21.out) 14
         have c15 := cell_at (HCA.out w21 HB21.out) 15
         cases BY
         case false =>
          cases F1
          case false =>
           go_wp2
           go_ret
           exact ⟨ret_bool HM.out.symm, HKB.out.trans (HB21.out.mono HKB.out.size)⟩
          cases F2
          case false =>
           go_wp2
           go_ret
           exact ⟨ret_bool HM.out.symm, HKB.out.trans (HB21.out.mono HKB.out.size)⟩
          cases F3
          case false =>
           go_wp2
           go_ret
           exact ⟨ret_bool HM.out.symm, HKB.out.trans (HB21.out.mono HKB.out.size)⟩
          cases F4
          case false =>
           go_wp2
           go_ret
           exact ⟨ret_bool HM.out.symm, HKB.out.trans (HB21.out.mono HKB.out.size)⟩
          go_wp2
          go_ret
          exact ⟨ret_bool HM.out.symm, HKB.out.trans (HB21.out.mono HKB.out.size)⟩
         case true =>
          go_wp2_with fail
          refine (HYM.out w21).mono ?_
          rintro e _ ⟨rfl, rfl⟩
          cases YM
          case false =>
           go_wp2
           go_ret
           exact ⟨ret_bool HM.out.symm, HKB.out.trans (HB21.out.mono HKB.out.size)⟩
          case true =>
           cases D1
           case false =>
            go_wp2
            go_ret
            exact ⟨ret_bool HM.out.symm, HKB.out.trans (HB21.out.mono HKB.out.size)⟩
           case true =>
            cases D2
            case false =>
             go_wp2
             go_ret
             exact ⟨ret_bool HM.out.symm, HKB.out.trans (HB21.out.mono HKB.out.size)⟩
            case true =>
             go_wp2
             go_ret
             exact ⟨ret_bool HM.out.symm, HKB.out.trans (HB21.out.mono HKB.out.size)⟩
      case true =>
       go_wp2
       go_ret
       exact ⟨ret_bool HM.out.symm, HKB.out.trans (HB6.out.mono HKB.out.size)⟩
     case true =>
      cases BA
      case false =>
       cases MA
       case false =>
        cases EA
        case false =>
         go_wp2_with fail
         refine wp_region_flow (fun W => Below W2.heap.size W2 W) [0, 2, 3, 1, 4, 5, 6, 7, 8, 9, 10, 11, 12, 13, 14, 15, 16, 17] (by kernel_rfl) (by kernel_rfl) (by kernel_rfl) (HB6.out.drew) ?_
         iterate 2
          refine flow_val ?_ rfl (by kernel_rfl) (by rfl) (fun W hW => ?_) ?_
          rotate_left 1
          · go_simp <;> with_reducible rfl
          simp only [puts]
         refine flow_val ?_ rfl (by kernel_rfl) (by rfl) (fun W hW => ?_) ?_
         rotate_left 1
         · have c3 := cell_at (HCA.out W hW) 3; have c4 := cell_at (HCA.out W hW) 4; have c5 := cell_at (HCA.out W hW) 5; have c6 := cell_at (HCA.out W hW) 6; have c7 := cell_at (HCA.out W hW) 7; have c8 := cell_at (HCA.out W hW) 8; have c9 := cell_at (HCA.out W hW) 9; have c10 := cell_at (HCA.out W hW) 10; have c11 := cell_at (HCA.out W hW) 11; go_simp <;> with_reducible rfl
         simp only [puts]
         refine flow_call (.bool false) rfl (by kernel_rfl) (by rfl) (by kernel_rfl) (fun W hW => ⟨_, _, _, by go_simp, (HHa.out W).mono fun e w' ⟨he, hb⟩ => ⟨he, hW.trans (hb.mono hW.size)⟩⟩) ?_
         simp only [puts]
         refine flow_call (.bool false) rfl (by kernel_rfl) (by rfl) (by kernel_rfl) (fun W hW => ⟨_, _, _, by go_simp, (HMA.out W hW.1).mono fun e w' ⟨he, hb⟩ => ⟨he, ⟨hW.1.trans (hb.mono hW.1.size), trivial⟩⟩⟩) ?_
         simp only [puts]
         iterate 3
          refine flow_val ?_ rfl (by kernel_rfl) (by rfl) (fun W hW => ?_) ?_
          rotate_left 1
          · go_simp <;> with_reducible rfl
          simp only [puts]
         refine flow_call (.bool false) rfl (by kernel_rfl) (by rfl) (by kernel_rfl) (fun W hW => ⟨_, _, _, by go_simp, (HHa.out W).mono fun e w' ⟨he, hb⟩ => ⟨he, ⟨⟨hW.1.1.trans (hb.mono hW.1.1.size), trivial⟩, trivial⟩⟩⟩) ?_
         simp only [puts]
         iterate 3
          refine flow_val ?_ rfl (by kernel_rfl) (by rfl) (fun W hW => ?_) ?_
          rotate_left 1
          · go_simp <;> with_reducible rfl
          simp only [puts]
         refine flow_val ?_ rfl (by kernel_rfl) (by rfl) (fun W hW => ?_) ?_
         rotate_left 1
         · have c3 := cell_at (HCA.out W hW.1.1.1) 3; have c4 := cell_at (HCA.out W hW.1.1.1) 4; have c5 := cell_at (HCA.out W hW.1.1.1) 5; have c6 := cell_at (HCA.out W hW.1.1.1) 6; have c7 := cell_at (HCA.out W hW.1.1.1) 7; have c8 := cell_at (HCA.out W hW.1.1.1) 8; have c9 := cell_at (HCA.out W hW.1.1.1) 9; have c10 := cell_at (HCA.out W hW.1.1.1) 10; have c11 := cell_at (HCA.out W hW.1.1.1) 11; go_simp <;> with_reducible rfl
         simp only [puts]
         refine flow_val ?_ rfl (by kernel_rfl) (by rfl) (fun W hW => ?_) ?_
         rotate_left 1
         · go_simp <;> with_reducible rfl
         simp only [puts]
         refine flow_call (.bool false) rfl (by kernel_rfl) (by rfl) (by kernel_rfl) (fun W hW => ⟨_, _, _, by go_simp, (HEA.out W hW.1.1.1).mono fun e w' ⟨he, hb⟩ => ⟨he, ⟨⟨⟨hW.1.1.1.trans (hb.mono hW.1.1.1.size), trivial⟩, trivial⟩, trivial⟩⟩⟩) ?_
         simp only [puts]
         iterate 3
          refine flow_val ?_ rfl (by kernel_rfl) (by rfl) (fun W hW => ?_) ?_
          rotate_left 1
          · go_simp <;> with_reducible rfl
          simp only [puts]
         refine flow_done ?_
         intro W hW
         have HB20 := Lib.hid (hW.1.1.1.1)
         clear hW
         obtain ⟨w20, hw⟩ : ∃ w20, w20 = W := ⟨_, rfl⟩
         subst hw
         go_wp2
         go_ret
         exact ⟨ret_bool HM.out.symm, HKB.out.trans (HB20.out.mono HKB.out.size)⟩
        case true =>
         go_wp2_with fail
         refine wp_region_flow (fun W => Below W2.heap.size W2 W) [0, 2, 3, 1, 4, 5, 6, 7, 8, 9, 10, 11, 12, 13, 14, 15, 16, 17] (by kernel_rfl) (by kernel_rfl) (by kernel_rfl) (HB6.out.drew) ?_
         iterate 2
          refine flow_val ?_ rfl (by kernel_rfl) (by rfl) (fun W hW => ?_) ?_
          rotate_left 1
          · go_simp <;> with_reducible rfl
          simp only [puts]
         refine flow_val ?_ rfl (by kernel_rfl) (by rfl) (fun W hW => ?_) ?_
         rotate_left 1
         · have c3 := cell_at (HCA.out W hW) 3; have c4 := cell_at (HCA.out W hW) 4; have c5 := cell_at (HCA.out W hW) 5; have c6 := cell_at (HCA.out W hW) 6; have c7 := cell_at (HCA.out W hW) 7; have c8 := cell_at (HCA.out W hW) 8; have c9 := cell_at (HCA.out W hW) 9; have c10 := cell_at (HCA.out W hW) 10; have c11 := cell_at (HCA.out W hW) 11; go_simp <;> with_reducible rfl
         simp only [puts]
         refine flow_call (.bool false) rfl (by kernel_rfl) (by rfl) (by kernel_rfl) (fun W hW => ⟨_, _, _, by go_simp, (HHa.out W).mono fun e w' ⟨he, hb⟩ => ⟨he, hW.trans (hb.mono hW.size)⟩⟩) ?_
         simp only [puts]
         refine flow_call (.bool false) rfl (by kernel_rfl) (by rfl) (by kernel_rfl) (fun W hW => ⟨_, _, _, by go_simp, (HMA.out W hW.1).mono fun e w' ⟨he, hb⟩ => ⟨he, ⟨hW.1.trans (hb.mono hW.1.size), trivial⟩⟩⟩) ?_
         simp only [puts]
         iterate 3
          refine flow_val ?_ rfl (by kernel_rfl) (by rfl) (fun W hW => ?_) ?_
          rotate_left 1
          · go_simp <;> with_reducible rfl
          simp only [puts]
         refine flow_call (.bool false) rfl (by kernel_rfl) (by rfl) (by kernel_rfl) (fun W hW => ⟨_, _, _, by go_simp, (HHa.out W).mono fun e w' ⟨he, hb⟩ => ⟨he, ⟨⟨hW.1.1.trans (hb.mono hW.1.1.size), trivial⟩, trivial⟩⟩⟩) ?_
         simp only [puts]
         iterate 3
          refine flow_val ?_ rfl (by kernel_rfl) (by rfl) (fun W hW => ?_) ?_
          rotate_left 1
          · go_simp <;> with_reducible rfl
          simp only [puts]
         refine flow_val ?_ rfl (by kernel_rfl) (by rfl) (fun W hW => ?_) ?_
         rotate_left 1
         · have c3 := cell_at (HCA.out W hW.1.1.1) 3; have c4 := cell_at (HCA.out W hW.1.1.1) 4; have c5 := cell_at (HCA.out W hW.1.1.1) 5; have c6 := cell_at (HCA.out W hW.1.1.1) 6; have c7 := cell_at (HCA.out W hW.1.1.1) 7; have c8 := cell_at (HCA.out W hW.1.1.1) 8; have c9 := cell_at (HCA.out W hW.1.1.1) 9; have c10 := cell_at (HCA.out W hW.1.1.1) 10; have c11 := cell_at (HCA.out W hW.1.1.1) 11; go_simp <;> with_reducible rfl
         simp only [puts]
         refine flow_val ?_ rfl (by kernel_rfl) (by rfl) (fun W hW => ?_) ?_
         rotate_left 1
         · go_simp <;> with_reducible rfl
         simp only [puts]
         refine flow_call (.bool true) rfl (by kernel_rfl) (by rfl) (by kernel_rfl) (fun W hW => ⟨_, _, _, by go_simp, (HEA.out W hW.1.1.1).mono fun e w' ⟨he, hb⟩ => ⟨he, ⟨⟨⟨hW.1.1.1.trans (hb.mono hW.1.1.1.size), trivial⟩, trivial⟩, trivial⟩⟩⟩) ?_
         simp only [puts]
         iterate 3
          refine flow_val ?_ rfl (by kernel_rfl) (by rfl) (fun W hW => ?_) ?_
          rotate_left 1
          · go_simp <;> with_reducible rfl
          simp only [puts]
         refine flow_done ?_
         intro W hW
         have HB20 := Lib.hid (hW.1.1.1.1)
         clear hW
         obtain ⟨w20, hw⟩ : ∃ w20, w20 = W := ⟨_, rfl⟩
         subst hw
         go_wp2_with fail
         refine (HHy.out w20).mono ?_
         rintro e w21 ⟨rfl, hb⟩
         have HB21 := Lib.hid (HB20.out.trans (hb.mono HB20.out.size))
         clear hb
         have c12 := cell_at (HCA.out w21 HB21.out) 12
         have c13 := cell_at (HCA.out w21 HB21.out) 13
         have c14 := cell_at (HCA.out w21 HB21.out) 14
         have c15 := cell_at (HCA.out w21 HB21.out) 15
         cases BY
         case false =>
          cases F1
          case false =>
           go_wp2
           go_ret
           exact ⟨ret_bool HM.out.symm, HKB.out.trans (HB21.out.mono HKB.out.size)⟩
          cases F2
          case false =>
           go_wp2
           go_ret
           exact ⟨ret_bool HM.out.symm, HKB.out.trans (HB21.out.mono HKB.out.size)⟩
          cases F3
          case false =>
           go_wp2
           go_ret
           exact ⟨ret_bool HM.out.symm, HKB.out.trans (HB21.out.mono HKB.out.size)⟩
          cases F4
          case false =>
           go_wp2
           go_ret
           exact ⟨ret_bool HM.out.symm, HKB.out.trans (HB21.out.mono HKB.out.size)⟩
          go_wp2
          go_ret
          exact ⟨ret_bool HM.out.symm, HKB.out.trans (HB21.out.mono HKB.out.size)⟩
         case true =>
          go_wp2_with fail
          refine (HYM.out w21).mono ?_
          rintro e _ ⟨rfl, rfl⟩
          cases YM
          case false =>
           go_wp2
           go_ret
           exact ⟨ret_bool HM.out.symm, HKB.out.trans (HB21.out.mono HKB.out.size)⟩
          case true =>
           cases D1
           case false =>
            go_wp2
            go_ret
            exact ⟨ret_bool HM.out.symm, HKB.out.trans (HB21.out.mono HKB.out.size)⟩
           case true =>
            cases D2
            case false =>
             go_wp2
             go_ret
             exact ⟨ret_bool HM.out.symm, HKB.out.trans (HB21.out.mono HKB.out.size)⟩
            case true =>
             go_wp2
             go_ret
             exact ⟨ret_bool HM.out.symm, HKB.out.trans (HB21.out.mono HKB.out.size)⟩
       case true =>
        go_wp2_with fail
        refine wp_region_flow (fun W => Below W2.heap.size W2 W) [0, 2, 3, 1, 4, 5, 6, 7, 8, 9, 10, 11, 12, 13, 14, 15, 16, 17] (by kernel_rfl) (by kernel_rfl) (by kernel_rfl) (HB6.out.drew) ?_
        iterate 2
         refine flow_val ?_ rfl (by kernel_rfl) (by rfl) (fun W hW => ?_) ?_
         rotate_left 1
         · go_simp <;> with_reducible rfl
         simp only [puts]
        refine flow_val ?_ rfl (by kernel_rfl) (by rfl) (fun W hW => ?_) ?_
        rotate_left 1
        · have c3 := cell_at (HCA.out W hW) 3; have c4 := cell_at (HCA.out W hW) 4; have c5 := cell_at (HCA.out W hW) 5; have c6 := cell_at (HCA.out W hW) 6; have c7 := cell_at (HCA.out W hW) 7; have c8 := cell_at (HCA.out W hW) 8; have c9 := cell_at (HCA.out W hW) 9; have c10 := cell_at (HCA.out W hW) 10; have c11 := cell_at (HCA.out W hW) 11; go_simp <;> with_reducible rfl
        simp only [puts]
        refine flow_call (.bool false) rfl (by kernel_rfl) (by rfl) (by kernel_rfl) (fun W hW => ⟨_, _, _, by go_simp, (HHa.out W).mono fun e w' ⟨he, hb⟩ => ⟨he, hW.trans (hb.mono hW.size)⟩⟩) ?_
        simp only [puts]
        refine flow_call (.bool true) rfl (by kernel_rfl) (by rfl) (by kernel_rfl) (fun W hW => ⟨_, _, _, by go_simp, (HMA.out W hW.1).mono fun e w' ⟨he, hb⟩ => ⟨he, ⟨hW.1.trans (hb.mono hW.1.size), trivial⟩⟩⟩) ?_
        simp only [puts]
        iterate 2
         refine flow_val ?_ rfl (by kernel_rfl) (by rfl) (fun W hW => ?_) ?_
         rotate_left 1
         · go_simp <;> with_reducible rfl
         simp only [puts]
        iterate 10
         refine flow_off rfl (by kernel_rfl) (by rfl) ?_
         simp only [puts]
        refine flow_val ?_ rfl (by kernel_rfl) (by rfl) (fun W hW => ?_) ?_
        rotate_left 1
        · go_simp <;> with_reducible rfl
        simp only [puts]
        refine flow_done ?_
        intro W hW
        have HB20 := Lib.hid (hW.1.1)
        clear hW
        obtain ⟨w20, hw⟩ : ∃ w20, w20 = W := ⟨_, rfl⟩
        subst hw
        go_wp2
        go_ret
        exact ⟨ret_bool HM.out.symm, HKB.out.trans (HB20.out.mono HKB.out.size)⟩
      case true =>
       cases MA
       case false =>
        go_wp2_with fail
        refine wp_region_flow (fun W => Below W2.heap.size W2 W) [0, 2, 3, 1, 4, 5, 6, 7, 8, 9, 10, 11, 12, 13, 14, 15, 16, 17] (by kernel_rfl) (by kernel_rfl) (by kernel_rfl) (HB6.out.drew) ?_
        iterate 2
         refine flow_val ?_ rfl (by kernel_rfl) (by rfl) (fun W hW => ?_) ?_
         rotate_left 1
         · go_simp <;> with_reducible rfl
         simp only [puts]
        refine flow_val ?_ rfl (by kernel_rfl) (by rfl) (fun W hW => ?_) ?_
        rotate_left 1
        · have c3 := cell_at (HCA.out W hW) 3; have c4 := cell_at (HCA.out W hW) 4; have c5 := cell_at (HCA.out W hW) 5; have c6 := cell_at (HCA.out W hW) 6; have c7 := cell_at (HCA.out W hW) 7; have c8 := cell_at (HCA.out W hW) 8; have c9 := cell_at (HCA.out W hW) 9; have c10 := cell_at (HCA.out W hW) 10; have c11 := cell_at (HCA.out W hW) 11; go_simp <;> with_reducible rfl
        simp only [puts]
        refine flow_call (.bool true) rfl (by kernel_rfl) (by rfl) (by kernel_rfl) (fun W hW => ⟨_, _, _, by go_simp, (HHa.out W).mono fun e w' ⟨he, hb⟩ => ⟨he, hW.trans (hb.mono hW.size)⟩⟩) ?_
        simp only [puts]
        refine flow_call (.bool false) rfl (by kernel_rfl) (by rfl) (by kernel_rfl) (fun W hW => ⟨_, _, _, by go_simp, (HMA.out W hW.1).mono fun e w' ⟨he, hb⟩ => ⟨he, ⟨hW.1.trans (hb.mono hW.1.size), trivial⟩⟩⟩) ?_
        simp only [puts]
        iterate 2
         refine flow_val ?_ rfl (by kernel_rfl) (by rfl) (fun W hW => ?_) ?_
         rotate_left 1
         · go_simp <;> with_reducible rfl
         simp only [puts]
        iterate 10
         refine flow_off rfl (by kernel_rfl) (by rfl) ?_
         simp only [puts]
        refine flow_val ?_ rfl (by kernel_rfl) (by rfl) (fun W hW => ?_) ?_
        rotate_left 1
        · go_simp <;> with_reducible rfl
        simp only [puts]
        refine flow_done ?_
        intro W hW
        have HB20 := Lib.hid (hW.1.1)
        clear hW
        obtain ⟨w20, hw⟩ : ∃ w20, w20 = W := ⟨_, rfl⟩
        subst hw
        go_wp2
        go_ret
        exact ⟨ret_bool HM.out.symm, HKB.out.trans (HB20.out.mono HKB.out.size)⟩
       case true =>
        go_wp2_with fail
        refine wp_region_flow (fun W => Below W2.heap.size W2 W) [0, 2, 3, 1, 4, 5, 6, 7, 8, 9, 10, 11, 12, 13, 14, 15, 16, 17] (by kernel_rfl) (by kernel_rfl) (by kernel_rfl) (HB6.out.drew) ?_
        iterate 2
         refine flow_val ?_ rfl (by kernel_rfl) (by rfl) (fun W hW => ?_) ?_
         rotate_left 1
         · go_simp <;> with_reducible rfl
         simp only [puts]
        refine flow_val ?_ rfl (by kernel_rfl) (by rfl) (fun W hW => ?_) ?_
        rotate_left 1
        · have c3 := cell_at (HCA.out W hW) 3; have c4 := cell_at (HCA.out W hW) 4; have c5 := cell_at (HCA.out W hW) 5; have c6 := cell_at (HCA.out W hW) 6; have c7 := cell_at (HCA.out W hW) 7; have c8 := cell_at (HCA.out W hW) 8; have c9 := cell_at (HCA.out W hW) 9; have c10 := cell_at (HCA.out W hW) 10; have c11 := cell_at (HCA.out W hW) 11; go_simp <;> with_reducible rfl
        simp only [puts]
        refine flow_call (.bool true) rfl (by kernel_rfl) (by rfl) (by kernel_rfl) (fun W hW => ⟨_, _, _, by go_simp, (HHa.out W).mono fun e w' ⟨he, hb⟩ => ⟨he, hW.trans (hb.mono hW.size)⟩⟩) ?_
        simp only [puts]
        refine flow_call (.bool true) rfl (by kernel_rfl) (by rfl) (by kernel_rfl) (fun W hW => ⟨_, _, _, by go_simp, (HMA.out W hW.1).mono fun e w' ⟨he, hb⟩ => ⟨he, ⟨hW.1.trans (hb.mono hW.1.size), trivial⟩⟩⟩) ?_
        simp only [puts]
        iterate 3
         refine flow_val ?_ rfl (by kernel_rfl) (by rfl) (fun W hW => ?_) ?_
         rotate_left 1
         · go_simp <;> with_reducible rfl
         simp only [puts]
        refine flow_call (.bool true) rfl (by kernel_rfl) (by rfl) (by kernel_rfl) (fun W hW => ⟨_, _, _, by go_simp, (HHa.out W).mono fun e w' ⟨he, hb⟩ => ⟨he, ⟨⟨hW.1.1.trans (hb.mono hW.1.1.size), trivial⟩, trivial⟩⟩⟩) ?_
        simp only [puts]
        iterate 2
         refine flow_val ?_ rfl (by kernel_rfl) (by rfl) (fun W hW => ?_) ?_
         rotate_left 1
         · go_simp <;> with_reducible rfl
         simp only [puts]
        iterate 5
         refine flow_off rfl (by kernel_rfl) (by rfl) ?_
         simp only [puts]
        iterate 2
         refine flow_val ?_ rfl (by kernel_rfl) (by rfl) (fun W hW => ?_) ?_
         rotate_left 1
         · go_simp <;> with_reducible rfl
         simp only [puts]
        refine flow_done ?_
        intro W hW
        have HB20 := Lib.hid (hW.1.1.1)
        clear hW
        obtain ⟨w20, hw⟩ : ∃ w20, w20 = W := ⟨_, rfl⟩
        subst hw
        go_wp2_with fail
        refine (HHy.out w20).mono ?_
        rintro e w21 ⟨rfl, hb⟩
        have HB21 := Lib.hid (HB20.out.trans (hb.mono HB20.out.size))
        clear hb
        have c12 := cell_at (HCA.out w21 HB21.out) 12
        have c13 := cell_at (HCA.out w21 HB21.out) 13
        have c14 := cell_at (HCA.out w21 HB21.out) 14
        have c15 := cell_at (HCA.out w21 HB21.out) 15
        cases BY
        case false =>
         cases F1
         case false =>
          go_wp2
          go_ret
          exact ⟨ret_bool HM.out.symm, HKB.out.trans (HB21.out.mono HKB.out.size)⟩
         cases F2
         case false =>
          go_wp2
          go_ret
          exact ⟨ret_bool HM.out.symm, HKB.out.trans (HB21.out.mono HKB.out.size)⟩
         cases F3
         case false =>
          go_wp2
          go_ret
          exact ⟨ret_bool HM.out.symm, HKB.out.trans (HB21.out.mono HKB.out.size)⟩
         cases F4
         case false =>
          go_wp2
          go_ret
          exact ⟨ret_bool HM.out.symm, HKB.out.trans (HB21.out.mono HKB.out.size)⟩
         go_wp2
         go_ret
         exact ⟨ret_bool HM.out.symm, HKB.out.trans (HB21.out.mono HKB.out.size)⟩
        case true =>
         go_wp2_with fail
         refine (HYM.out w21).mono ?_
         rintro e _ ⟨rfl, rfl⟩
         cases YM
         case false =>
          go_wp2
          go_ret
          exact ⟨ret_bool HM.out.symm, HKB.out.trans (HB21.out.mono HKB.out.size)⟩
         case true =>
          cases D1
          case false =>
           go_wp2
           go_ret
           exact ⟨ret_bool HM.out.symm, HKB.out.trans (HB21.out.mono HKB.out.size)⟩
          case true =>
           cases D2
           case false =>
            go_wp2
            go_ret
            exact ⟨ret_bool HM.out.symm, HKB.out.trans (HB21.out.mono HKB.out.size)⟩
           case true =>
            go_wp2
            go_ret
            exact ⟨ret_bool HM.out.symm, HKB.out.trans (HB21.out.mono HKB.out.size)⟩
   case true =>
    go_wp2
    go_ret
    exact ⟨ret_bool HM.out.symm, HKB.out.trans (HB3.out.mono HKB.out.size)⟩
  case true =>
   go_wp2
   go_ret
   exact ⟨ret_bool HM.out.symm, HKB.out.trans (HB3.out.mono HKB.out.size)⟩
end Go.Proofs.Ytpccbobomppdbaa
