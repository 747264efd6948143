/- The reference's May of a request: the other kinds, and all. -/
import Derived.Test.YtpccbobomppdbaaZR26
namespace Go.Proofs.Ytpccbobomppdbaa
open Go.RowKit

set_option maxRecDepth 100000 in
set_option maxHeartbeats 4000000 in
theorem xamay_k7 (client number kind order region to n : Int) (good : ByteArray) (items : List It) (A : Option Addr) (c : Nat) (w : World) (hk : fldA kind = [114, 110, 103]) (hr : Rd w 2 A items.length (items.flatMap encI)) (hb : BdL items) (hg : good.size ≤ 9223372036854775807) :
 Calls Try.prog 36 #[akV ⟨client, number, kind, order, region, to, n, good, items⟩ (.slice A items.length c)] w fun e W => e = .returned (.bool (mayA ⟨client, number, kind, order, region, to, n, good, items⟩)) ∧ Below w.heap.size w W := by
 obtain ⟨m, hm2⟩ : ∃ m, items.length = m := ⟨_, rfl⟩
 obtain ⟨CN, hCN⟩ : ∃ CN, (inB client 0 63 && inB number 1 4294967296) = CN := ⟨_, rfl⟩
 obtain ⟨L1, hL1⟩ : ∃ L1, decide (order < 1) = L1 := ⟨_, rfl⟩
 obtain ⟨L2, hL2⟩ : ∃ L2, decide (1099511627776 < order) = L2 := ⟨_, rfl⟩
 obtain ⟨Z1, hZ1⟩ : ∃ Z1, (order != 0) = Z1 := ⟨_, rfl⟩
 obtain ⟨RL, hRL⟩ : ∃ RL, decide (region < 0) = RL := ⟨_, rfl⟩
 obtain ⟨RG, hRG⟩ : ∃ RG, decide (7 < region) = RG := ⟨_, rfl⟩
 obtain ⟨RZ, hRZ⟩ : ∃ RZ, (region != 0) = RZ := ⟨_, rfl⟩
 obtain ⟨TL, hTL⟩ : ∃ TL, decide (to < 0) = TL := ⟨_, rfl⟩
 obtain ⟨TG, hTG⟩ : ∃ TG, decide (7 < to) = TG := ⟨_, rfl⟩
 obtain ⟨TZ, hTZ⟩ : ∃ TZ, (to != 0) = TZ := ⟨_, rfl⟩
 obtain ⟨TE, hTE⟩ : ∃ TE, (to == region) = TE := ⟨_, rfl⟩
 obtain ⟨G, hG⟩ : ∃ G, goodS good = G := ⟨_, rfl⟩
 obtain ⟨GZ, hGZ⟩ : ∃ GZ, (good.toList == []) = GZ := ⟨_, rfl⟩
 obtain ⟨MI, hMI⟩ : ∃ MI, mayI items = MI := ⟨_, rfl⟩
 obtain ⟨P0, hP0⟩ : ∃ P0, (n == 0) = P0 := ⟨_, rfl⟩
 obtain ⟨P1, hP1⟩ : ∃ P1, (n == 1) = P1 := ⟨_, rfl⟩
 obtain ⟨Q1, hQ1⟩ : ∃ Q1, decide (1 ≤ n) = Q1 := ⟨_, rfl⟩
 obtain ⟨Q2, hQ2⟩ : ∃ Q2, decide (n ≤ 4294967297) = Q2 := ⟨_, rfl⟩
 obtain ⟨IE, hIE⟩ : ∃ IE, (m == 0) = IE := ⟨_, rfl⟩
 obtain ⟨LP, hLP⟩ : ∃ LP, decide (0 < m) = LP := ⟨_, rfl⟩
 have hIE2 : ((m : Int) == 0) = IE := by rw [← hIE]; exact decide_eq_decide.2 (by omega)
 have hLP2 : decide ((0 : Int) < (m : Int)) = LP := by rw [← hLP]; exact decide_eq_decide.2 (by omega)
 have hkk : kind = 7 := fldA_k7 hk
 have HMA : Hid (mayA ⟨client, number, kind, order, region, to, n, good, items⟩ = (CN && (!Z1 && ((!RL && (!RG && (!TL && (!TG && (!TZ))))) && (G && ((!LP && MI) && mayC n)))))) := Lib.hid (by
  refine (mayA_parts _ (by rw [hk]; rfl)).trans ?_
  simp only
  rw [hCN]
  congr 1
  rw [right_off (by unfold hasF; rw [hk]; rfl), right_on (by unfold hasF; rw [hk]; rfl), right_off (by unfold hasF; rw [hk]; rfl), right_on (by unfold hasF; rw [hk]; rfl), right_off (by unfold hasF; rw [hk]; rfl)]
  rw [z_neg order, hZ1, in_neg region 0 7, hRL, hRG, z_all to, hTL, hTG, hTZ, hG, items_off items, hm2, hLP, hMI, mayN7 (by omega : kind = 7)]
  generalize mayC n = MC
  cases RL <;> cases RG <;> cases TL <;> cases TG <;> cases TZ <;> rfl)
 have HS : Hid (∀ W, Calls Try.prog 67 #[.int .i64 kind] W fun e W' => e = .returned (.string ⟨#[114, 110, 103]⟩) ∧ Below W.heap.size W W') := Lib.hid (fun W => (show hasA kind = ⟨#[114, 110, 103]⟩ by unfold hasA; rw [hk]; rfl) ▸ xhas_any kind W)
 have HHo : Hid (∀ W, Calls Try.prog 68 #[.int .i64 kind, .int .u8 111] W fun e W' => e = .returned (.bool false) ∧ Below W.heap.size W W') := Lib.hid (fun W => (show hasF kind 111 = false by unfold hasF; rw [hk]; rfl) ▸ xhasf_any kind 111 W)
 have HHr : Hid (∀ W, Calls Try.prog 68 #[.int .i64 kind, .int .u8 114] W fun e W' => e = .returned (.bool true) ∧ Below W.heap.size W W') := Lib.hid (fun W => (show hasF kind 114 = true by unfold hasF; rw [hk]; rfl) ▸ xhasf_any kind 114 W)
 have HHt : Hid (∀ W, Calls Try.prog 68 #[.int .i64 kind, .int .u8 116] W fun e W' => e = .returned (.bool false) ∧ Below W.heap.size W W') := Lib.hid (fun W => (show hasF kind 116 = false by unfold hasF; rw [hk]; rfl) ▸ xhasf_any kind 116 W)
 have HHg : Hid (∀ W, Calls Try.prog 68 #[.int .i64 kind, .int .u8 103] W fun e W' => e = .returned (.bool true) ∧ Below W.heap.size W W') := Lib.hid (fun W => (show hasF kind 103 = true by unfold hasF; rw [hk]; rfl) ▸ xhasf_any kind 103 W)
 have HHi : Hid (∀ W, Calls Try.prog 68 #[.int .i64 kind, .int .u8 105] W fun e W' => e = .returned (.bool false) ∧ Below W.heap.size W W') := Lib.hid (fun W => (show hasF kind 105 = false by unfold hasF; rw [hk]; rfl) ▸ xhasf_any kind 105 W)
 have HCN : Hid (∀ W, Calls Try.prog 37 #[.int .i64 client, .int .i64 number] W fun e W' => e = .returned (.bool CN) ∧ W = W') := Lib.hid (fun W => hCN ▸ xmay9_any client number W)
 have HG : Hid (∀ W, Calls Try.prog 65 #[.string good] W fun e W' => e = .returned (.bool G) ∧ W = W') := Lib.hid (fun W => hG ▸ xgood_any good W hg)
 have HGZ := Lib.hid hGZ
 have HMI : Hid (∀ W, Below w.heap.size w W → Calls Try.prog 35 #[.slice A m c] W fun e W' => e = .returned (.bool MI) ∧ Below W.heap.size W W') := Lib.hid (fun W hW => hm2 ▸ hMI ▸ xmayI_any A c items W (hr.below hW) hb.1 hb.2)
 rw [hm2]
 clear hr hb hg hm2 hCN hG hGZ hMI hk
 have k0 := block_new w (.cells #[.int .i64 client, .int .i64 number, .int .i64 kind, .int .i64 order, .int .i64 region, .int .i64 to, .int .i64 n, .string good, .slice A m c] 24)
 have kb := (Below.refl _ w).alloc (Nat.le_refl _) (.cells #[.int .i64 client, .int .i64 number, .int .i64 kind, .int .i64 order, .int .i64 region, .int .i64 to, .int .i64 n, .string good, .slice A m c] 24)
 obtain ⟨W2, hW2⟩ : ∃ W2, w.alloc (.cells #[.int .i64 client, .int .i64 number, .int .i64 kind, .int .i64 order, .int .i64 region, .int .i64 to, .int .i64 n, .string good, .slice A m c] 24) = W2 := ⟨_, rfl⟩
 rw [hW2] at k0 kb
 have HKB := Lib.hid kb
 have HWW := Lib.hid hW2
 have HCA : Hid (∀ W, Below W2.heap.size W2 W → W.heap[w.heap.size]? = some (.cells #[.int .i64 client, .int .i64 number, .int .i64 kind, .int .i64 order, .int .i64 region, .int .i64 to, .int .i64 n, .string good, .slice A m c] 24 (0, 0))) := Lib.hid (fun W hW => (hW.block _ (lt_of_block k0)).trans k0)
 have HC0 : Hid (∀ W, Below W2.heap.size W2 W → W.cell? ⟨w.heap.size, 0, none⟩ = some (.int .i64 client)) := Lib.hid (fun W hW => cell_at (HCA.out W hW) 0)
 have HC1 : Hid (∀ W, Below W2.heap.size W2 W → W.cell? ⟨w.heap.size, 1, none⟩ = some (.int .i64 number)) := Lib.hid (fun W hW => cell_at (HCA.out W hW) 1)
 have HC2 : Hid (∀ W, Below W2.heap.size W2 W → W.cell? ⟨w.heap.size, 2, none⟩ = some (.int .i64 kind)) := Lib.hid (fun W hW => cell_at (HCA.out W hW) 2)
 have HC3 : Hid (∀ W, Below W2.heap.size W2 W → W.cell? ⟨w.heap.size, 3, none⟩ = some (.int .i64 order)) := Lib.hid (fun W hW => cell_at (HCA.out W hW) 3)
 have HC4 : Hid (∀ W, Below W2.heap.size W2 W → W.cell? ⟨w.heap.size, 4, none⟩ = some (.int .i64 region)) := Lib.hid (fun W hW => cell_at (HCA.out W hW) 4)
 have HC5 : Hid (∀ W, Below W2.heap.size W2 W → W.cell? ⟨w.heap.size, 5, none⟩ = some (.int .i64 to)) := Lib.hid (fun W hW => cell_at (HCA.out W hW) 5)
 have HC6 : Hid (∀ W, Below W2.heap.size W2 W → W.cell? ⟨w.heap.size, 6, none⟩ = some (.int .i64 n)) := Lib.hid (fun W hW => cell_at (HCA.out W hW) 6)
 have HC7 : Hid (∀ W, Below W2.heap.size W2 W → W.cell? ⟨w.heap.size, 7, none⟩ = some (.string good)) := Lib.hid (fun W hW => cell_at (HCA.out W hW) 7)
 have HC8 : Hid (∀ W, Below W2.heap.size W2 W → W.cell? ⟨w.heap.size, 8, none⟩ = some (.slice A m c)) := Lib.hid (fun W hW => cell_at (HCA.out W hW) 8)
 replace HMI : Hid (∀ W, Below W2.heap.size W2 W → Calls Try.prog 35 #[.slice A m c] W fun e W' => e = .returned (.bool MI) ∧ Below W.heap.size W W') := Lib.hid (fun W hW => HMI.out W (kb.trans (hW.mono kb.size)))
 clear k0 kb hW2
 subst hkk
 go_enter Try.func36, Try.ntmps36
 go_wp2_with fail
 rw [HWW.out]
 refine (HS.out W2).mono ?_
 rintro e w3 ⟨rfl, hb⟩
 have HB3 := Lib.hid hb
 clear hb
 have c0 := HC0.out w3 HB3.out
 have c1 := HC1.out w3 HB3.out
 have c2 := HC2.out w3 HB3.out
 have c3 := HC3.out w3 HB3.out
 have c4 := HC4.out w3 HB3.out
 have c5 := HC5.out w3 HB3.out
 have c6 := HC6.out w3 HB3.out
 have c7 := HC7.out w3 HB3.out
 have c8 := HC8.out w3 HB3.out
 go_wp2_with fail
 refine (HCN.out w3).mono ?_
 rintro e w4 ⟨rfl, rfl⟩
 cases CN
 case false =>
  go_wp2
  go_ret
  exact ⟨ret_bool HMA.out.symm, HKB.out.trans (HB3.out.mono HKB.out.size)⟩
 case true =>
  go_wp2_with fail
  refine (HHo.out w3).mono ?_
  rintro e w4 ⟨rfl, hb⟩
  have HB4 := Lib.hid (HB3.out.trans (hb.mono HB3.out.size))
  clear hb c0 c1 c2 c3 c4 c5 c6 c7 c8
  have c0 := HC0.out w4 HB4.out
  have c1 := HC1.out w4 HB4.out
  have c2 := HC2.out w4 HB4.out
  have c3 := HC3.out w4 HB4.out
  have c4 := HC4.out w4 HB4.out
  have c5 := HC5.out w4 HB4.out
  have c6 := HC6.out w4 HB4.out
  have c7 := HC7.out w4 HB4.out
  have c8 := HC8.out w4 HB4.out
  go_wp2_with fail
  refine (HHo.out w4).mono ?_
  rintro e w5 ⟨rfl, hb⟩
  have HB5 := Lib.hid (HB4.out.trans (hb.mono HB4.out.size))
  clear hb c0 c1 c2 c3 c4 c5 c6 c7 c8
  have c0 := HC0.out w5 HB5.out
  have c1 := HC1.out w5 HB5.out
  have c2 := HC2.out w5 HB5.out
  have c3 := HC3.out w5 HB5.out
  have c4 := HC4.out w5 HB5.out
  have c5 := HC5.out w5 HB5.out
  have c6 := HC6.out w5 HB5.out
  have c7 := HC7.out w5 HB5.out
  have c8 := HC8.out w5 HB5.out
  cases Z1
  case true =>
   go_wp2
   go_ret
   exact ⟨ret_bool HMA.out.symm, HKB.out.trans (HB5.out.mono HKB.out.size)⟩
  case false =>
   cases RL
   case true =>
    go_wp2
    go_ret
    exact ⟨ret_bool HMA.out.symm, HKB.out.trans (HB5.out.mono HKB.out.size)⟩
   case false =>
    cases RG
    case true =>
     go_wp2
     go_ret
     exact ⟨ret_bool HMA.out.symm, HKB.out.trans (HB5.out.mono HKB.out.size)⟩
    case false =>
     cases TL
     case true =>
      go_wp2
      go_ret
      exact ⟨ret_bool HMA.out.symm, HKB.out.trans (HB5.out.mono HKB.out.size)⟩
     case false =>
      cases TG
      case true =>
       go_wp2
       go_ret
       exact ⟨ret_bool HMA.out.symm, HKB.out.trans (HB5.out.mono HKB.out.size)⟩
      case false =>
       go_wp2_with fail
       refine (HHr.out w5).mono ?_
       rintro e w6 ⟨rfl, hb⟩
       have HB6 := Lib.hid (HB5.out.trans (hb.mono HB5.out.size))
       clear hb c0 c1 c2 c3 c4 c5 c6 c7 c8
       have c0 := HC0.out w6 HB6.out
       have c1 := HC1.out w6 HB6.out
       have c2 := HC2.out w6 HB6.out
       have c3 := HC3.out w6 HB6.out
       have c4 := HC4.out w6 HB6.out
       have c5 := HC5.out w6 HB6.out
       have c6 := HC6.out w6 HB6.out
       have c7 := HC7.out w6 HB6.out
       have c8 := HC8.out w6 HB6.out
       go_wp2_with fail
       refine (HHt.out w6).mono ?_
       rintro e w7 ⟨rfl, hb⟩
       have HB7 := Lib.hid (HB6.out.trans (hb.mono HB6.out.size))
       clear hb c0 c1 c2 c3 c4 c5 c6 c7 c8
       have c0 := HC0.out w7 HB7.out
       have c1 := HC1.out w7 HB7.out
       have c2 := HC2.out w7 HB7.out
       have c3 := HC3.out w7 HB7.out
       have c4 := HC4.out w7 HB7.out
       have c5 := HC5.out w7 HB7.out
       have c6 := HC6.out w7 HB7.out
       have c7 := HC7.out w7 HB7.out
       have c8 := HC8.out w7 HB7.out
       cases TZ
       case true =>
        go_wp2
        go_ret
        exact ⟨ret_bool HMA.out.symm, HKB.out.trans (HB7.out.mono HKB.out.size)⟩
       case false =>
        go_wp2_with fail
        refine (HHt.out w7).mono ?_
        rintro e w8 ⟨rfl, hb⟩
        have HB8 := Lib.hid (HB7.out.trans (hb.mono HB7.out.size))
        clear hb c0 c1 c2 c3 c4 c5 c6 c7 c8
        have c0 := HC0.out w8 HB8.out
        have c1 := HC1.out w8 HB8.out
        have c2 := HC2.out w8 HB8.out
        have c3 := HC3.out w8 HB8.out
        have c4 := HC4.out w8 HB8.out
        have c5 := HC5.out w8 HB8.out
        have c6 := HC6.out w8 HB8.out
        have c7 := HC7.out w8 HB8.out
        have c8 := HC8.out w8 HB8.out
        cases G
        case false =>
         go_wp2_with fail
         clear c0 c1 c2 c3 c4 c5 c6 c7 c8
         refine wp_region_flow (fun W => Below W2.heap.size W2 W) [0, 2, 3, 1, 4, 5, 6, 7, 8, 9, 10, 11, 12, 13, 14, 15] (by kernel_rfl) (by kernel_rfl) (by kernel_rfl) (HB8.out.drew) ?_
         iterate 2
          refine flow_val ?_ rfl (by kernel_rfl) (by rfl) (fun W hW => ?_) ?_
          rotate_left 1
          · go_simp <;> with_reducible rfl
          simp only [puts]
         refine flow_val ?_ rfl (by kernel_rfl) (by rfl) (fun W hW => ?_) ?_
         rotate_left 1
         · have c7 := HC7.out W hW; go_simp <;> with_reducible rfl
         simp only [puts]
         refine flow_call (.bool true) rfl (by kernel_rfl) (by rfl) (by kernel_rfl) (fun W hW => ⟨_, _, _, by go_simp, (HHg.out W).mono fun e w' ⟨he, hb⟩ => ⟨he, hW.trans (hb.mono hW.size)⟩⟩) ?_
         simp only [puts]
         refine flow_quiet (.bool false) rfl (by kernel_rfl) (by rfl) (fun W hW => ⟨_, _, by go_simp, HG.out W⟩) ?_
         simp only [puts]
         iterate 2
          refine flow_val ?_ rfl (by kernel_rfl) (by rfl) (fun W hW => ?_) ?_
          rotate_left 1
          · go_simp <;> with_reducible rfl
          simp only [puts]
         iterate 8
          refine flow_off rfl (by kernel_rfl) (by rfl) ?_
          simp only [puts]
         refine flow_val ?_ rfl (by kernel_rfl) (by rfl) (fun W hW => ?_) ?_
         rotate_left 1
         · go_simp <;> with_reducible rfl
         simp only [puts]
         refine flow_done ?_
         intro W hW
         have HB9 := Lib.hid (hW.1)
         clear hW
         go_wp2
         go_ret
         exact ⟨ret_bool HMA.out.symm, HKB.out.trans (HB9.out.mono HKB.out.size)⟩
        case true =>
         go_wp2_with fail
         clear c0 c1 c2 c3 c4 c5 c6 c7 c8
         refine wp_region_flow (fun W => Below W2.heap.size W2 W) [0, 2, 3, 1, 4, 5, 6, 7, 8, 9, 10, 11, 12, 13, 14, 15] (by kernel_rfl) (by kernel_rfl) (by kernel_rfl) (HB8.out.drew) ?_
         iterate 2
          refine flow_val ?_ rfl (by kernel_rfl) (by rfl) (fun W hW => ?_) ?_
          rotate_left 1
          · go_simp <;> with_reducible rfl
          simp only [puts]
         refine flow_val ?_ rfl (by kernel_rfl) (by rfl) (fun W hW => ?_) ?_
         rotate_left 1
         · have c7 := HC7.out W hW; go_simp <;> with_reducible rfl
         simp only [puts]
         refine flow_call (.bool true) rfl (by kernel_rfl) (by rfl) (by kernel_rfl) (fun W hW => ⟨_, _, _, by go_simp, (HHg.out W).mono fun e w' ⟨he, hb⟩ => ⟨he, hW.trans (hb.mono hW.size)⟩⟩) ?_
         simp only [puts]
         refine flow_quiet (.bool true) rfl (by kernel_rfl) (by rfl) (fun W hW => ⟨_, _, by go_simp, HG.out W⟩) ?_
         simp only [puts]
         iterate 3
          refine flow_val ?_ rfl (by kernel_rfl) (by rfl) (fun W hW => ?_) ?_
          rotate_left 1
          · go_simp <;> with_reducible rfl
          simp only [puts]
         refine flow_call (.bool true) rfl (by kernel_rfl) (by rfl) (by kernel_rfl) (fun W hW => ⟨_, _, _, by go_simp, (HHg.out W).mono fun e w' ⟨he, hb⟩ => ⟨he, ⟨hW.1.trans (hb.mono hW.1.size), trivial⟩⟩⟩) ?_
         simp only [puts]
         iterate 2
          refine flow_val ?_ rfl (by kernel_rfl) (by rfl) (fun W hW => ?_) ?_
          rotate_left 1
          · go_simp <;> with_reducible rfl
          simp only [puts]
         iterate 3
          refine flow_off rfl (by kernel_rfl) (by rfl) ?_
          simp only [puts]
         iterate 2
          refine flow_val ?_ rfl (by kernel_rfl) (by rfl) (fun W hW => ?_) ?_
          rotate_left 1
          · go_simp <;> with_reducible rfl
          simp only [puts]
         refine flow_done ?_
         intro W hW
         have HB9 := Lib.hid (hW.1.1)
         clear hW
         obtain ⟨w9, hw⟩ : ∃ w9, w9 = W := ⟨_, rfl⟩
         subst hw
         have c0 := HC0.out w9 HB9.out
         have c1 := HC1.out w9 HB9.out
         have c2 := HC2.out w9 HB9.out
         have c3 := HC3.out w9 HB9.out
         have c4 := HC4.out w9 HB9.out
         have c5 := HC5.out w9 HB9.out
         have c6 := HC6.out w9 HB9.out
         have c7 := HC7.out w9 HB9.out
         have c8 := HC8.out w9 HB9.out
         go_wp2_with fail
         refine (HHi.out w9).mono ?_
         rintro e w10 ⟨rfl, hb⟩
         have HB10 := Lib.hid (HB9.out.trans (hb.mono HB9.out.size))
         clear hb c0 c1 c2 c3 c4 c5 c6 c7 c8
         have c0 := HC0.out w10 HB10.out
         have c1 := HC1.out w10 HB10.out
         have c2 := HC2.out w10 HB10.out
         have c3 := HC3.out w10 HB10.out
         have c4 := HC4.out w10 HB10.out
         have c5 := HC5.out w10 HB10.out
         have c6 := HC6.out w10 HB10.out
         have c7 := HC7.out w10 HB10.out
         have c8 := HC8.out w10 HB10.out
         go_wp2_with fail
         refine (HHi.out w10).mono ?_
         rintro e w11 ⟨rfl, hb⟩
         have HB11 := Lib.hid (HB10.out.trans (hb.mono HB10.out.size))
         clear hb c0 c1 c2 c3 c4 c5 c6 c7 c8
         have c0 := HC0.out w11 HB11.out
         have c1 := HC1.out w11 HB11.out
         have c2 := HC2.out w11 HB11.out
         have c3 := HC3.out w11 HB11.out
         have c4 := HC4.out w11 HB11.out
         have c5 := HC5.out w11 HB11.out
         have c6 := HC6.out w11 HB11.out
         have c7 := HC7.out w11 HB11.out
         have c8 := HC8.out w11 HB11.out
         cases LP
         case true =>
          go_wp2
          go_ret
          exact ⟨ret_bool HMA.out.symm, HKB.out.trans (HB11.out.mono HKB.out.size)⟩
         case false =>
          go_wp2_with fail
          refine (HMI.out w11 HB11.out).mono ?_
          rintro e w12 ⟨rfl, hb⟩
          have HB12 := Lib.hid (HB11.out.trans (hb.mono HB11.out.size))
          clear hb c0 c1 c2 c3 c4 c5 c6 c7 c8
          have c0 := HC0.out w12 HB12.out
          have c1 := HC1.out w12 HB12.out
          have c2 := HC2.out w12 HB12.out
          have c3 := HC3.out w12 HB12.out
          have c4 := HC4.out w12 HB12.out
          have c5 := HC5.out w12 HB12.out
          have c6 := HC6.out w12 HB12.out
          have c7 := HC7.out w12 HB12.out
          have c8 := HC8.out w12 HB12.out
          cases MI
          case false =>
           go_wp2
           go_ret
           exact ⟨ret_bool HMA.out.symm, HKB.out.trans (HB12.out.mono HKB.out.size)⟩
          case true =>
           go_wp2_with fail
           refine (xcmay_any n _).mono ?_
           rintro e w99 ⟨rfl, rfl⟩
           go_wp2
           go_ret
           exact ⟨ret_bool HMA.out.symm, HKB.out.trans (HB12.out.mono HKB.out.size)⟩
set_option maxRecDepth 100000 in
set_option maxHeartbeats 4000000 in
theorem xamay_k10 (client number kind order region to n : Int) (good : ByteArray) (items : List It) (A : Option Addr) (c : Nat) (w : World) (hk : fldA kind = [114, 116, 105]) (hr : Rd w 2 A items.length (items.flatMap encI)) (hb : BdL items) (hg : good.size ≤ 9223372036854775807) :
 Calls Try.prog 36 #[akV ⟨client, number, kind, order, region, to, n, good, items⟩ (.slice A items.length c)] w fun e W => e = .returned (.bool (mayA ⟨client, number, kind, order, region, to, n, good, items⟩)) ∧ Below w.heap.size w W := by
 obtain ⟨m, hm2⟩ : ∃ m, items.length = m := ⟨_, rfl⟩
 obtain ⟨CN, hCN⟩ : ∃ CN, (inB client 0 63 && inB number 1 4294967296) = CN := ⟨_, rfl⟩
 obtain ⟨L1, hL1⟩ : ∃ L1, decide (order < 1) = L1 := ⟨_, rfl⟩
 obtain ⟨L2, hL2⟩ : ∃ L2, decide (1099511627776 < order) = L2 := ⟨_, rfl⟩
 obtain ⟨Z1, hZ1⟩ : ∃ Z1, (order != 0) = Z1 := ⟨_, rfl⟩
 obtain ⟨RL, hRL⟩ : ∃ RL, decide (region < 0) = RL := ⟨_, rfl⟩
 obtain ⟨RG, hRG⟩ : ∃ RG, decide (7 < region) = RG := ⟨_, rfl⟩
 obtain ⟨RZ, hRZ⟩ : ∃ RZ, (region != 0) = RZ := ⟨_, rfl⟩
 obtain ⟨TL, hTL⟩ : ∃ TL, decide (to < 0) = TL := ⟨_, rfl⟩
 obtain ⟨TG, hTG⟩ : ∃ TG, decide (7 < to) = TG := ⟨_, rfl⟩
 obtain ⟨TZ, hTZ⟩ : ∃ TZ, (to != 0) = TZ := ⟨_, rfl⟩
 obtain ⟨TE, hTE⟩ : ∃ TE, (to == region) = TE := ⟨_, rfl⟩
 obtain ⟨G, hG⟩ : ∃ G, goodS good = G := ⟨_, rfl⟩
 obtain ⟨GZ, hGZ⟩ : ∃ GZ, (good.toList == []) = GZ := ⟨_, rfl⟩
 obtain ⟨MI, hMI⟩ : ∃ MI, mayI items = MI := ⟨_, rfl⟩
 obtain ⟨P0, hP0⟩ : ∃ P0, (n == 0) = P0 := ⟨_, rfl⟩
 obtain ⟨P1, hP1⟩ : ∃ P1, (n == 1) = P1 := ⟨_, rfl⟩
 obtain ⟨Q1, hQ1⟩ : ∃ Q1, decide (1 ≤ n) = Q1 := ⟨_, rfl⟩
 obtain ⟨Q2, hQ2⟩ : ∃ Q2, decide (n ≤ 4294967297) = Q2 := ⟨_, rfl⟩
 obtain ⟨IE, hIE⟩ : ∃ IE, (m == 0) = IE := ⟨_, rfl⟩
 obtain ⟨LP, hLP⟩ : ∃ LP, decide (0 < m) = LP := ⟨_, rfl⟩
 have hIE2 : ((m : Int) == 0) = IE := by rw [← hIE]; exact decide_eq_decide.2 (by omega)
 have hLP2 : decide ((0 : Int) < (m : Int)) = LP := by rw [← hLP]; exact decide_eq_decide.2 (by omega)
 have hkk : kind = 10 := fldA_k10 hk
 have HMA : Hid (mayA ⟨client, number, kind, order, region, to, n, good, items⟩ = (CN && (!Z1 && ((!RL && (!RG && (!TL && (!TG && (!TE))))) && ((!G && GZ) && ((!IE && MI) && P0)))))) := Lib.hid (by
  refine (mayA_parts _ (by rw [hk]; rfl)).trans ?_
  simp only
  rw [hCN]
  congr 1
  rw [right_off (by unfold hasF; rw [hk]; rfl), right_on (by unfold hasF; rw [hk]; rfl), right_on (by unfold hasF; rw [hk]; rfl), right_off (by unfold hasF; rw [hk]; rfl), right_on (by unfold hasF; rw [hk]; rfl)]
  rw [z_neg order, hZ1, in_neg region 0 7, hRL, hRG, in_neg to 0 7, hTL, hTG, ne_neg to region, hTE, good_off good, hG, hGZ, items_on items, hm2, hIE, hMI, mayN0 (by omega) (by omega) (by omega), hP0]
  cases RL <;> cases RG <;> cases TL <;> cases TG <;> cases TE <;> rfl)
 have HS : Hid (∀ W, Calls Try.prog 67 #[.int .i64 kind] W fun e W' => e = .returned (.string ⟨#[114, 116, 105]⟩) ∧ Below W.heap.size W W') := Lib.hid (fun W => (show hasA kind = ⟨#[114, 116, 105]⟩ by unfold hasA; rw [hk]; rfl) ▸ xhas_any kind W)
 have HHo : Hid (∀ W, Calls Try.prog 68 #[.int .i64 kind, .int .u8 111] W fun e W' => e = .returned (.bool false) ∧ Below W.heap.size W W') := Lib.hid (fun W => (show hasF kind 111 = false by unfold hasF; rw [hk]; rfl) ▸ xhasf_any kind 111 W)
 have HHr : Hid (∀ W, Calls Try.prog 68 #[.int .i64 kind, .int .u8 114] W fun e W' => e = .returned (.bool true) ∧ Below W.heap.size W W') := Lib.hid (fun W => (show hasF kind 114 = true by unfold hasF; rw [hk]; rfl) ▸ xhasf_any kind 114 W)
 have HHt : Hid (∀ W, Calls Try.prog 68 #[.int .i64 kind, .int .u8 116] W fun e W' => e = .returned (.bool true) ∧ Below W.heap.size W W') := Lib.hid (fun W => (show hasF kind 116 = true by unfold hasF; rw [hk]; rfl) ▸ xhasf_any kind 116 W)
 have HHg : Hid (∀ W, Calls Try.prog 68 #[.int .i64 kind, .int .u8 103] W fun e W' => e = .returned (.bool false) ∧ Below W.heap.size W W') := Lib.hid (fun W => (show hasF kind 103 = false by unfold hasF; rw [hk]; rfl) ▸ xhasf_any kind 103 W)
 have HHi : Hid (∀ W, Calls Try.prog 68 #[.int .i64 kind, .int .u8 105] W fun e W' => e = .returned (.bool true) ∧ Below W.heap.size W W') := Lib.hid (fun W => (show hasF kind 105 = true by unfold hasF; rw [hk]; rfl) ▸ xhasf_any kind 105 W)
 have HCN : Hid (∀ W, Calls Try.prog 37 #[.int .i64 client, .int .i64 number] W fun e W' => e = .returned (.bool CN) ∧ W = W') := Lib.hid (fun W => hCN ▸ xmay9_any client number W)
 have HG : Hid (∀ W, Calls Try.prog 65 #[.string good] W fun e W' => e = .returned (.bool G) ∧ W = W') := Lib.hid (fun W => hG ▸ xgood_any good W hg)
 have HGZ := Lib.hid hGZ
 have HMI : Hid (∀ W, Below w.heap.size w W → Calls Try.prog 35 #[.slice A m c] W fun e W' => e = .returned (.bool MI) ∧ Below W.heap.size W W') := Lib.hid (fun W hW => hm2 ▸ hMI ▸ xmayI_any A c items W (hr.below hW) hb.1 hb.2)
 rw [hm2]
 clear hr hb hg hm2 hCN hG hGZ hMI hk
 have k0 := block_new w (.cells #[.int .i64 client, .int .i64 number, .int .i64 kind, .int .i64 order, .int .i64 region, .int .i64 to, .int .i64 n, .string good, .slice A m c] 24)
 have kb := (Below.refl _ w).alloc (Nat.le_refl _) (.cells #[.int .i64 client, .int .i64 number, .int .i64 kind, .int .i64 order, .int .i64 region, .int .i64 to, .int .i64 n, .string good, .slice A m c] 24)
 obtain ⟨W2, hW2⟩ : ∃ W2, w.alloc (.cells #[.int .i64 client, .int .i64 number, .int .i64 kind, .int .i64 order, .int .i64 region, .int .i64 to, .int .i64 n, .string good, .slice A m c] 24) = W2 := ⟨_, rfl⟩
 rw [hW2] at k0 kb
 have HKB := Lib.hid kb
 have HWW := Lib.hid hW2
 have HCA : Hid (∀ W, Below W2.heap.size W2 W → W.heap[w.heap.size]? = some (.cells #[.int .i64 client, .int .i64 number, .int .i64 kind, .int .i64 order, .int .i64 region, .int .i64 to, .int .i64 n, .string good, .slice A m c] 24 (0, 0))) := Lib.hid (fun W hW => (hW.block _ (lt_of_block k0)).trans k0)
 have HC0 : Hid (∀ W, Below W2.heap.size W2 W → W.cell? ⟨w.heap.size, 0, none⟩ = some (.int .i64 client)) := Lib.hid (fun W hW => cell_at (HCA.out W hW) 0)
 have HC1 : Hid (∀ W, Below W2.heap.size W2 W → W.cell? ⟨w.heap.size, 1, none⟩ = some (.int .i64 number)) := Lib.hid (fun W hW => cell_at (HCA.out W hW) 1)
 have HC2 : Hid (∀ W, Below W2.heap.size W2 W → W.cell? ⟨w.heap.size, 2, none⟩ = some (.int .i64 kind)) := Lib.hid (fun W hW => cell_at (HCA.out W hW) 2)
 have HC3 : Hid (∀ W, Below W2.heap.size W2 W → W.cell? ⟨w.heap.size, 3, none⟩ = some (.int .i64 order)) := Lib.hid (fun W hW => cell_at (HCA.out W hW) 3)
 have HC4 : Hid (∀ W, Below W2.heap.size W2 W → W.cell? ⟨w.heap.size, 4, none⟩ = some (.int .i64 region)) := Lib.hid (fun W hW => cell_at (HCA.out W hW) 4)
 have HC5 : Hid (∀ W, Below W2.heap.size W2 W → W.cell? ⟨w.heap.size, 5, none⟩ = some (.int .i64 to)) := Lib.hid (fun W hW => cell_at (HCA.out W hW) 5)
 have HC6 : Hid (∀ W, Below W2.heap.size W2 W → W.cell? ⟨w.heap.size, 6, none⟩ = some (.int .i64 n)) := Lib.hid (fun W hW => cell_at (HCA.out W hW) 6)
 have HC7 : Hid (∀ W, Below W2.heap.size W2 W → W.cell? ⟨w.heap.size, 7, none⟩ = some (.string good)) := Lib.hid (fun W hW => cell_at (HCA.out W hW) 7)
 have HC8 : Hid (∀ W, Below W2.heap.size W2 W → W.cell? ⟨w.heap.size, 8, none⟩ = some (.slice A m c)) := Lib.hid (fun W hW => cell_at (HCA.out W hW) 8)
 replace HMI : Hid (∀ W, Below W2.heap.size W2 W → Calls Try.prog 35 #[.slice A m c] W fun e W' => e = .returned (.bool MI) ∧ Below W.heap.size W W') := Lib.hid (fun W hW => HMI.out W (kb.trans (hW.mono kb.size)))
 clear k0 kb hW2
 have e1 : (kind == 1) = false := by simp; omega
 have e7 : (kind == 7) = false := by simp; omega
 have e11 : (kind == 11) = false := by simp; omega
 clear hkk
 go_enter Try.func36, Try.ntmps36
 go_wp2_with fail
 rw [HWW.out]
 refine (HS.out W2).mono ?_
 rintro e w3 ⟨rfl, hb⟩
 have HB3 := Lib.hid hb
 clear hb
 have c0 := HC0.out w3 HB3.out
 have c1 := HC1.out w3 HB3.out
 have c2 := HC2.out w3 HB3.out
 have c3 := HC3.out w3 HB3.out
 have c4 := HC4.out w3 HB3.out
 have c5 := HC5.out w3 HB3.out
 have c6 := HC6.out w3 HB3.out
 have c7 := HC7.out w3 HB3.out
 have c8 := HC8.out w3 HB3.out
 go_wp2_with fail
 refine (HCN.out w3).mono ?_
 rintro e w4 ⟨rfl, rfl⟩
 cases CN
 case false =>
  go_wp2
  go_ret
  exact ⟨ret_bool HMA.out.symm, HKB.out.trans (HB3.out.mono HKB.out.size)⟩
 case true =>
  go_wp2_with fail
  refine (HHo.out w3).mono ?_
  rintro e w4 ⟨rfl, hb⟩
  have HB4 := Lib.hid (HB3.out.trans (hb.mono HB3.out.size))
  clear hb c0 c1 c2 c3 c4 c5 c6 c7 c8
  have c0 := HC0.out w4 HB4.out
  have c1 := HC1.out w4 HB4.out
  have c2 := HC2.out w4 HB4.out
  have c3 := HC3.out w4 HB4.out
  have c4 := HC4.out w4 HB4.out
  have c5 := HC5.out w4 HB4.out
  have c6 := HC6.out w4 HB4.out
  have c7 := HC7.out w4 HB4.out
  have c8 := HC8.out w4 HB4.out
  go_wp2_with fail
  refine (HHo.out w4).mono ?_
  rintro e w5 ⟨rfl, hb⟩
  have HB5 := Lib.hid (HB4.out.trans (hb.mono HB4.out.size))
  clear hb c0 c1 c2 c3 c4 c5 c6 c7 c8
  have c0 := HC0.out w5 HB5.out
  have c1 := HC1.out w5 HB5.out
  have c2 := HC2.out w5 HB5.out
  have c3 := HC3.out w5 HB5.out
  have c4 := HC4.out w5 HB5.out
  have c5 := HC5.out w5 HB5.out
  have c6 := HC6.out w5 HB5.out
  have c7 := HC7.out w5 HB5.out
  have c8 := HC8.out w5 HB5.out
  cases Z1
  case true =>
   go_wp2
   go_ret
   exact ⟨ret_bool HMA.out.symm, HKB.out.trans (HB5.out.mono HKB.out.size)⟩
  case false =>
   cases RL
   case true =>
    go_wp2
    go_ret
    exact ⟨ret_bool HMA.out.symm, HKB.out.trans (HB5.out.mono HKB.out.size)⟩
   case false =>
    cases RG
    case true =>
     go_wp2
     go_ret
     exact ⟨ret_bool HMA.out.symm, HKB.out.trans (HB5.out.mono HKB.out.size)⟩
    case false =>
     cases TL
     case true =>
      go_wp2
      go_ret
      exact ⟨ret_bool HMA.out.symm, HKB.out.trans (HB5.out.mono HKB.out.size)⟩
     case false =>
      cases TG
      case true =>
       go_wp2
       go_ret
       exact ⟨ret_bool HMA.out.symm, HKB.out.trans (HB5.out.mono HKB.out.size)⟩
      case false =>
       go_wp2_with fail
       refine (HHr.out w5).mono ?_
       rintro e w6 ⟨rfl, hb⟩
       have HB6 := Lib.hid (HB5.out.trans (hb.mono HB5.out.size))
       clear hb c0 c1 c2 c3 c4 c5 c6 c7 c8
       have c0 := HC0.out w6 HB6.out
       have c1 := HC1.out w6 HB6.out
       have c2 := HC2.out w6 HB6.out
       have c3 := HC3.out w6 HB6.out
       have c4 := HC4.out w6 HB6.out
       have c5 := HC5.out w6 HB6.out
       have c6 := HC6.out w6 HB6.out
       have c7 := HC7.out w6 HB6.out
       have c8 := HC8.out w6 HB6.out
       go_wp2_with fail
       refine (HHt.out w6).mono ?_
       rintro e w7 ⟨rfl, hb⟩
       have HB7 := Lib.hid (HB6.out.trans (hb.mono HB6.out.size))
       clear hb c0 c1 c2 c3 c4 c5 c6 c7 c8
       have c0 := HC0.out w7 HB7.out
       have c1 := HC1.out w7 HB7.out
       have c2 := HC2.out w7 HB7.out
       have c3 := HC3.out w7 HB7.out
       have c4 := HC4.out w7 HB7.out
       have c5 := HC5.out w7 HB7.out
       have c6 := HC6.out w7 HB7.out
       have c7 := HC7.out w7 HB7.out
       have c8 := HC8.out w7 HB7.out
       go_wp2_with fail
       refine (HHt.out w7).mono ?_
       rintro e w8 ⟨rfl, hb⟩
       have HB8 := Lib.hid (HB7.out.trans (hb.mono HB7.out.size))
       clear hb c0 c1 c2 c3 c4 c5 c6 c7 c8
       have c0 := HC0.out w8 HB8.out
       have c1 := HC1.out w8 HB8.out
       have c2 := HC2.out w8 HB8.out
       have c3 := HC3.out w8 HB8.out
       have c4 := HC4.out w8 HB8.out
       have c5 := HC5.out w8 HB8.out
       have c6 := HC6.out w8 HB8.out
       have c7 := HC7.out w8 HB8.out
       have c8 := HC8.out w8 HB8.out
       cases TE
       case true =>
        go_wp2
        go_ret
        exact ⟨ret_bool HMA.out.symm, HKB.out.trans (HB8.out.mono HKB.out.size)⟩
       case false =>
        cases G
        case true =>
         go_wp2_with fail
         clear c0 c1 c2 c3 c4 c5 c6 c7 c8
         refine wp_region_flow (fun W => Below W2.heap.size W2 W) [0, 2, 3, 1, 4, 5, 6, 7, 8, 9, 10, 11, 12, 13, 14, 15] (by kernel_rfl) (by kernel_rfl) (by kernel_rfl) (HB8.out.drew) ?_
         iterate 2
          refine flow_val ?_ rfl (by kernel_rfl) (by rfl) (fun W hW => ?_) ?_
          rotate_left 1
          · go_simp <;> with_reducible rfl
          simp only [puts]
         refine flow_val ?_ rfl (by kernel_rfl) (by rfl) (fun W hW => ?_) ?_
         rotate_left 1
         · have c7 := HC7.out W hW; go_simp <;> with_reducible rfl
         simp only [puts]
         refine flow_call (.bool false) rfl (by kernel_rfl) (by rfl) (by kernel_rfl) (fun W hW => ⟨_, _, _, by go_simp, (HHg.out W).mono fun e w' ⟨he, hb⟩ => ⟨he, hW.trans (hb.mono hW.size)⟩⟩) ?_
         simp only [puts]
         refine flow_quiet (.bool true) rfl (by kernel_rfl) (by rfl) (fun W hW => ⟨_, _, by go_simp, HG.out W⟩) ?_
         simp only [puts]
         iterate 2
          refine flow_val ?_ rfl (by kernel_rfl) (by rfl) (fun W hW => ?_) ?_
          rotate_left 1
          · go_simp <;> with_reducible rfl
          simp only [puts]
         iterate 8
          refine flow_off rfl (by kernel_rfl) (by rfl) ?_
          simp only [puts]
         refine flow_val ?_ rfl (by kernel_rfl) (by rfl) (fun W hW => ?_) ?_
         rotate_left 1
         · go_simp <;> with_reducible rfl
         simp only [puts]
         refine flow_done ?_
         intro W hW
         have HB9 := Lib.hid (hW.1)
         clear hW
         go_wp2
         go_ret
         exact ⟨ret_bool HMA.out.symm, HKB.out.trans (HB9.out.mono HKB.out.size)⟩
        case false =>
         cases GZ
         case false =>
          go_wp2_with fail
          clear c0 c1 c2 c3 c4 c5 c6 c7 c8
          refine wp_region_flow (fun W => Below W2.heap.size W2 W) [0, 2, 3, 1, 4, 5, 6, 7, 8, 9, 10, 11, 12, 13, 14, 15] (by kernel_rfl) (by kernel_rfl) (by kernel_rfl) (HB8.out.drew) ?_
          iterate 2
           refine flow_val ?_ rfl (by kernel_rfl) (by rfl) (fun W hW => ?_) ?_
           rotate_left 1
           · go_simp <;> with_reducible rfl
           simp only [puts]
          refine flow_val ?_ rfl (by kernel_rfl) (by rfl) (fun W hW => ?_) ?_
          rotate_left 1
          · have c7 := HC7.out W hW; go_simp <;> with_reducible rfl
          simp only [puts]
          refine flow_call (.bool false) rfl (by kernel_rfl) (by rfl) (by kernel_rfl) (fun W hW => ⟨_, _, _, by go_simp, (HHg.out W).mono fun e w' ⟨he, hb⟩ => ⟨he, hW.trans (hb.mono hW.size)⟩⟩) ?_
          simp only [puts]
          refine flow_quiet (.bool false) rfl (by kernel_rfl) (by rfl) (fun W hW => ⟨_, _, by go_simp, HG.out W⟩) ?_
          simp only [puts]
          iterate 3
           refine flow_val ?_ rfl (by kernel_rfl) (by rfl) (fun W hW => ?_) ?_
           rotate_left 1
           · go_simp <;> with_reducible rfl
           simp only [puts]
          refine flow_call (.bool false) rfl (by kernel_rfl) (by rfl) (by kernel_rfl) (fun W hW => ⟨_, _, _, by go_simp, (HHg.out W).mono fun e w' ⟨he, hb⟩ => ⟨he, ⟨hW.1.trans (hb.mono hW.1.size), trivial⟩⟩⟩) ?_
          simp only [puts]
          iterate 3
           refine flow_val ?_ rfl (by kernel_rfl) (by rfl) (fun W hW => ?_) ?_
           rotate_left 1
           · go_simp <;> with_reducible rfl
           simp only [puts]
          refine flow_val ?_ rfl (by kernel_rfl) (by rfl) (fun W hW => ?_) ?_
          rotate_left 1
          · have c7 := HC7.out W hW.1.1; go_simp <;> with_reducible rfl
          simp only [puts]
          refine flow_val ?_ rfl (by kernel_rfl) (by rfl) (fun W hW => ?_) ?_
          rotate_left 1
          · have q := HGZ.out; go_simp <;> with_reducible rfl
          simp only [puts]
          iterate 2
           refine flow_val ?_ rfl (by kernel_rfl) (by rfl) (fun W hW => ?_) ?_
           rotate_left 1
           · go_simp <;> with_reducible rfl
           simp only [puts]
          refine flow_done ?_
          intro W hW
          have HB9 := Lib.hid (hW.1.1)
          clear hW
          go_wp2
          go_ret
          exact ⟨ret_bool HMA.out.symm, HKB.out.trans (HB9.out.mono HKB.out.size)⟩
         case true =>
          go_wp2_with fail
          clear c0 c1 c2 c3 c4 c5 c6 c7 c8
          refine wp_region_flow (fun W => Below W2.heap.size W2 W) [0, 2, 3, 1, 4, 5, 6, 7, 8, 9, 10, 11, 12, 13, 14, 15] (by kernel_rfl) (by kernel_rfl) (by kernel_rfl) (HB8.out.drew) ?_
          iterate 2
           refine flow_val ?_ rfl (by kernel_rfl) (by rfl) (fun W hW => ?_) ?_
           rotate_left 1
           · go_simp <;> with_reducible rfl
           simp only [puts]
          refine flow_val ?_ rfl (by kernel_rfl) (by rfl) (fun W hW => ?_) ?_
          rotate_left 1
          · have c7 := HC7.out W hW; go_simp <;> with_reducible rfl
          simp only [puts]
          refine flow_call (.bool false) rfl (by kernel_rfl) (by rfl) (by kernel_rfl) (fun W hW => ⟨_, _, _, by go_simp, (HHg.out W).mono fun e w' ⟨he, hb⟩ => ⟨he, hW.trans (hb.mono hW.size)⟩⟩) ?_
          simp only [puts]
          refine flow_quiet (.bool false) rfl (by kernel_rfl) (by rfl) (fun W hW => ⟨_, _, by go_simp, HG.out W⟩) ?_
          simp only [puts]
          iterate 3
           refine flow_val ?_ rfl (by kernel_rfl) (by rfl) (fun W hW => ?_) ?_
           rotate_left 1
           · go_simp <;> with_reducible rfl
           simp only [puts]
          refine flow_call (.bool false) rfl (by kernel_rfl) (by rfl) (by kernel_rfl) (fun W hW => ⟨_, _, _, by go_simp, (HHg.out W).mono fun e w' ⟨he, hb⟩ => ⟨he, ⟨hW.1.trans (hb.mono hW.1.size), trivial⟩⟩⟩) ?_
          simp only [puts]
          iterate 3
           refine flow_val ?_ rfl (by kernel_rfl) (by rfl) (fun W hW => ?_) ?_
           rotate_left 1
           · go_simp <;> with_reducible rfl
           simp only [puts]
          refine flow_val ?_ rfl (by kernel_rfl) (by rfl) (fun W hW => ?_) ?_
          rotate_left 1
          · have c7 := HC7.out W hW.1.1; go_simp <;> with_reducible rfl
          simp only [puts]
          refine flow_val ?_ rfl (by kernel_rfl) (by rfl) (fun W hW => ?_) ?_
          rotate_left 1
          · have q := HGZ.out; go_simp <;> with_reducible rfl
          simp only [puts]
          iterate 2
           refine flow_val ?_ rfl (by kernel_rfl) (by rfl) (fun W hW => ?_) ?_
           rotate_left 1
           · go_simp <;> with_reducible rfl
           simp only [puts]
          refine flow_done ?_
          intro W hW
          have HB9 := Lib.hid (hW.1.1)
          clear hW
          obtain ⟨w9, hw⟩ : ∃ w9, w9 = W := ⟨_, rfl⟩
          subst hw
          have c0 := HC0.out w9 HB9.out
          have c1 := HC1.out w9 HB9.out
          have c2 := HC2.out w9 HB9.out
          have c3 := HC3.out w9 HB9.out
          have c4 := HC4.out w9 HB9.out
          have c5 := HC5.out w9 HB9.out
          have c6 := HC6.out w9 HB9.out
          have c7 := HC7.out w9 HB9.out
          have c8 := HC8.out w9 HB9.out
          go_wp2_with fail
          refine (HHi.out w9).mono ?_
          rintro e w10 ⟨rfl, hb⟩
          have HB10 := Lib.hid (HB9.out.trans (hb.mono HB9.out.size))
          clear hb c0 c1 c2 c3 c4 c5 c6 c7 c8
          have c0 := HC0.out w10 HB10.out
          have c1 := HC1.out w10 HB10.out
          have c2 := HC2.out w10 HB10.out
          have c3 := HC3.out w10 HB10.out
          have c4 := HC4.out w10 HB10.out
          have c5 := HC5.out w10 HB10.out
          have c6 := HC6.out w10 HB10.out
          have c7 := HC7.out w10 HB10.out
          have c8 := HC8.out w10 HB10.out
          cases IE
          case true =>
           go_wp2
           go_ret
           exact ⟨ret_bool HMA.out.symm, HKB.out.trans (HB10.out.mono HKB.out.size)⟩
          case false =>
           go_wp2_with fail
           refine (HHi.out w10).mono ?_
           rintro e w11 ⟨rfl, hb⟩
           have HB11 := Lib.hid (HB10.out.trans (hb.mono HB10.out.size))
           clear hb c0 c1 c2 c3 c4 c5 c6 c7 c8
           have c0 := HC0.out w11 HB11.out
           have c1 := HC1.out w11 HB11.out
           have c2 := HC2.out w11 HB11.out
           have c3 := HC3.out w11 HB11.out
           have c4 := HC4.out w11 HB11.out
           have c5 := HC5.out w11 HB11.out
           have c6 := HC6.out w11 HB11.out
           have c7 := HC7.out w11 HB11.out
           have c8 := HC8.out w11 HB11.out
           go_wp2_with fail
           refine (HMI.out w11 HB11.out).mono ?_
           rintro e w12 ⟨rfl, hb⟩
           have HB12 := Lib.hid (HB11.out.trans (hb.mono HB11.out.size))
           clear hb c0 c1 c2 c3 c4 c5 c6 c7 c8
           have c0 := HC0.out w12 HB12.out
           have c1 := HC1.out w12 HB12.out
           have c2 := HC2.out w12 HB12.out
           have c3 := HC3.out w12 HB12.out
           have c4 := HC4.out w12 HB12.out
           have c5 := HC5.out w12 HB12.out
           have c6 := HC6.out w12 HB12.out
           have c7 := HC7.out w12 HB12.out
           have c8 := HC8.out w12 HB12.out
           cases MI
           case false =>
            go_wp2
            go_ret
            exact ⟨ret_bool HMA.out.symm, HKB.out.trans (HB12.out.mono HKB.out.size)⟩
           case true =>
            go_wp2
            go_ret
            exact ⟨ret_bool HMA.out.symm, HKB.out.trans (HB12.out.mono HKB.out.size)⟩
set_option maxRecDepth 100000 in
set_option maxHeartbeats 4000000 in
theorem xamay_k11 (client number kind order region to n : Int) (good : ByteArray) (items : List It) (A : Option Addr) (c : Nat) (w : World) (hk : fldA kind = [110]) (hr : Rd w 2 A items.length (items.flatMap encI)) (hb : BdL items) (hg : good.size ≤ 9223372036854775807) :
 Calls Try.prog 36 #[akV ⟨client, number, kind, order, region, to, n, good, items⟩ (.slice A items.length c)] w fun e W => e = .returned (.bool (mayA ⟨client, number, kind, order, region, to, n, good, items⟩)) ∧ Below w.heap.size w W := by
 obtain ⟨m, hm2⟩ : ∃ m, items.length = m := ⟨_, rfl⟩
 obtain ⟨CN, hCN⟩ : ∃ CN, (inB client 0 63 && inB number 1 4294967296) = CN := ⟨_, rfl⟩
 obtain ⟨L1, hL1⟩ : ∃ L1, decide (order < 1) = L1 := ⟨_, rfl⟩
 obtain ⟨L2, hL2⟩ : ∃ L2, decide (1099511627776 < order) = L2 := ⟨_, rfl⟩
 obtain ⟨Z1, hZ1⟩ : ∃ Z1, (order != 0) = Z1 := ⟨_, rfl⟩
 obtain ⟨RL, hRL⟩ : ∃ RL, decide (region < 0) = RL := ⟨_, rfl⟩
 obtain ⟨RG, hRG⟩ : ∃ RG, decide (7 < region) = RG := ⟨_, rfl⟩
 obtain ⟨RZ, hRZ⟩ : ∃ RZ, (region != 0) = RZ := ⟨_, rfl⟩
 obtain ⟨TL, hTL⟩ : ∃ TL, decide (to < 0) = TL := ⟨_, rfl⟩
 obtain ⟨TG, hTG⟩ : ∃ TG, decide (7 < to) = TG := ⟨_, rfl⟩
 obtain ⟨TZ, hTZ⟩ : ∃ TZ, (to != 0) = TZ := ⟨_, rfl⟩
 obtain ⟨TE, hTE⟩ : ∃ TE, (to == region) = TE := ⟨_, rfl⟩
 obtain ⟨G, hG⟩ : ∃ G, goodS good = G := ⟨_, rfl⟩
 obtain ⟨GZ, hGZ⟩ : ∃ GZ, (good.toList == []) = GZ := ⟨_, rfl⟩
 obtain ⟨MI, hMI⟩ : ∃ MI, mayI items = MI := ⟨_, rfl⟩
 obtain ⟨P0, hP0⟩ : ∃ P0, (n == 0) = P0 := ⟨_, rfl⟩
 obtain ⟨P1, hP1⟩ : ∃ P1, (n == 1) = P1 := ⟨_, rfl⟩
 obtain ⟨Q1, hQ1⟩ : ∃ Q1, decide (1 ≤ n) = Q1 := ⟨_, rfl⟩
 obtain ⟨Q2, hQ2⟩ : ∃ Q2, decide (n ≤ 4294967297) = Q2 := ⟨_, rfl⟩
 obtain ⟨IE, hIE⟩ : ∃ IE, (m == 0) = IE := ⟨_, rfl⟩
 obtain ⟨LP, hLP⟩ : ∃ LP, decide (0 < m) = LP := ⟨_, rfl⟩
 have hIE2 : ((m : Int) == 0) = IE := by rw [← hIE]; exact decide_eq_decide.2 (by omega)
 have hLP2 : decide ((0 : Int) < (m : Int)) = LP := by rw [← hLP]; exact decide_eq_decide.2 (by omega)
 have hkk : kind = 11 := fldA_k11 hk
 have HMA : Hid (mayA ⟨client, number, kind, order, region, to, n, good, items⟩ = (CN && (!Z1 && ((!RL && (!RG && (!TL && (!TG && (!RZ && !TZ))))) && ((!G && GZ) && ((!LP && MI) && (Q1 && Q2))))))) := Lib.hid (by
  refine (mayA_parts _ (by rw [hk]; rfl)).trans ?_
  simp only
  rw [hCN]
  congr 1
  rw [right_off (by unfold hasF; rw [hk]; rfl), right_off (by unfold hasF; rw [hk]; rfl), right_off (by unfold hasF; rw [hk]; rfl), right_off (by unfold hasF; rw [hk]; rfl), right_off (by unfold hasF; rw [hk]; rfl)]
  rw [z_neg order, hZ1, z_all region, hRL, hRG, hRZ, z_all to, hTL, hTG, hTZ, good_off good, hG, hGZ, items_off items, hm2, hLP, hMI, mayN11 (by omega : kind = 11), hQ1, hQ2]
  cases RL <;> cases RG <;> cases TL <;> cases TG <;> cases RZ <;> cases TZ <;> rfl)
 have HS : Hid (∀ W, Calls Try.prog 67 #[.int .i64 kind] W fun e W' => e = .returned (.string ⟨#[110]⟩) ∧ Below W.heap.size W W') := Lib.hid (fun W => (show hasA kind = ⟨#[110]⟩ by unfold hasA; rw [hk]; rfl) ▸ xhas_any kind W)
 have HHo : Hid (∀ W, Calls Try.prog 68 #[.int .i64 kind, .int .u8 111] W fun e W' => e = .returned (.bool false) ∧ Below W.heap.size W W') := Lib.hid (fun W => (show hasF kind 111 = false by unfold hasF; rw [hk]; rfl) ▸ xhasf_any kind 111 W)
 have HHr : Hid (∀ W, Calls Try.prog 68 #[.int .i64 kind, .int .u8 114] W fun e W' => e = .returned (.bool false) ∧ Below W.heap.size W W') := Lib.hid (fun W => (show hasF kind 114 = false by unfold hasF; rw [hk]; rfl) ▸ xhasf_any kind 114 W)
 have HHt : Hid (∀ W, Calls Try.prog 68 #[.int .i64 kind, .int .u8 116] W fun e W' => e = .returned (.bool false) ∧ Below W.heap.size W W') := Lib.hid (fun W => (show hasF kind 116 = false by unfold hasF; rw [hk]; rfl) ▸ xhasf_any kind 116 W)
 have HHg : Hid (∀ W, Calls Try.prog 68 #[.int .i64 kind, .int .u8 103] W fun e W' => e = .returned (.bool false) ∧ Below W.heap.size W W') := Lib.hid (fun W => (show hasF kind 103 = false by unfold hasF; rw [hk]; rfl) ▸ xhasf_any kind 103 W)
 have HHi : Hid (∀ W, Calls Try.prog 68 #[.int .i64 kind, .int .u8 105] W fun e W' => e = .returned (.bool false) ∧ Below W.heap.size W W') := Lib.hid (fun W => (show hasF kind 105 = false by unfold hasF; rw [hk]; rfl) ▸ xhasf_any kind 105 W)
 have HCN : Hid (∀ W, Calls Try.prog 37 #[.int .i64 client, .int .i64 number] W fun e W' => e = .returned (.bool CN) ∧ W = W') := Lib.hid (fun W => hCN ▸ xmay9_any client number W)
 have HG : Hid (∀ W, Calls Try.prog 65 #[.string good] W fun e W' => e = .returned (.bool G) ∧ W = W') := Lib.hid (fun W => hG ▸ xgood_any good W hg)
 have HGZ := Lib.hid hGZ
 have HMI : Hid (∀ W, Below w.heap.size w W → Calls Try.prog 35 #[.slice A m c] W fun e W' => e = .returned (.bool MI) ∧ Below W.heap.size W W') := Lib.hid (fun W hW => hm2 ▸ hMI ▸ xmayI_any A c items W (hr.below hW) hb.1 hb.2)
 rw [hm2]
 clear hr hb hg hm2 hCN hG hGZ hMI hk
 have k0 := block_new w (.cells #[.int .i64 client, .int .i64 number, .int .i64 kind, .int .i64 order, .int .i64 region, .int .i64 to, .int .i64 n, .string good, .slice A m c] 24)
 have kb := (Below.refl _ w).alloc (Nat.le_refl _) (.cells #[.int .i64 client, .int .i64 number, .int .i64 kind, .int .i64 order, .int .i64 region, .int .i64 to, .int .i64 n, .string good, .slice A m c] 24)
 obtain ⟨W2, hW2⟩ : ∃ W2, w.alloc (.cells #[.int .i64 client, .int .i64 number, .int .i64 kind, .int .i64 order, .int .i64 region, .int .i64 to, .int .i64 n, .string good, .slice A m c] 24) = W2 := ⟨_, rfl⟩
 rw [hW2] at k0 kb
 have HKB := Lib.hid kb
 have HWW := Lib.hid hW2
 have HCA : Hid (∀ W, Below W2.heap.size W2 W → W.heap[w.heap.size]? = some (.cells #[.int .i64 client, .int .i64 number, .int .i64 kind, .int .i64 order, .int .i64 region, .int .i64 to, .int .i64 n, .string good, .slice A m c] 24 (0, 0))) := Lib.hid (fun W hW => (hW.block _ (lt_of_block k0)).trans k0)
 have HC0 : Hid (∀ W, Below W2.heap.size W2 W → W.cell? ⟨w.heap.size, 0, none⟩ = some (.int .i64 client)) := Lib.hid (fun W hW => cell_at (HCA.out W hW) 0)
 have HC1 : Hid (∀ W, Below W2.heap.size W2 W → W.cell? ⟨w.heap.size, 1, none⟩ = some (.int .i64 number)) := Lib.hid (fun W hW => cell_at (HCA.out W hW) 1)
 have HC2 : Hid (∀ W, Below W2.heap.size W2 W → W.cell? ⟨w.heap.size, 2, none⟩ = some (.int .i64 kind)) := Lib.hid (fun W hW => cell_at (HCA.out W hW) 2)
 have HC3 : Hid (∀ W, Below W2.heap.size W2 W → W.cell? ⟨w.heap.size, 3, none⟩ = some (.int .i64 order)) := Lib.hid (fun W hW => cell_at (HCA.out W hW) 3)
 have HC4 : Hid (∀ W, Below W2.heap.size W2 W → W.cell? ⟨w.heap.size, 4, none⟩ = some (.int .i64 region)) := Lib.hid (fun W hW => cell_at (HCA.out W hW) 4)
 have HC5 : Hid (∀ W, Below W2.heap.size W2 W → W.cell? ⟨w.heap.size, 5, none⟩ = some (.int .i64 to)) := Lib.hid (fun W hW => cell_at (HCA.out W hW) 5)
 have HC6 : Hid (∀ W, Below W2.heap.size W2 W → W.cell? ⟨w.heap.size, 6, none⟩ = some (.int .i64 n)) := Lib.hid (fun W hW => cell_at (HCA.out W hW) 6)
 have HC7 : Hid (∀ W, Below W2.heap.size W2 W → W.cell? ⟨w.heap.size, 7, none⟩ = some (.string good)) := Lib.hid (fun W hW => cell_at (HCA.out W hW) 7)
 have HC8 : Hid (∀ W, Below W2.heap.size W2 W → W.cell? ⟨w.heap.size, 8, none⟩ = some (.slice A m c)) := Lib.hid (fun W hW => cell_at (HCA.out W hW) 8)
 replace HMI : Hid (∀ W, Below W2.heap.size W2 W → Calls Try.prog 35 #[.slice A m c] W fun e W' => e = .returned (.bool MI) ∧ Below W.heap.size W W') := Lib.hid (fun W hW => HMI.out W (kb.trans (hW.mono kb.size)))
 clear k0 kb hW2
 subst hkk
 go_enter Try.func36, Try.ntmps36
 go_wp2_with fail
 rw [HWW.out]
 refine (HS.out W2).mono ?_
 rintro e w3 ⟨rfl, hb⟩
 have HB3 := Lib.hid hb
 clear hb
 have c0 := HC0.out w3 HB3.out
 have c1 := HC1.out w3 HB3.out
 have c2 := HC2.out w3 HB3.out
 have c3 := HC3.out w3 HB3.out
 have c4 := HC4.out w3 HB3.out
 have c5 := HC5.out w3 HB3.out
 have c6 := HC6.out w3 HB3.out
 have c7 := HC7.out w3 HB3.out
 have c8 := HC8.out w3 HB3.out
 go_wp2_with fail
 refine (HCN.out w3).mono ?_
 rintro e w4 ⟨rfl, rfl⟩
 cases CN
 case false =>
  go_wp2
  go_ret
  exact ⟨ret_bool HMA.out.symm, HKB.out.trans (HB3.out.mono HKB.out.size)⟩
 case true =>
  go_wp2_with fail
  refine (HHo.out w3).mono ?_
  rintro e w4 ⟨rfl, hb⟩
  have HB4 := Lib.hid (HB3.out.trans (hb.mono HB3.out.size))
  clear hb c0 c1 c2 c3 c4 c5 c6 c7 c8
  have c0 := HC0.out w4 HB4.out
  have c1 := HC1.out w4 HB4.out
  have c2 := HC2.out w4 HB4.out
  have c3 := HC3.out w4 HB4.out
  have c4 := HC4.out w4 HB4.out
  have c5 := HC5.out w4 HB4.out
  have c6 := HC6.out w4 HB4.out
  have c7 := HC7.out w4 HB4.out
  have c8 := HC8.out w4 HB4.out
  go_wp2_with fail
  refine (HHo.out w4).mono ?_
  rintro e w5 ⟨rfl, hb⟩
  have HB5 := Lib.hid (HB4.out.trans (hb.mono HB4.out.size))
  clear hb c0 c1 c2 c3 c4 c5 c6 c7 c8
  have c0 := HC0.out w5 HB5.out
  have c1 := HC1.out w5 HB5.out
  have c2 := HC2.out w5 HB5.out
  have c3 := HC3.out w5 HB5.out
  have c4 := HC4.out w5 HB5.out
  have c5 := HC5.out w5 HB5.out
  have c6 := HC6.out w5 HB5.out
  have c7 := HC7.out w5 HB5.out
  have c8 := HC8.out w5 HB5.out
  cases Z1
  case true =>
   go_wp2
   go_ret
   exact ⟨ret_bool HMA.out.symm, HKB.out.trans (HB5.out.mono HKB.out.size)⟩
  case false =>
   cases RL
   case true =>
    go_wp2
    go_ret
    exact ⟨ret_bool HMA.out.symm, HKB.out.trans (HB5.out.mono HKB.out.size)⟩
   case false =>
    cases RG
    case true =>
     go_wp2
     go_ret
     exact ⟨ret_bool HMA.out.symm, HKB.out.trans (HB5.out.mono HKB.out.size)⟩
    case false =>
     cases TL
     case true =>
      go_wp2
      go_ret
      exact ⟨ret_bool HMA.out.symm, HKB.out.trans (HB5.out.mono HKB.out.size)⟩
     case false =>
      cases TG
      case true =>
       go_wp2
       go_ret
       exact ⟨ret_bool HMA.out.symm, HKB.out.trans (HB5.out.mono HKB.out.size)⟩
      case false =>
       go_wp2_with fail
       refine (HHr.out w5).mono ?_
       rintro e w6 ⟨rfl, hb⟩
       have HB6 := Lib.hid (HB5.out.trans (hb.mono HB5.out.size))
       clear hb c0 c1 c2 c3 c4 c5 c6 c7 c8
       have c0 := HC0.out w6 HB6.out
       have c1 := HC1.out w6 HB6.out
       have c2 := HC2.out w6 HB6.out
       have c3 := HC3.out w6 HB6.out
       have c4 := HC4.out w6 HB6.out
       have c5 := HC5.out w6 HB6.out
       have c6 := HC6.out w6 HB6.out
       have c7 := HC7.out w6 HB6.out
       have c8 := HC8.out w6 HB6.out
       cases RZ
       case true =>
        go_wp2
        go_ret
        exact ⟨ret_bool HMA.out.symm, HKB.out.trans (HB6.out.mono HKB.out.size)⟩
       case false =>
        go_wp2_with fail
        refine (HHt.out w6).mono ?_
        rintro e w7 ⟨rfl, hb⟩
        have HB7 := Lib.hid (HB6.out.trans (hb.mono HB6.out.size))
        clear hb c0 c1 c2 c3 c4 c5 c6 c7 c8
        have c0 := HC0.out w7 HB7.out
        have c1 := HC1.out w7 HB7.out
        have c2 := HC2.out w7 HB7.out
        have c3 := HC3.out w7 HB7.out
        have c4 := HC4.out w7 HB7.out
        have c5 := HC5.out w7 HB7.out
        have c6 := HC6.out w7 HB7.out
        have c7 := HC7.out w7 HB7.out
        have c8 := HC8.out w7 HB7.out
        cases TZ
        case true =>
         go_wp2
         go_ret
         exact ⟨ret_bool HMA.out.symm, HKB.out.trans (HB7.out.mono HKB.out.size)⟩
        case false =>
         go_wp2_with fail
         refine (HHt.out w7).mono ?_
         rintro e w8 ⟨rfl, hb⟩
         have HB8 := Lib.hid (HB7.out.trans (hb.mono HB7.out.size))
         clear hb c0 c1 c2 c3 c4 c5 c6 c7 c8
         have c0 := HC0.out w8 HB8.out
         have c1 := HC1.out w8 HB8.out
         have c2 := HC2.out w8 HB8.out
         have c3 := HC3.out w8 HB8.out
         have c4 := HC4.out w8 HB8.out
         have c5 := HC5.out w8 HB8.out
         have c6 := HC6.out w8 HB8.out
         have c7 := HC7.out w8 HB8.out
         have c8 := HC8.out w8 HB8.out
         cases G
         case true =>
          go_wp2_with fail
          clear c0 c1 c2 c3 c4 c5 c6 c7 c8
          refine wp_region_flow (fun W => Below W2.heap.size W2 W) [0, 2, 3, 1, 4, 5, 6, 7, 8, 9, 10, 11, 12, 13, 14, 15] (by kernel_rfl) (by kernel_rfl) (by kernel_rfl) (HB8.out.drew) ?_
          iterate 2
           refine flow_val ?_ rfl (by kernel_rfl) (by rfl) (fun W hW => ?_) ?_
           rotate_left 1
           · go_simp <;> with_reducible rfl
           simp only [puts]
          refine flow_val ?_ rfl (by kernel_rfl) (by rfl) (fun W hW => ?_) ?_
          rotate_left 1
          · have c7 := HC7.out W hW; go_simp <;> with_reducible rfl
          simp only [puts]
          refine flow_call (.bool false) rfl (by kernel_rfl) (by rfl) (by kernel_rfl) (fun W hW => ⟨_, _, _, by go_simp, (HHg.out W).mono fun e w' ⟨he, hb⟩ => ⟨he, hW.trans (hb.mono hW.size)⟩⟩) ?_
          simp only [puts]
          refine flow_quiet (.bool true) rfl (by kernel_rfl) (by rfl) (fun W hW => ⟨_, _, by go_simp, HG.out W⟩) ?_
          simp only [puts]
          iterate 2
           refine flow_val ?_ rfl (by kernel_rfl) (by rfl) (fun W hW => ?_) ?_
           rotate_left 1
           · go_simp <;> with_reducible rfl
           simp only [puts]
          iterate 8
           refine flow_off rfl (by kernel_rfl) (by rfl) ?_
           simp only [puts]
          refine flow_val ?_ rfl (by kernel_rfl) (by rfl) (fun W hW => ?_) ?_
          rotate_left 1
          · go_simp <;> with_reducible rfl
          simp only [puts]
          refine flow_done ?_
          intro W hW
          have HB9 := Lib.hid (hW.1)
          clear hW
          go_wp2
          go_ret
          exact ⟨ret_bool HMA.out.symm, HKB.out.trans (HB9.out.mono HKB.out.size)⟩
         case false =>
          cases GZ
          case false =>
           go_wp2_with fail
           clear c0 c1 c2 c3 c4 c5 c6 c7 c8
           refine wp_region_flow (fun W => Below W2.heap.size W2 W) [0, 2, 3, 1, 4, 5, 6, 7, 8, 9, 10, 11, 12, 13, 14, 15] (by kernel_rfl) (by kernel_rfl) (by kernel_rfl) (HB8.out.drew) ?_
           iterate 2
            refine flow_val ?_ rfl (by kernel_rfl) (by rfl) (fun W hW => ?_) ?_
            rotate_left 1
            · go_simp <;> with_reducible rfl
            simp only [puts]
           refine flow_val ?_ rfl (by kernel_rfl) (by rfl) (fun W hW => ?_) ?_
           rotate_left 1
           · have c7 := HC7.out W hW; go_simp <;> with_reducible rfl
           simp only [puts]
           refine flow_call (.bool false) rfl (by kernel_rfl) (by rfl) (by kernel_rfl) (fun W hW => ⟨_, _, _, by go_simp, (HHg.out W).mono fun e w' ⟨he, hb⟩ => ⟨he, hW.trans (hb.mono hW.size)⟩⟩) ?_
           simp only [puts]
           refine flow_quiet (.bool false) rfl (by kernel_rfl) (by rfl) (fun W hW => ⟨_, _, by go_simp, HG.out W⟩) ?_
           simp only [puts]
           iterate 3
            refine flow_val ?_ rfl (by kernel_rfl) (by rfl) (fun W hW => ?_) ?_
            rotate_left 1
            · go_simp <;> with_reducible rfl
            simp only [puts]
           refine flow_call (.bool false) rfl (by kernel_rfl) (by rfl) (by kernel_rfl) (fun W hW => ⟨_, _, _, by go_simp, (HHg.out W).mono fun e w' ⟨he, hb⟩ => ⟨he, ⟨hW.1.trans (hb.mono hW.1.size), trivial⟩⟩⟩) ?_
           simp only [puts]
           iterate 3
            refine flow_val ?_ rfl (by kernel_rfl) (by rfl) (fun W hW => ?_) ?_
            rotate_left 1
            · go_simp <;> with_reducible rfl
            simp only [puts]
           refine flow_val ?_ rfl (by kernel_rfl) (by rfl) (fun W hW => ?_) ?_
           rotate_left 1
           · have c7 := HC7.out W hW.1.1; go_simp <;> with_reducible rfl
           simp only [puts]
           refine flow_val ?_ rfl (by kernel_rfl) (by rfl) (fun W hW => ?_) ?_
           rotate_left 1
           · have q := HGZ.out; go_simp <;> with_reducible rfl
           simp only [puts]
           iterate 2
            refine flow_val ?_ rfl (by kernel_rfl) (by rfl) (fun W hW => ?_) ?_
            rotate_left 1
            · go_simp <;> with_reducible rfl
            simp only [puts]
           refine flow_done ?_
           intro W hW
           have HB9 := Lib.hid (hW.1.1)
           clear hW
           go_wp2
           go_ret
           exact ⟨ret_bool HMA.out.symm, HKB.out.trans (HB9.out.mono HKB.out.size)⟩
          case true =>
           go_wp2_with fail
           clear c0 c1 c2 c3 c4 c5 c6 c7 c8
           refine wp_region_flow (fun W => Below W2.heap.size W2 W) [0, 2, 3, 1, 4, 5, 6, 7, 8, 9, 10, 11, 12, 13, 14, 15] (by kernel_rfl) (by kernel_rfl) (by kernel_rfl) (HB8.out.drew) ?_
           iterate 2
            refine flow_val ?_ rfl (by kernel_rfl) (by rfl) (fun W hW => ?_) ?_
            rotate_left 1
            · go_simp <;> with_reducible rfl
            simp only [puts]
           refine flow_val ?_ rfl (by kernel_rfl) (by rfl) (fun W hW => ?_) ?_
           rotate_left 1
           · have c7 := HC7.out W hW; go_simp <;> with_reducible rfl
           simp only [puts]
           refine flow_call (.bool false) rfl (by kernel_rfl) (by rfl) (by kernel_rfl) (fun W hW => ⟨_, _, _, by go_simp, (HHg.out W).mono fun e w' ⟨he, hb⟩ => ⟨he, hW.trans (hb.mono hW.size)⟩⟩) ?_
           simp only [puts]
           refine flow_quiet (.bool false) rfl (by kernel_rfl) (by rfl) (fun W hW => ⟨_, _, by go_simp, HG.out W⟩) ?_
           simp only [puts]
           iterate 3
            refine flow_val ?_ rfl (by kernel_rfl) (by rfl) (fun W hW => ?_) ?_
            rotate_left 1
            · go_simp <;> with_reducible rfl
            simp only [puts]
           refine flow_call (.bool false) rfl (by kernel_rfl) (by rfl) (by kernel_rfl) (fun W hW => ⟨_, _, _, by go_simp, (HHg.out W).mono fun e w' ⟨he, hb⟩ => ⟨he, ⟨hW.1.trans (hb.mono hW.1.size), trivial⟩⟩⟩) ?_
           simp only [puts]
           iterate 3
            refine flow_val ?_ rfl (by kernel_rfl) (by rfl) (fun W hW => ?_) ?_
            rotate_left 1
            · go_simp <;> with_reducible rfl
            simp only [puts]
           refine flow_val ?_ rfl (by kernel_rfl) (by rfl) (fun W hW => ?_) ?_
           rotate_left 1
           · have c7 := HC7.out W hW.1.1; go_simp <;> with_reducible rfl
           simp only [puts]
           refine flow_val ?_ rfl (by kernel_rfl) (by rfl) (fun W hW => ?_) ?_
           rotate_left 1
           · have q := HGZ.out; go_simp <;> with_reducible rfl
           simp only [puts]
           iterate 2
            refine flow_val ?_ rfl (by kernel_rfl) (by rfl) (fun W hW => ?_) ?_
            rotate_left 1
            · go_simp <;> with_reducible rfl
            simp only [puts]
           refine flow_done ?_
           intro W hW
           have HB9 := Lib.hid (hW.1.1)
           clear hW
           obtain ⟨w9, hw⟩ : ∃ w9, w9 = W := ⟨_, rfl⟩
           subst hw
           have c0 := HC0.out w9 HB9.out
           have c1 := HC1.out w9 HB9.out
           have c2 := HC2.out w9 HB9.out
           have c3 := HC3.out w9 HB9.out
           have c4 := HC4.out w9 HB9.out
           have c5 := HC5.out w9 HB9.out
           have c6 := HC6.out w9 HB9.out
           have c7 := HC7.out w9 HB9.out
           have c8 := HC8.out w9 HB9.out
           go_wp2_with fail
           refine (HHi.out w9).mono ?_
           rintro e w10 ⟨rfl, hb⟩
           have HB10 := Lib.hid (HB9.out.trans (hb.mono HB9.out.size))
           clear hb c0 c1 c2 c3 c4 c5 c6 c7 c8
           have c0 := HC0.out w10 HB10.out
           have c1 := HC1.out w10 HB10.out
           have c2 := HC2.out w10 HB10.out
           have c3 := HC3.out w10 HB10.out
           have c4 := HC4.out w10 HB10.out
           have c5 := HC5.out w10 HB10.out
           have c6 := HC6.out w10 HB10.out
           have c7 := HC7.out w10 HB10.out
           have c8 := HC8.out w10 HB10.out
           go_wp2_with fail
           refine (HHi.out w10).mono ?_
           rintro e w11 ⟨rfl, hb⟩
           have HB11 := Lib.hid (HB10.out.trans (hb.mono HB10.out.size))
           clear hb c0 c1 c2 c3 c4 c5 c6 c7 c8
           have c0 := HC0.out w11 HB11.out
           have c1 := HC1.out w11 HB11.out
           have c2 := HC2.out w11 HB11.out
           have c3 := HC3.out w11 HB11.out
           have c4 := HC4.out w11 HB11.out
           have c5 := HC5.out w11 HB11.out
           have c6 := HC6.out w11 HB11.out
           have c7 := HC7.out w11 HB11.out
           have c8 := HC8.out w11 HB11.out
           cases LP
           case true =>
            go_wp2
            go_ret
            exact ⟨ret_bool HMA.out.symm, HKB.out.trans (HB11.out.mono HKB.out.size)⟩
           case false =>
            go_wp2_with fail
            refine (HMI.out w11 HB11.out).mono ?_
            rintro e w12 ⟨rfl, hb⟩
            have HB12 := Lib.hid (HB11.out.trans (hb.mono HB11.out.size))
            clear hb c0 c1 c2 c3 c4 c5 c6 c7 c8
            have c0 := HC0.out w12 HB12.out
            have c1 := HC1.out w12 HB12.out
            have c2 := HC2.out w12 HB12.out
            have c3 := HC3.out w12 HB12.out
            have c4 := HC4.out w12 HB12.out
            have c5 := HC5.out w12 HB12.out
            have c6 := HC6.out w12 HB12.out
            have c7 := HC7.out w12 HB12.out
            have c8 := HC8.out w12 HB12.out
            cases MI
            case false =>
             go_wp2
             go_ret
             exact ⟨ret_bool HMA.out.symm, HKB.out.trans (HB12.out.mono HKB.out.size)⟩
            case true =>
             cases Q1
             case true =>
              go_wp2
              go_ret
              exact ⟨ret_bool HMA.out.symm, HKB.out.trans (HB12.out.mono HKB.out.size)⟩
             case false =>
              go_wp2
              go_ret
              exact ⟨ret_bool HMA.out.symm, HKB.out.trans (HB12.out.mono HKB.out.size)⟩
set_option maxRecDepth 100000 in
theorem xamay_any (a : Ak) (A : Option Addr) (c : Nat) (w : World) (hr : Rd w 2 A a.items.length (a.items.flatMap encI)) (hb : BdL a.items) (hg : a.good.size ≤ 9223372036854775807) :
 Calls Try.prog 36 #[akV a (.slice A a.items.length c)] w fun e W => e = .returned (.bool (mayA a)) ∧ Below w.heap.size w W := by
 have h := fldA_cases a.kind
 obtain ⟨client, number, kind, order, region, to, n, good, items⟩ := a
 simp only [List.mem_cons, List.not_mem_nil, or_false] at h hr hb hg ⊢
 rcases h with h | h | h | h | h | h | h | h
 · exact xamay_k1 client number kind order region to n good items A c w h hr hb hg
 · exact xamay_k2 client number kind order region to n good items A c w h hr hb hg
 · exact xamay_k5 client number kind order region to n good items A c w h hr hb hg
 · exact xamay_k6 client number kind order region to n good items A c w h hr hb hg
 · exact xamay_k7 client number kind order region to n good items A c w h hr hb hg
 · exact xamay_k10 client number kind order region to n good items A c w h hr hb hg
 · exact xamay_k11 client number kind order region to n good items A c w h hr hb hg
 · have HM : Hid (mayA ⟨client, number, kind, order, region, to, n, good, items⟩ = false) := Lib.hid (by
    have e : mayA ⟨client, number, kind, order, region, to, n, good, items⟩ = ((!(fldA kind).isEmpty && inB client 0 63 && inB number 1 4294967296) && _) := rfl
    rw [e, h]
    rfl)
   have HS := Lib.hid (fun W => (show hasA kind = ByteArray.empty by unfold hasA; rw [h]; rfl) ▸ xhas_any kind W)
   have HB := Lib.hid ((Below.refl _ w).alloc (Nat.le_refl _) (.cells #[.int .i64 client, .int .i64 number, .int .i64 kind, .int .i64 order, .int .i64 region, .int .i64 to, .int .i64 n, .string good, .slice A items.length c] 24))
   clear h hr hb hg
   go_enter Try.func36, Try.ntmps36
   go_wp2_with fail
   refine (HS.out _).mono ?_
   rintro e w1 ⟨rfl, hb⟩
   have HB2 := Lib.hid (HB.out.trans (hb.mono HB.out.size))
   clear hb
   go_wp2
   go_ret
   exact ⟨ret_bool HM.out.symm, HB2.out⟩
end Go.Proofs.Ytpccbobomppdbaa
