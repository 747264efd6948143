/- mail.May. -/
import Derived.Test.YtpccbobomppdbaaZR11
import Derived.Test.YtpccbobomppdbaaZR12
import Derived.Test.YtpccbobomppdbaaZR7
namespace Go.Proofs.Ytpccbobomppdbaa
open Go.RowKit

set_option maxRecDepth 100000 in
set_option maxHeartbeats 4000000 in
theorem mmay_any (m : Ml) (A : Option Addr) (c : Nat) (A' : Option Addr) (c' : Nat) (w : World) (hr : Rd w 2 A m.items.length (m.items.flatMap encI)) (hr' : Rd w 2 A' m.ask.items.length (m.ask.items.flatMap encI)) (hb : BdL m.items) (hb' : BdL m.ask.items) (hg : m.ask.good.size ≤ 9223372036854775807) :
    Calls Try.prog 14 #[mlV m (.slice A m.items.length c) (.slice A' m.ask.items.length c')] w fun e W => e = .returned (.bool (mayM m)) ∧ Below w.heap.size w W := by
  have HMI := Lib.hid (fun W (hW : Below w.heap.size w W) => imay_any A c m.items W (hr.below hW) hb.1 hb.2)
  have HMA := Lib.hid (fun W (hW : Below w.heap.size w W) => amay_any m.ask A' c' W (hr'.below hW) hb' hg)
  have HEA : Hid (∀ W, Below w.heap.size w W → Calls Try.prog 28 #[akV m.ask (.slice A' m.ask.items.length c'), .agg #[.int .i64 0, .int .i64 0, .int .i64 0, .int .i64 0, .int .i64 0, .int .i64 0, .int .i64 0, .string { data := #[] }, .slice none 0 0]] W fun e W' => e = .returned (.bool (eqA m.ask zeroK)) ∧ Below W.heap.size W W') := Lib.hid (fun W hW => asame_any m.ask zeroK A' c' none 0 W (hr'.below hW) Rd.nil hb'.2)
  have HYY := Lib.hid (fun W => mayans_any m W)
  obtain ⟨MI, hMI⟩ : ∃ E, mayI m.items = E := ⟨_, rfl⟩
  obtain ⟨MA, hMA⟩ : ∃ E, mayA m.ask = E := ⟨_, rfl⟩
  obtain ⟨EA, hEA⟩ : ∃ E, eqA m.ask zeroK = E := ⟨_, rfl⟩
  obtain ⟨YY, hYY⟩ : ∃ E, mayYM m = E := ⟨_, rfl⟩
  obtain ⟨L1, hL1⟩ : ∃ E, decide ((1 : Int) ≤ m.order) = E := ⟨_, rfl⟩
  obtain ⟨L2, hL2⟩ : ∃ E, decide (m.order ≤ (1099511627776 : Int)) = E := ⟨_, rfl⟩
  obtain ⟨Y1, hY1⟩ : ∃ E, (m.order == 0) = E := ⟨_, rfl⟩
  obtain ⟨la, hla⟩ : ∃ l, m.items.length = l := ⟨_, rfl⟩
  obtain ⟨ka, hka⟩ : ∃ l, m.ask.items.length = l := ⟨_, rfl⟩
  obtain ⟨LE, hLE⟩ : ∃ E, ((la : Int) == 0) = E := ⟨_, rfl⟩
  obtain ⟨FZ, hFZ⟩ : ∃ E, ((m.yc == 0) && ((m.yn == 0) && ((m.yd == 0) && (m.yN == 0)))) = E := ⟨_, rfl⟩
  have HIF : Hid (∀ W : World, (if m.yc = 0 then if m.yn = 0 then if m.yd = 0 then if m.yN = 0 then Result.ok (Next.value (Value.bool true)) W else Result.ok (Next.value (Value.bool false)) W else Result.ok (Next.value (Value.bool false)) W else Result.ok (Next.value (Value.bool false)) W else Result.ok (Next.value (Value.bool false)) W) = Result.ok (Next.value (Value.bool FZ)) W) := Lib.hid (fun W => by
    rw [← hFZ]
    by_cases h1 : m.yc = 0 <;> by_cases h2 : m.yn = 0 <;> by_cases h3 : m.yd = 0 <;> by_cases h4 : m.yN = 0 <;> simp [h1, h2, h3, h4])
  have HL1 := Lib.hid hL1
  have HL2 := Lib.hid hL2
  have HY1 := Lib.hid hY1
  have HLE := Lib.hid hLE
  have hie : m.items.isEmpty = LE := by rw [← hLE, ← hla]; cases m.items <;> simp <;> omega
  obtain ⟨O1, hO1⟩ : ∃ E, rightM m.kind 111 (L1 && L2) Y1 = E := ⟨_, rfl⟩
  obtain ⟨O2, hO2⟩ : ∃ E, rightM m.kind 105 MI LE = E := ⟨_, rfl⟩
  obtain ⟨O3, hO3⟩ : ∃ E, rightM m.kind 97 MA EA = E := ⟨_, rfl⟩
  obtain ⟨O4, hO4⟩ : ∃ E, rightM m.kind 121 YY FZ = E := ⟨_, rfl⟩
  have HM : Hid (mayM m = (inB m.kind 1 14 && (O1 && (O2 && (O3 && O4))))) := Lib.hid (by
    have h1 : mayM1 m = O1 := by rw [← hO1, ← hL1, ← hL2, ← hY1]; rfl
    have h2 : mayM2 m = O2 := by rw [← hO2, ← hMI, ← hie]; rfl
    have h3 : mayM3 m = O3 := by rw [← hO3, ← hMA, ← hEA]; rfl
    have h4 : mayM4 m = O4 := by rw [← hO4, ← hYY, ← hFZ, ← Bool.and_assoc, ← Bool.and_assoc]; rfl
    unfold mayM
    rw [h1, h2, h3, h4])
  have HO10 : Hid (∀ W p, W.cell? ⟨p, 0, none⟩ = some (.string (txtM m.kind)) → Calls Try.prog 29 #[.string ⟨#[111]⟩, .bool (L1 && L2), .bool Y1, .pointer (some ⟨p, 0, none⟩)] W fun e W' => e = .returned (.bool O1) ∧ W = W') := Lib.hid (fun W p hp => hO1 ▸ mright_any m.kind p 111 (by decide) (L1 && L2) Y1 W hp)
  have HO20 : Hid (∀ W p, W.cell? ⟨p, 0, none⟩ = some (.string (txtM m.kind)) → Calls Try.prog 29 #[.string ⟨#[105]⟩, .bool MI, .bool LE, .pointer (some ⟨p, 0, none⟩)] W fun e W' => e = .returned (.bool O2) ∧ W = W') := Lib.hid (fun W p hp => hO2 ▸ mright_any m.kind p 105 (by decide) MI LE W hp)
  have HO30 : Hid (∀ W p, W.cell? ⟨p, 0, none⟩ = some (.string (txtM m.kind)) → Calls Try.prog 29 #[.string ⟨#[97]⟩, .bool MA, .bool EA, .pointer (some ⟨p, 0, none⟩)] W fun e W' => e = .returned (.bool O3) ∧ W = W') := Lib.hid (fun W p hp => hO3 ▸ mright_any m.kind p 97 (by decide) MA EA W hp)
  have HO40 : Hid (∀ W p, W.cell? ⟨p, 0, none⟩ = some (.string (txtM m.kind)) → Calls Try.prog 29 #[.string ⟨#[121]⟩, .bool YY, .bool FZ, .pointer (some ⟨p, 0, none⟩)] W fun e W' => e = .returned (.bool O4) ∧ W = W') := Lib.hid (fun W p hp => hO4 ▸ mright_any m.kind p 121 (by decide) YY FZ W hp)
  obtain ⟨MM, hMM⟩ : ∃ E, mayM m = E := ⟨_, rfl⟩
  rw [hMM] at HM ⊢
  rw [hMI, hla] at HMI
  rw [hMA, hka] at HMA
  rw [hEA, hka] at HEA
  simp only [hYY] at HYY
  rw [hla, hka]
  have HHS := Lib.hid (mhas_any m.kind (w.alloc (.cells #[.int .i64 m.kind, .int .i64 m.order, .slice A la c, .int .i64 m.ask.client, .int .i64 m.ask.number, .int .i64 m.ask.kind, .int .i64 m.ask.order, .int .i64 m.ask.region, .int .i64 m.ask.to, .int .i64 m.ask.n, .string m.ask.good, .slice A' ka c', .int .i64 m.yc, .int .i64 m.yn, .int .i64 m.yd, .int .i64 m.yN] 29)))
  obtain ⟨H, hH⟩ : ∃ H, txtM m.kind = H := ⟨_, rfl⟩
  rw [hH] at HO10 HO20 HO30 HO40 HHS
  show Calls Try.prog 14 #[.agg #[.int .i64 m.kind, .int .i64 m.order, .slice A la c, .int .i64 m.ask.client, .int .i64 m.ask.number, .int .i64 m.ask.kind, .int .i64 m.ask.order, .int .i64 m.ask.region, .int .i64 m.ask.to, .int .i64 m.ask.n, .string m.ask.good, .slice A' ka c', .int .i64 m.yc, .int .i64 m.yn, .int .i64 m.yd, .int .i64 m.yN]] w _
  obtain ⟨W2, hW2⟩ : ∃ W2, (w.alloc (.cells #[.int .i64 m.kind, .int .i64 m.order, .slice A la c, .int .i64 m.ask.client, .int .i64 m.ask.number, .int .i64 m.ask.kind, .int .i64 m.ask.order, .int .i64 m.ask.region, .int .i64 m.ask.to, .int .i64 m.ask.n, .string m.ask.good, .slice A' ka c', .int .i64 m.yc, .int .i64 m.yn, .int .i64 m.yd, .int .i64 m.yN] 29)).alloc (.cells #[.string H] 9) = W2 := ⟨_, rfl⟩
  have k0 := block_alloc (block_new w (.cells #[.int .i64 m.kind, .int .i64 m.order, .slice A la c, .int .i64 m.ask.client, .int .i64 m.ask.number, .int .i64 m.ask.kind, .int .i64 m.ask.order, .int .i64 m.ask.region, .int .i64 m.ask.to, .int .i64 m.ask.n, .string m.ask.good, .slice A' ka c', .int .i64 m.yc, .int .i64 m.yn, .int .i64 m.yd, .int .i64 m.yN] 29)) (.cells #[.string H] 9)
  have k1 := block_new (w.alloc (.cells #[.int .i64 m.kind, .int .i64 m.order, .slice A la c, .int .i64 m.ask.client, .int .i64 m.ask.number, .int .i64 m.ask.kind, .int .i64 m.ask.order, .int .i64 m.ask.region, .int .i64 m.ask.to, .int .i64 m.ask.n, .string m.ask.good, .slice A' ka c', .int .i64 m.yc, .int .i64 m.yn, .int .i64 m.yd, .int .i64 m.yN] 29)) (.cells #[.string H] 9)
  have kb := ((Below.refl _ w).alloc (Nat.le_refl _) (.cells #[.int .i64 m.kind, .int .i64 m.order, .slice A la c, .int .i64 m.ask.client, .int .i64 m.ask.number, .int .i64 m.ask.kind, .int .i64 m.ask.order, .int .i64 m.ask.region, .int .i64 m.ask.to, .int .i64 m.ask.n, .string m.ask.good, .slice A' ka c', .int .i64 m.yc, .int .i64 m.yn, .int .i64 m.yd, .int .i64 m.yN] 29)).alloc (by simp) (.cells #[.string H] 9)
  simp only [World.size_alloc] at k1
  rw [hW2] at k0 k1 kb
  have HKB := Lib.hid kb
  have HWW := Lib.hid hW2
  have HCA : Hid (∀ W, Below W2.heap.size W2 W → W.heap[w.heap.size]? = some (.cells #[.int .i64 m.kind, .int .i64 m.order, .slice A la c, .int .i64 m.ask.client, .int .i64 m.ask.number, .int .i64 m.ask.kind, .int .i64 m.ask.order, .int .i64 m.ask.region, .int .i64 m.ask.to, .int .i64 m.ask.n, .string m.ask.good, .slice A' ka c', .int .i64 m.yc, .int .i64 m.yn, .int .i64 m.yd, .int .i64 m.yN] 29 (0, 0))) := Lib.hid (fun W hW => (hW.block _ (lt_of_block k0)).trans k0)
  have HCF : Hid (∀ W, Below W2.heap.size W2 W → W.cell? ⟨w.heap.size + 1, 0, none⟩ = some (.string H)) := Lib.hid (fun W hW => cell_at ((hW.block _ (lt_of_block k1)).trans k1) 0)
  have HO1 := Lib.hid (fun W hW => HO10.out W _ (HCF.out W hW))
  have HO2 := Lib.hid (fun W hW => HO20.out W _ (HCF.out W hW))
  have HO3 := Lib.hid (fun W hW => HO30.out W _ (HCF.out W hW))
  have HO4 := Lib.hid (fun W hW => HO40.out W _ (HCF.out W hW))
  replace HMI := Lib.hid (fun W (hW : Below W2.heap.size W2 W) => HMI.out W (HKB.out.trans (hW.mono HKB.out.size)))
  replace HMA := Lib.hid (fun W (hW : Below W2.heap.size W2 W) => HMA.out W (HKB.out.trans (hW.mono HKB.out.size)))
  replace HEA := Lib.hid (fun W (hW : Below W2.heap.size W2 W) => HEA.out W (HKB.out.trans (hW.mono HKB.out.size)))
  have c0 := cell_at (HCA.out W2 (Below.refl _ _)) 0
  clear hFZ k0 k1 kb hH hW2 hMM hr hr' hb hb' hg hMI hMA hEA hYY hL1 hL2 hY1 hla hka hLE hie hO1 hO2 hO3 hO4 HO10 HO20 HO30 HO40
  go_enter Try.func14, Try.ntmps14
  go_wp2_with fail
  refine HHS.out.mono ?_
  rintro e w1 ⟨rfl, rfl⟩
  by_cases g1 : m.kind < 1
  · have HF : Hid (MM = false) := Lib.hid (by rw [HM.out, inB_lo (n := m.kind) g1]; rfl)
    go_wp2
    go_ret
    exact ⟨ret_bool HF.out.symm, by rw [HWW.out]; exact HKB.out⟩
  by_cases g2 : 14 < m.kind
  · have HF : Hid (MM = false) := Lib.hid (by rw [HM.out, inB_hi (n := m.kind) g2]; rfl)
    go_wp2
    go_ret
    exact ⟨ret_bool HF.out.symm, by rw [HWW.out]; exact HKB.out⟩
  rw [inB_in (by omega) (by omega), Bool.true_and] at HM
  clear c0
  cases L1
  case false =>
    cases O1
    case false =>
      go_wp2_with fail
      rw [HWW.out]
      refine wp_region_flow (fun W => Below W2.heap.size W2 W) [0, 1, 2, 3, 4, 5, 6, 7, 8, 9, 10, 11, 12, 13, 14, 15, 16, 17, 19, 20, 21, 22, 18, 23, 24, 25, 26] (by kernel_rfl) (by kernel_rfl) (by kernel_rfl) ((Below.refl _ W2).drew) ?_
      iterate 2
       refine flow_val ?_ rfl (by kernel_rfl) (by rfl) (fun W hW => ?_) ?_
       rotate_left 1
       · go_simp <;> with_reducible rfl
       simp only [puts]
      refine flow_val ?_ rfl (by kernel_rfl) (by rfl) (fun W hW => ?_) ?_
      rotate_left 1
      · have c1 := cell_at (HCA.out W hW) 1; go_simp <;> with_reducible rfl
      simp only [puts]
      refine flow_val ?_ rfl (by kernel_rfl) (by rfl) (fun W hW => ?_) ?_
      rotate_left 1
      · have q := HL1.out; go_simp <;> with_reducible rfl
      simp only [puts]
      refine flow_val ?_ rfl (by kernel_rfl) (by rfl) (fun W hW => ?_) ?_
      rotate_left 1
      · go_simp <;> with_reducible rfl
      simp only [puts]
      iterate 3
       refine flow_off rfl (by kernel_rfl) (by rfl) ?_
       simp only [puts]
      iterate 2
       refine flow_val ?_ rfl (by kernel_rfl) (by rfl) (fun W hW => ?_) ?_
       rotate_left 1
       · go_simp <;> with_reducible rfl
       simp only [puts]
      refine flow_val ?_ rfl (by kernel_rfl) (by rfl) (fun W hW => ?_) ?_
      rotate_left 1
      · have c1 := cell_at (HCA.out W hW) 1; go_simp <;> with_reducible rfl
      simp only [puts]
      refine flow_val ?_ rfl (by kernel_rfl) (by rfl) (fun W hW => ?_) ?_
      rotate_left 1
      · have q := HY1.out; go_simp <;> with_reducible rfl
      simp only [puts]
      refine flow_quiet (.bool false) rfl (by kernel_rfl) (by rfl) (fun W hW => ⟨_, _, by go_simp, HO1.out W hW⟩) ?_
      simp only [puts]
      iterate 2
       refine flow_val ?_ rfl (by kernel_rfl) (by rfl) (fun W hW => ?_) ?_
       rotate_left 1
       · go_simp <;> with_reducible rfl
       simp only [puts]
      iterate 10
       refine flow_off rfl (by kernel_rfl) (by rfl) ?_
       simp only [puts]
      iterate 2
       refine flow_val ?_ rfl (by kernel_rfl) (by rfl) (fun W hW => ?_) ?_
       rotate_left 1
       · go_simp <;> with_reducible rfl
       simp only [puts]
      refine flow_done ?_
      intro W hW
      have HBW := Lib.hid (HKB.out.trans ((hW).mono HKB.out.size))
      clear hW
      go_wp2
      go_ret
      exact ⟨ret_bool HM.out.symm, HBW.out⟩
    cases O2
    case false =>
      go_wp2_with fail
      rw [HWW.out]
      refine wp_region_flow (fun W => Below W2.heap.size W2 W) [0, 1, 2, 3, 4, 5, 6, 7, 8, 9, 10, 11, 12, 13, 14, 15, 16, 17, 19, 20, 21, 22, 18, 23, 24, 25, 26] (by kernel_rfl) (by kernel_rfl) (by kernel_rfl) ((Below.refl _ W2).drew) ?_
      iterate 2
       refine flow_val ?_ rfl (by kernel_rfl) (by rfl) (fun W hW => ?_) ?_
       rotate_left 1
       · go_simp <;> with_reducible rfl
       simp only [puts]
      refine flow_val ?_ rfl (by kernel_rfl) (by rfl) (fun W hW => ?_) ?_
      rotate_left 1
      · have c1 := cell_at (HCA.out W hW) 1; go_simp <;> with_reducible rfl
      simp only [puts]
      refine flow_val ?_ rfl (by kernel_rfl) (by rfl) (fun W hW => ?_) ?_
      rotate_left 1
      · have q := HL1.out; go_simp <;> with_reducible rfl
      simp only [puts]
      refine flow_val ?_ rfl (by kernel_rfl) (by rfl) (fun W hW => ?_) ?_
      rotate_left 1
      · go_simp <;> with_reducible rfl
      simp only [puts]
      iterate 3
       refine flow_off rfl (by kernel_rfl) (by rfl) ?_
       simp only [puts]
      iterate 2
       refine flow_val ?_ rfl (by kernel_rfl) (by rfl) (fun W hW => ?_) ?_
       rotate_left 1
       · go_simp <;> with_reducible rfl
       simp only [puts]
      refine flow_val ?_ rfl (by kernel_rfl) (by rfl) (fun W hW => ?_) ?_
      rotate_left 1
      · have c1 := cell_at (HCA.out W hW) 1; go_simp <;> with_reducible rfl
      simp only [puts]
      refine flow_val ?_ rfl (by kernel_rfl) (by rfl) (fun W hW => ?_) ?_
      rotate_left 1
      · have q := HY1.out; go_simp <;> with_reducible rfl
      simp only [puts]
      refine flow_quiet (.bool true) rfl (by kernel_rfl) (by rfl) (fun W hW => ⟨_, _, by go_simp, HO1.out W hW⟩) ?_
      simp only [puts]
      iterate 4
       refine flow_val ?_ rfl (by kernel_rfl) (by rfl) (fun W hW => ?_) ?_
       rotate_left 1
       · go_simp <;> with_reducible rfl
       simp only [puts]
      iterate 2
       refine flow_val ?_ rfl (by kernel_rfl) (by rfl) (fun W hW => ?_) ?_
       rotate_left 1
       · have c2 := cell_at (HCA.out W hW) 2; go_simp <;> with_reducible rfl
       simp only [puts]
       refine flow_val ?_ rfl (by kernel_rfl) (by rfl) (fun W hW => ?_) ?_
       rotate_left 1
       · go_simp <;> with_reducible rfl
       simp only [puts]
      refine flow_val ?_ rfl (by kernel_rfl) (by rfl) (fun W hW => ?_) ?_
      rotate_left 1
      · have q := HLE.out; go_simp <;> with_reducible rfl
      simp only [puts]
      refine flow_call (.bool MI) rfl (by kernel_rfl) (by rfl) (by kernel_rfl) (fun W hW => ⟨_, _, _, by go_simp, (HMI.out W hW).mono fun e w' ⟨he, hb⟩ => ⟨he, hW.trans (hb.mono hW.size)⟩⟩) ?_
      simp only [puts]
      refine flow_quiet (.bool false) rfl (by kernel_rfl) (by rfl) (fun W hW => ⟨_, _, by go_simp, HO2.out W hW.1⟩) ?_
      simp only [puts]
      iterate 3
       refine flow_val ?_ rfl (by kernel_rfl) (by rfl) (fun W hW => ?_) ?_
       rotate_left 1
       · go_simp <;> with_reducible rfl
       simp only [puts]
      refine flow_done ?_
      intro W hW
      have HBW := Lib.hid (HKB.out.trans ((hW.1).mono HKB.out.size))
      clear hW
      go_wp2
      go_ret
      exact ⟨ret_bool HM.out.symm, HBW.out⟩
    go_wp2_with fail
    rw [HWW.out]
    refine wp_region_flow (fun W => Below W2.heap.size W2 W) [0, 1, 2, 3, 4, 5, 6, 7, 8, 9, 10, 11, 12, 13, 14, 15, 16, 17, 19, 20, 21, 22, 18, 23, 24, 25, 26] (by kernel_rfl) (by kernel_rfl) (by kernel_rfl) ((Below.refl _ W2).drew) ?_
    iterate 2
     refine flow_val ?_ rfl (by kernel_rfl) (by rfl) (fun W hW => ?_) ?_
     rotate_left 1
     · go_simp <;> with_reducible rfl
     simp only [puts]
    refine flow_val ?_ rfl (by kernel_rfl) (by rfl) (fun W hW => ?_) ?_
    rotate_left 1
    · have c1 := cell_at (HCA.out W hW) 1; go_simp <;> with_reducible rfl
    simp only [puts]
    refine flow_val ?_ rfl (by kernel_rfl) (by rfl) (fun W hW => ?_) ?_
    rotate_left 1
    · have q := HL1.out; go_simp <;> with_reducible rfl
    simp only [puts]
    refine flow_val ?_ rfl (by kernel_rfl) (by rfl) (fun W hW => ?_) ?_
    rotate_left 1
    · go_simp <;> with_reducible rfl
    simp only [puts]
    iterate 3
     refine flow_off rfl (by kernel_rfl) (by rfl) ?_
     simp only [puts]
    iterate 2
     refine flow_val ?_ rfl (by kernel_rfl) (by rfl) (fun W hW => ?_) ?_
     rotate_left 1
     · go_simp <;> with_reducible rfl
     simp only [puts]
    refine flow_val ?_ rfl (by kernel_rfl) (by rfl) (fun W hW => ?_) ?_
    rotate_left 1
    · have c1 := cell_at (HCA.out W hW) 1; go_simp <;> with_reducible rfl
    simp only [puts]
    refine flow_val ?_ rfl (by kernel_rfl) (by rfl) (fun W hW => ?_) ?_
    rotate_left 1
    · have q := HY1.out; go_simp <;> with_reducible rfl
    simp only [puts]
    refine flow_quiet (.bool true) rfl (by kernel_rfl) (by rfl) (fun W hW => ⟨_, _, by go_simp, HO1.out W hW⟩) ?_
    simp only [puts]
    iterate 4
     refine flow_val ?_ rfl (by kernel_rfl) (by rfl) (fun W hW => ?_) ?_
     rotate_left 1
     · go_simp <;> with_reducible rfl
     simp only [puts]
    iterate 2
     refine flow_val ?_ rfl (by kernel_rfl) (by rfl) (fun W hW => ?_) ?_
     rotate_left 1
     · have c2 := cell_at (HCA.out W hW) 2; go_simp <;> with_reducible rfl
     simp only [puts]
     refine flow_val ?_ rfl (by kernel_rfl) (by rfl) (fun W hW => ?_) ?_
     rotate_left 1
     · go_simp <;> with_reducible rfl
     simp only [puts]
    refine flow_val ?_ rfl (by kernel_rfl) (by rfl) (fun W hW => ?_) ?_
    rotate_left 1
    · have q := HLE.out; go_simp <;> with_reducible rfl
    simp only [puts]
    refine flow_call (.bool MI) rfl (by kernel_rfl) (by rfl) (by kernel_rfl) (fun W hW => ⟨_, _, _, by go_simp, (HMI.out W hW).mono fun e w' ⟨he, hb⟩ => ⟨he, hW.trans (hb.mono hW.size)⟩⟩) ?_
    simp only [puts]
    refine flow_quiet (.bool true) rfl (by kernel_rfl) (by rfl) (fun W hW => ⟨_, _, by go_simp, HO2.out W hW.1⟩) ?_
    simp only [puts]
    iterate 3
     refine flow_val ?_ rfl (by kernel_rfl) (by rfl) (fun W hW => ?_) ?_
     rotate_left 1
     · go_simp <;> with_reducible rfl
     simp only [puts]
    refine flow_done ?_
    intro W hW
    have HB5 := Lib.hid (hW.1)
    clear hW
    obtain ⟨w5, hw⟩ : ∃ w5, w5 = W := ⟨_, rfl⟩
    subst hw
    cases O3
    case false =>
      go_wp2_with fail
      refine wp_region_flow (fun W => Below W2.heap.size W2 W) [0, 1, 2, 4, 5, 6, 3, 7, 8, 9, 10, 11, 12, 14, 15, 16, 17, 13, 18, 19, 20] (by kernel_rfl) (by kernel_rfl) (by kernel_rfl) (HB5.out.drew) ?_
      iterate 2
       refine flow_val ?_ rfl (by kernel_rfl) (by rfl) (fun W hW => ?_) ?_
       rotate_left 1
       · go_simp <;> with_reducible rfl
       simp only [puts]
      iterate 2
       refine flow_val ?_ rfl (by kernel_rfl) (by rfl) (fun W hW => ?_) ?_
       rotate_left 1
       · have c3 := cell_at (HCA.out W hW) 3; have c4 := cell_at (HCA.out W hW) 4; have c5 := cell_at (HCA.out W hW) 5; have c6 := cell_at (HCA.out W hW) 6; have c7 := cell_at (HCA.out W hW) 7; have c8 := cell_at (HCA.out W hW) 8; have c9 := cell_at (HCA.out W hW) 9; have c10 := cell_at (HCA.out W hW) 10; have c11 := cell_at (HCA.out W hW) 11; go_simp <;> with_reducible rfl
       simp only [puts]
       refine flow_val ?_ rfl (by kernel_rfl) (by rfl) (fun W hW => ?_) ?_
       rotate_left 1
       · go_simp <;> with_reducible rfl
       simp only [puts]
      refine flow_call (.bool MA) rfl (by kernel_rfl) (by rfl) (by kernel_rfl) (fun W hW => ⟨_, _, _, by go_simp, (HMA.out W hW).mono fun e w' ⟨he, hb⟩ => ⟨he, hW.trans (hb.mono hW.size)⟩⟩) ?_
      simp only [puts]
      refine flow_call (.bool EA) rfl (by kernel_rfl) (by rfl) (by kernel_rfl) (fun W hW => ⟨_, _, _, by go_simp, (HEA.out W hW.1).mono fun e w' ⟨he, hb⟩ => ⟨he, ⟨hW.1.trans (hb.mono hW.1.size), trivial⟩⟩⟩) ?_
      simp only [puts]
      refine flow_quiet (.bool false) rfl (by kernel_rfl) (by rfl) (fun W hW => ⟨_, _, by go_simp, HO3.out W hW.1.1⟩) ?_
      simp only [puts]
      refine flow_val ?_ rfl (by kernel_rfl) (by rfl) (fun W hW => ?_) ?_
      rotate_left 1
      · go_simp <;> with_reducible rfl
      simp only [puts]
      iterate 9
       refine flow_off rfl (by kernel_rfl) (by rfl) ?_
       simp only [puts]
      iterate 2
       refine flow_val ?_ rfl (by kernel_rfl) (by rfl) (fun W hW => ?_) ?_
       rotate_left 1
       · go_simp <;> with_reducible rfl
       simp only [puts]
      refine flow_done ?_
      intro W hW
      have HBW := Lib.hid (HKB.out.trans ((hW.1.1).mono HKB.out.size))
      clear hW
      go_wp2
      go_ret
      exact ⟨ret_bool HM.out.symm, HBW.out⟩
    cases O4
    · go_wp2_with fail
      refine wp_region_flow (fun W => Below W2.heap.size W2 W) [0, 1, 2, 4, 5, 6, 3, 7, 8, 9, 10, 11, 12, 14, 15, 16, 17, 13, 18, 19, 20] (by kernel_rfl) (by kernel_rfl) (by kernel_rfl) (HB5.out.drew) ?_
      iterate 2
       refine flow_val ?_ rfl (by kernel_rfl) (by rfl) (fun W hW => ?_) ?_
       rotate_left 1
       · go_simp <;> with_reducible rfl
       simp only [puts]
      iterate 2
       refine flow_val ?_ rfl (by kernel_rfl) (by rfl) (fun W hW => ?_) ?_
       rotate_left 1
       · have c3 := cell_at (HCA.out W hW) 3; have c4 := cell_at (HCA.out W hW) 4; have c5 := cell_at (HCA.out W hW) 5; have c6 := cell_at (HCA.out W hW) 6; have c7 := cell_at (HCA.out W hW) 7; have c8 := cell_at (HCA.out W hW) 8; have c9 := cell_at (HCA.out W hW) 9; have c10 := cell_at (HCA.out W hW) 10; have c11 := cell_at (HCA.out W hW) 11; go_simp <;> with_reducible rfl
       simp only [puts]
       refine flow_val ?_ rfl (by kernel_rfl) (by rfl) (fun W hW => ?_) ?_
       rotate_left 1
       · go_simp <;> with_reducible rfl
       simp only [puts]
      refine flow_call (.bool MA) rfl (by kernel_rfl) (by rfl) (by kernel_rfl) (fun W hW => ⟨_, _, _, by go_simp, (HMA.out W hW).mono fun e w' ⟨he, hb⟩ => ⟨he, hW.trans (hb.mono hW.size)⟩⟩) ?_
      simp only [puts]
      refine flow_call (.bool EA) rfl (by kernel_rfl) (by rfl) (by kernel_rfl) (fun W hW => ⟨_, _, _, by go_simp, (HEA.out W hW.1).mono fun e w' ⟨he, hb⟩ => ⟨he, ⟨hW.1.trans (hb.mono hW.1.size), trivial⟩⟩⟩) ?_
      simp only [puts]
      refine flow_quiet (.bool true) rfl (by kernel_rfl) (by rfl) (fun W hW => ⟨_, _, by go_simp, HO3.out W hW.1.1⟩) ?_
      simp only [puts]
      iterate 3
       refine flow_val ?_ rfl (by kernel_rfl) (by rfl) (fun W hW => ?_) ?_
       rotate_left 1
       · go_simp <;> with_reducible rfl
       simp only [puts]
      iterate 2
       refine flow_val ?_ rfl (by kernel_rfl) (by rfl) (fun W hW => ?_) ?_
       rotate_left 1
       · have c12 := cell_at (HCA.out W hW.1.1) 12; have c13 := cell_at (HCA.out W hW.1.1) 13; have c14 := cell_at (HCA.out W hW.1.1) 14; have c15 := cell_at (HCA.out W hW.1.1) 15; go_simp <;> with_reducible rfl
       simp only [puts]
       refine flow_val ?_ rfl (by kernel_rfl) (by rfl) (fun W hW => ?_) ?_
       rotate_left 1
       · go_simp <;> with_reducible rfl
       simp only [puts]
      refine flow_val ?_ rfl (by kernel_rfl) (by rfl) (fun W hW => ?_) ?_
      rotate_left 1
      · go_simp <;> exact HIF.out W
      simp only [puts]
      refine flow_call (.bool YY) rfl (by kernel_rfl) (by rfl) (by kernel_rfl) (fun W hW => ⟨_, _, _, by go_simp, (HYY.out W).mono fun e w' ⟨he, hb⟩ => ⟨he, ⟨⟨hW.1.1.trans (hb.mono hW.1.1.size), trivial⟩, trivial⟩⟩⟩) ?_
      simp only [puts]
      refine flow_quiet (.bool false) rfl (by kernel_rfl) (by rfl) (fun W hW => ⟨_, _, by go_simp, HO4.out W hW.1.1.1⟩) ?_
      simp only [puts]
      iterate 2
       refine flow_val ?_ rfl (by kernel_rfl) (by rfl) (fun W hW => ?_) ?_
       rotate_left 1
       · go_simp <;> with_reducible rfl
       simp only [puts]
      refine flow_done ?_
      intro W hW
      have HBW := Lib.hid (HKB.out.trans ((hW.1.1.1).mono HKB.out.size))
      clear hW
      go_wp2
      go_ret
      exact ⟨ret_bool HM.out.symm, HBW.out⟩
    · go_wp2_with fail
      refine wp_region_flow (fun W => Below W2.heap.size W2 W) [0, 1, 2, 4, 5, 6, 3, 7, 8, 9, 10, 11, 12, 14, 15, 16, 17, 13, 18, 19, 20] (by kernel_rfl) (by kernel_rfl) (by kernel_rfl) (HB5.out.drew) ?_
      iterate 2
       refine flow_val ?_ rfl (by kernel_rfl) (by rfl) (fun W hW => ?_) ?_
       rotate_left 1
       · go_simp <;> with_reducible rfl
       simp only [puts]
      iterate 2
       refine flow_val ?_ rfl (by kernel_rfl) (by rfl) (fun W hW => ?_) ?_
       rotate_left 1
       · have c3 := cell_at (HCA.out W hW) 3; have c4 := cell_at (HCA.out W hW) 4; have c5 := cell_at (HCA.out W hW) 5; have c6 := cell_at (HCA.out W hW) 6; have c7 := cell_at (HCA.out W hW) 7; have c8 := cell_at (HCA.out W hW) 8; have c9 := cell_at (HCA.out W hW) 9; have c10 := cell_at (HCA.out W hW) 10; have c11 := cell_at (HCA.out W hW) 11; go_simp <;> with_reducible rfl
       simp only [puts]
       refine flow_val ?_ rfl (by kernel_rfl) (by rfl) (fun W hW => ?_) ?_
       rotate_left 1
       · go_simp <;> with_reducible rfl
       simp only [puts]
      refine flow_call (.bool MA) rfl (by kernel_rfl) (by rfl) (by kernel_rfl) (fun W hW => ⟨_, _, _, by go_simp, (HMA.out W hW).mono fun e w' ⟨he, hb⟩ => ⟨he, hW.trans (hb.mono hW.size)⟩⟩) ?_
      simp only [puts]
      refine flow_call (.bool EA) rfl (by kernel_rfl) (by rfl) (by kernel_rfl) (fun W hW => ⟨_, _, _, by go_simp, (HEA.out W hW.1).mono fun e w' ⟨he, hb⟩ => ⟨he, ⟨hW.1.trans (hb.mono hW.1.size), trivial⟩⟩⟩) ?_
      simp only [puts]
      refine flow_quiet (.bool true) rfl (by kernel_rfl) (by rfl) (fun W hW => ⟨_, _, by go_simp, HO3.out W hW.1.1⟩) ?_
      simp only [puts]
      iterate 3
       refine flow_val ?_ rfl (by kernel_rfl) (by rfl) (fun W hW => ?_) ?_
       rotate_left 1
       · go_simp <;> with_reducible rfl
       simp only [puts]
      iterate 2
       refine flow_val ?_ rfl (by kernel_rfl) (by rfl) (fun W hW => ?_) ?_
       rotate_left 1
       · have c12 := cell_at (HCA.out W hW.1.1) 12; have c13 := cell_at (HCA.out W hW.1.1) 13; have c14 := cell_at (HCA.out W hW.1.1) 14; have c15 := cell_at (HCA.out W hW.1.1) 15; go_simp <;> with_reducible rfl
       simp only [puts]
       refine flow_val ?_ rfl (by kernel_rfl) (by rfl) (fun W hW => ?_) ?_
       rotate_left 1
       · go_simp <;> with_reducible rfl
       simp only [puts]
      refine flow_val ?_ rfl (by kernel_rfl) (by rfl) (fun W hW => ?_) ?_
      rotate_left 1
      · go_simp <;> exact HIF.out W
      simp only [puts]
      refine flow_call (.bool YY) rfl (by kernel_rfl) (by rfl) (by kernel_rfl) (fun W hW => ⟨_, _, _, by go_simp, (HYY.out W).mono fun e w' ⟨he, hb⟩ => ⟨he, ⟨⟨hW.1.1.trans (hb.mono hW.1.1.size), trivial⟩, trivial⟩⟩⟩) ?_
      simp only [puts]
      refine flow_quiet (.bool true) rfl (by kernel_rfl) (by rfl) (fun W hW => ⟨_, _, by go_simp, HO4.out W hW.1.1.1⟩) ?_
      simp only [puts]
      iterate 2
       refine flow_val ?_ rfl (by kernel_rfl) (by rfl) (fun W hW => ?_) ?_
       rotate_left 1
       · go_simp <;> with_reducible rfl
       simp only [puts]
      refine flow_done ?_
      intro W hW
      have HBW := Lib.hid (HKB.out.trans ((hW.1.1.1).mono HKB.out.size))
      clear hW
      go_wp2
      go_ret
      exact ⟨ret_bool HM.out.symm, HBW.out⟩
  case true =>
    cases O1
    case false =>
      go_wp2_with fail
      rw [HWW.out]
      refine wp_region_flow (fun W => Below W2.heap.size W2 W) [0, 1, 2, 3, 4, 5, 6, 7, 8, 9, 10, 11, 12, 13, 14, 15, 16, 17, 19, 20, 21, 22, 18, 23, 24, 25, 26] (by kernel_rfl) (by kernel_rfl) (by kernel_rfl) ((Below.refl _ W2).drew) ?_
      iterate 2
       refine flow_val ?_ rfl (by kernel_rfl) (by rfl) (fun W hW => ?_) ?_
       rotate_left 1
       · go_simp <;> with_reducible rfl
       simp only [puts]
      refine flow_val ?_ rfl (by kernel_rfl) (by rfl) (fun W hW => ?_) ?_
      rotate_left 1
      · have c1 := cell_at (HCA.out W hW) 1; go_simp <;> with_reducible rfl
      simp only [puts]
      refine flow_val ?_ rfl (by kernel_rfl) (by rfl) (fun W hW => ?_) ?_
      rotate_left 1
      · have q := HL1.out; go_simp <;> with_reducible rfl
      simp only [puts]
      iterate 2
       refine flow_val ?_ rfl (by kernel_rfl) (by rfl) (fun W hW => ?_) ?_
       rotate_left 1
       · go_simp <;> with_reducible rfl
       simp only [puts]
      refine flow_val ?_ rfl (by kernel_rfl) (by rfl) (fun W hW => ?_) ?_
      rotate_left 1
      · have c1 := cell_at (HCA.out W hW) 1; go_simp <;> with_reducible rfl
      simp only [puts]
      refine flow_val ?_ rfl (by kernel_rfl) (by rfl) (fun W hW => ?_) ?_
      rotate_left 1
      · have q := HL2.out; go_simp <;> with_reducible rfl
      simp only [puts]
      iterate 2
       refine flow_val ?_ rfl (by kernel_rfl) (by rfl) (fun W hW => ?_) ?_
       rotate_left 1
       · go_simp <;> with_reducible rfl
       simp only [puts]
      refine flow_val ?_ rfl (by kernel_rfl) (by rfl) (fun W hW => ?_) ?_
      rotate_left 1
      · have c1 := cell_at (HCA.out W hW) 1; go_simp <;> with_reducible rfl
      simp only [puts]
      refine flow_val ?_ rfl (by kernel_rfl) (by rfl) (fun W hW => ?_) ?_
      rotate_left 1
      · have q := HY1.out; go_simp <;> with_reducible rfl
      simp only [puts]
      refine flow_quiet (.bool false) rfl (by kernel_rfl) (by rfl) (fun W hW => ⟨_, _, by go_simp, HO1.out W hW⟩) ?_
      simp only [puts]
      iterate 2
       refine flow_val ?_ rfl (by kernel_rfl) (by rfl) (fun W hW => ?_) ?_
       rotate_left 1
       · go_simp <;> with_reducible rfl
       simp only [puts]
      iterate 10
       refine flow_off rfl (by kernel_rfl) (by rfl) ?_
       simp only [puts]
      iterate 2
       refine flow_val ?_ rfl (by kernel_rfl) (by rfl) (fun W hW => ?_) ?_
       rotate_left 1
       · go_simp <;> with_reducible rfl
       simp only [puts]
      refine flow_done ?_
      intro W hW
      have HBW := Lib.hid (HKB.out.trans ((hW).mono HKB.out.size))
      clear hW
      go_wp2
      go_ret
      exact ⟨ret_bool HM.out.symm, HBW.out⟩
    cases O2
    case false =>
      go_wp2_with fail
      rw [HWW.out]
      refine wp_region_flow (fun W => Below W2.heap.size W2 W) [0, 1, 2, 3, 4, 5, 6, 7, 8, 9, 10, 11, 12, 13, 14, 15, 16, 17, 19, 20, 21, 22, 18, 23, 24, 25, 26] (by kernel_rfl) (by kernel_rfl) (by kernel_rfl) ((Below.refl _ W2).drew) ?_
      iterate 2
       refine flow_val ?_ rfl (by kernel_rfl) (by rfl) (fun W hW => ?_) ?_
       rotate_left 1
       · go_simp <;> with_reducible rfl
       simp only [puts]
      refine flow_val ?_ rfl (by kernel_rfl) (by rfl) (fun W hW => ?_) ?_
      rotate_left 1
      · have c1 := cell_at (HCA.out W hW) 1; go_simp <;> with_reducible rfl
      simp only [puts]
      refine flow_val ?_ rfl (by kernel_rfl) (by rfl) (fun W hW => ?_) ?_
      rotate_left 1
      · have q := HL1.out; go_simp <;> with_reducible rfl
      simp only [puts]
      iterate 2
       refine flow_val ?_ rfl (by kernel_rfl) (by rfl) (fun W hW => ?_) ?_
       rotate_left 1
       · go_simp <;> with_reducible rfl
       simp only [puts]
      refine flow_val ?_ rfl (by kernel_rfl) (by rfl) (fun W hW => ?_) ?_
      rotate_left 1
      · have c1 := cell_at (HCA.out W hW) 1; go_simp <;> with_reducible rfl
      simp only [puts]
      refine flow_val ?_ rfl (by kernel_rfl) (by rfl) (fun W hW => ?_) ?_
      rotate_left 1
      · have q := HL2.out; go_simp <;> with_reducible rfl
      simp only [puts]
      iterate 2
       refine flow_val ?_ rfl (by kernel_rfl) (by rfl) (fun W hW => ?_) ?_
       rotate_left 1
       · go_simp <;> with_reducible rfl
       simp only [puts]
      refine flow_val ?_ rfl (by kernel_rfl) (by rfl) (fun W hW => ?_) ?_
      rotate_left 1
      · have c1 := cell_at (HCA.out W hW) 1; go_simp <;> with_reducible rfl
      simp only [puts]
      refine flow_val ?_ rfl (by kernel_rfl) (by rfl) (fun W hW => ?_) ?_
      rotate_left 1
      · have q := HY1.out; go_simp <;> with_reducible rfl
      simp only [puts]
      refine flow_quiet (.bool true) rfl (by kernel_rfl) (by rfl) (fun W hW => ⟨_, _, by go_simp, HO1.out W hW⟩) ?_
      simp only [puts]
      iterate 4
       refine flow_val ?_ rfl (by kernel_rfl) (by rfl) (fun W hW => ?_) ?_
       rotate_left 1
       · go_simp <;> with_reducible rfl
       simp only [puts]
      iterate 2
       refine flow_val ?_ rfl (by kernel_rfl) (by rfl) (fun W hW => ?_) ?_
       rotate_left 1
       · have c2 := cell_at (HCA.out W hW) 2; go_simp <;> with_reducible rfl
       simp only [puts]
       refine flow_val ?_ rfl (by kernel_rfl) (by rfl) (fun W hW => ?_) ?_
       rotate_left 1
       · go_simp <;> with_reducible rfl
       simp only [puts]
      refine flow_val ?_ rfl (by kernel_rfl) (by rfl) (fun W hW => ?_) ?_
      rotate_left 1
      · have q := HLE.out; go_simp <;> with_reducible rfl
      simp only [puts]
      refine flow_call (.bool MI) rfl (by kernel_rfl) (by rfl) (by kernel_rfl) (fun W hW => ⟨_, _, _, by go_simp, (HMI.out W hW).mono fun e w' ⟨he, hb⟩ => ⟨he, hW.trans (hb.mono hW.size)⟩⟩) ?_
      simp only [puts]
      refine flow_quiet (.bool false) rfl (by kernel_rfl) (by rfl) (fun W hW => ⟨_, _, by go_simp, HO2.out W hW.1⟩) ?_
      simp only [puts]
      iterate 3
       refine flow_val ?_ rfl (by kernel_rfl) (by rfl) (fun W hW => ?_) ?_
       rotate_left 1
       · go_simp <;> with_reducible rfl
       simp only [puts]
      refine flow_done ?_
      intro W hW
      have HBW := Lib.hid (HKB.out.trans ((hW.1).mono HKB.out.size))
      clear hW
      go_wp2
      go_ret
      exact ⟨ret_bool HM.out.symm, HBW.out⟩
    go_wp2_with fail
    rw [HWW.out]
    refine wp_region_flow (fun W => Below W2.heap.size W2 W) [0, 1, 2, 3, 4, 5, 6, 7, 8, 9, 10, 11, 12, 13, 14, 15, 16, 17, 19, 20, 21, 22, 18, 23, 24, 25, 26] (by kernel_rfl) (by kernel_rfl) (by kernel_rfl) ((Below.refl _ W2).drew) ?_
    iterate 2
     refine flow_val ?_ rfl (by kernel_rfl) (by rfl) (fun W hW => ?_) ?_
     rotate_left 1
     · go_simp <;> with_reducible rfl
     simp only [puts]
    refine flow_val ?_ rfl (by kernel_rfl) (by rfl) (fun W hW => ?_) ?_
    rotate_left 1
    · have c1 := cell_at (HCA.out W hW) 1; go_simp <;> with_reducible rfl
    simp only [puts]
    refine flow_val ?_ rfl (by kernel_rfl) (by rfl) (fun W hW => ?_) ?_
    rotate_left 1
    · have q := HL1.out; go_simp <;> with_reducible rfl
    simp only [puts]
    iterate 2
     refine flow_val ?_ rfl (by kernel_rfl) (by rfl) (fun W hW => ?_) ?_
     rotate_left 1
     · go_simp <;> with_reducible rfl
     simp only [puts]
    refine flow_val ?_ rfl (by kernel_rfl) (by rfl) (fun W hW => ?_) ?_
    rotate_left 1
    · have c1 := cell_at (HCA.out W hW) 1; go_simp <;> with_reducible rfl
    simp only [puts]
    refine flow_val ?_ rfl (by kernel_rfl) (by rfl) (fun W hW => ?_) ?_
    rotate_left 1
    · have q := HL2.out; go_simp <;> with_reducible rfl
    simp only [puts]
    iterate 2
     refine flow_val ?_ rfl (by kernel_rfl) (by rfl) (fun W hW => ?_) ?_
     rotate_left 1
     · go_simp <;> with_reducible rfl
     simp only [puts]
    refine flow_val ?_ rfl (by kernel_rfl) (by rfl) (fun W hW => ?_) ?_
    rotate_left 1
    · have c1 := cell_at (HCA.out W hW) 1; go_simp <;> with_reducible rfl
    simp only [puts]
    refine flow_val ?_ rfl (by kernel_rfl) (by rfl) (fun W hW => ?_) ?_
    rotate_left 1
    · have q := HY1.out; go_simp <;> with_reducible rfl
    simp only [puts]
    refine flow_quiet (.bool true) rfl (by kernel_rfl) (by rfl) (fun W hW => ⟨_, _, by go_simp, HO1.out W hW⟩) ?_
    simp only [puts]
    iterate 4
     refine flow_val ?_ rfl (by kernel_rfl) (by rfl) (fun W hW => ?_) ?_
     rotate_left 1
     · go_simp <;> with_reducible rfl
     simp only [puts]
    iterate 2
     refine flow_val ?_ rfl (by kernel_rfl) (by rfl) (fun W hW => ?_) ?_
     rotate_left 1
     · have c2 := cell_at (HCA.out W hW) 2; go_simp <;> with_reducible rfl
     simp only [puts]
     refine flow_val ?_ rfl (by kernel_rfl) (by rfl) (fun W hW => ?_) ?_
     rotate_left 1
     · go_simp <;> with_reducible rfl
     simp only [puts]
    refine flow_val ?_ rfl (by kernel_rfl) (by rfl) (fun W hW => ?_) ?_
    rotate_left 1
    · have q := HLE.out; go_simp <;> with_reducible rfl
    simp only [puts]
    refine flow_call (.bool MI) rfl (by kernel_rfl) (by rfl) (by kernel_rfl) (fun W hW => ⟨_, _, _, by go_simp, (HMI.out W hW).mono fun e w' ⟨he, hb⟩ => ⟨he, hW.trans (hb.mono hW.size)⟩⟩) ?_
    simp only [puts]
    refine flow_quiet (.bool true) rfl (by kernel_rfl) (by rfl) (fun W hW => ⟨_, _, by go_simp, HO2.out W hW.1⟩) ?_
    simp only [puts]
    iterate 3
     refine flow_val ?_ rfl (by kernel_rfl) (by rfl) (fun W hW => ?_) ?_
     rotate_left 1
     · go_simp <;> with_reducible rfl
     simp only [puts]
    refine flow_done ?_
    intro W hW
    have HB5 := Lib.hid (hW.1)
    clear hW
    obtain ⟨w5, hw⟩ : ∃ w5, w5 = W := ⟨_, rfl⟩
    subst hw
    cases O3
    case false =>
      go_wp2_with fail
      refine wp_region_flow (fun W => Below W2.heap.size W2 W) [0, 1, 2, 4, 5, 6, 3, 7, 8, 9, 10, 11, 12, 14, 15, 16, 17, 13, 18, 19, 20] (by kernel_rfl) (by kernel_rfl) (by kernel_rfl) (HB5.out.drew) ?_
      iterate 2
       refine flow_val ?_ rfl (by kernel_rfl) (by rfl) (fun W hW => ?_) ?_
       rotate_left 1
       · go_simp <;> with_reducible rfl
       simp only [puts]
      iterate 2
       refine flow_val ?_ rfl (by kernel_rfl) (by rfl) (fun W hW => ?_) ?_
       rotate_left 1
       · have c3 := cell_at (HCA.out W hW) 3; have c4 := cell_at (HCA.out W hW) 4; have c5 := cell_at (HCA.out W hW) 5; have c6 := cell_at (HCA.out W hW) 6; have c7 := cell_at (HCA.out W hW) 7; have c8 := cell_at (HCA.out W hW) 8; have c9 := cell_at (HCA.out W hW) 9; have c10 := cell_at (HCA.out W hW) 10; have c11 := cell_at (HCA.out W hW) 11; go_simp <;> with_reducible rfl
       simp only [puts]
       refine flow_val ?_ rfl (by kernel_rfl) (by rfl) (fun W hW => ?_) ?_
       rotate_left 1
       · go_simp <;> with_reducible rfl
       simp only [puts]
      refine flow_call (.bool MA) rfl (by kernel_rfl) (by rfl) (by kernel_rfl) (fun W hW => ⟨_, _, _, by go_simp, (HMA.out W hW).mono fun e w' ⟨he, hb⟩ => ⟨he, hW.trans (hb.mono hW.size)⟩⟩) ?_
      simp only [puts]
      refine flow_call (.bool EA) rfl (by kernel_rfl) (by rfl) (by kernel_rfl) (fun W hW => ⟨_, _, _, by go_simp, (HEA.out W hW.1).mono fun e w' ⟨he, hb⟩ => ⟨he, ⟨hW.1.trans (hb.mono hW.1.size), trivial⟩⟩⟩) ?_
      simp only [puts]
      refine flow_quiet (.bool false) rfl (by kernel_rfl) (by rfl) (fun W hW => ⟨_, _, by go_simp, HO3.out W hW.1.1⟩) ?_
      simp only [puts]
      refine flow_val ?_ rfl (by kernel_rfl) (by rfl) (fun W hW => ?_) ?_
      rotate_left 1
      · go_simp <;> with_reducible rfl
      simp only [puts]
      iterate 9
       refine flow_off rfl (by kernel_rfl) (by rfl) ?_
       simp only [puts]
      iterate 2
       refine flow_val ?_ rfl (by kernel_rfl) (by rfl) (fun W hW => ?_) ?_
       rotate_left 1
       · go_simp <;> with_reducible rfl
       simp only [puts]
      refine flow_done ?_
      intro W hW
      have HBW := Lib.hid (HKB.out.trans ((hW.1.1).mono HKB.out.size))
      clear hW
      go_wp2
      go_ret
      exact ⟨ret_bool HM.out.symm, HBW.out⟩
    cases O4
    · go_wp2_with fail
      refine wp_region_flow (fun W => Below W2.heap.size W2 W) [0, 1, 2, 4, 5, 6, 3, 7, 8, 9, 10, 11, 12, 14, 15, 16, 17, 13, 18, 19, 20] (by kernel_rfl) (by kernel_rfl) (by kernel_rfl) (HB5.out.drew) ?_
      iterate 2
       refine flow_val ?_ rfl (by kernel_rfl) (by rfl) (fun W hW => ?_) ?_
       rotate_left 1
       · go_simp <;> with_reducible rfl
       simp only [puts]
      iterate 2
       refine flow_val ?_ rfl (by kernel_rfl) (by rfl) (fun W hW => ?_) ?_
       rotate_left 1
       · have c3 := cell_at (HCA.out W hW) 3; have c4 := cell_at (HCA.out W hW) 4; have c5 := cell_at (HCA.out W hW) 5; have c6 := cell_at (HCA.out W hW) 6; have c7 := cell_at (HCA.out W hW) 7; have c8 := cell_at (HCA.out W hW) 8; have c9 := cell_at (HCA.out W hW) 9; have c10 := cell_at (HCA.out W hW) 10; have c11 := cell_at (HCA.out W hW) 11; go_simp <;> with_reducible rfl
       simp only [puts]
       refine flow_val ?_ rfl (by kernel_rfl) (by rfl) (fun W hW => ?_) ?_
       rotate_left 1
       · go_simp <;> with_reducible rfl
       simp only [puts]
      refine flow_call (.bool MA) rfl (by kernel_rfl) (by rfl) (by kernel_rfl) (fun W hW => ⟨_, _, _, by go_simp, (HMA.out W hW).mono fun e w' ⟨he, hb⟩ => ⟨he, hW.trans (hb.mono hW.size)⟩⟩) ?_
      simp only [puts]
      refine flow_call (.bool EA) rfl (by kernel_rfl) (by rfl) (by kernel_rfl) (fun W hW => ⟨_, _, _, by go_simp, (HEA.out W hW.1).mono fun e w' ⟨he, hb⟩ => ⟨he, ⟨hW.1.trans (hb.mono hW.1.size), trivial⟩⟩⟩) ?_
      simp only [puts]
      refine flow_quiet (.bool true) rfl (by kernel_rfl) (by rfl) (fun W hW => ⟨_, _, by go_simp, HO3.out W hW.1.1⟩) ?_
      simp only [puts]
      iterate 3
       refine flow_val ?_ rfl (by kernel_rfl) (by rfl) (fun W hW => ?_) ?_
       rotate_left 1
       · go_simp <;> with_reducible rfl
       simp only [puts]
      iterate 2
       refine flow_val ?_ rfl (by kernel_rfl) (by rfl) (fun W hW => ?_) ?_
       rotate_left 1
       · have c12 := cell_at (HCA.out W hW.1.1) 12; have c13 := cell_at (HCA.out W hW.1.1) 13; have c14 := cell_at (HCA.out W hW.1.1) 14; have c15 := cell_at (HCA.out W hW.1.1) 15; go_simp <;> with_reducible rfl
       simp only [puts]
       refine flow_val ?_ rfl (by kernel_rfl) (by rfl) (fun W hW => ?_) ?_
       rotate_left 1
       · go_simp <;> with_reducible rfl
       simp only [puts]
      refine flow_val ?_ rfl (by kernel_rfl) (by rfl) (fun W hW => ?_) ?_
      rotate_left 1
      · go_simp <;> exact HIF.out W
      simp only [puts]
      refine flow_call (.bool YY) rfl (by kernel_rfl) (by rfl) (by kernel_rfl) (fun W hW => ⟨_, _, _, by go_simp, (HYY.out W).mono fun e w' ⟨he, hb⟩ => ⟨he, ⟨⟨hW.1.1.trans (hb.mono hW.1.1.size), trivial⟩, trivial⟩⟩⟩) ?_
      simp only [puts]
      refine flow_quiet (.bool false) rfl (by kernel_rfl) (by rfl) (fun W hW => ⟨_, _, by go_simp, HO4.out W hW.1.1.1⟩) ?_
      simp only [puts]
      iterate 2
       refine flow_val ?_ rfl (by kernel_rfl) (by rfl) (fun W hW => ?_) ?_
       rotate_left 1
       · go_simp <;> with_reducible rfl
       simp only [puts]
      refine flow_done ?_
      intro W hW
      have HBW := Lib.hid (HKB.out.trans ((hW.1.1.1).mono HKB.out.size))
      clear hW
      go_wp2
      go_ret
      exact ⟨ret_bool HM.out.symm, HBW.out⟩
    · go_wp2_with fail
      refine wp_region_flow (fun W => Below W2.heap.size W2 W) [0, 1, 2, 4, 5, 6, 3, 7, 8, 9, 10, 11, 12, 14, 15, 16, 17, 13, 18, 19, 20] (by kernel_rfl) (by kernel_rfl) (by kernel_rfl) (HB5.out.drew) ?_
      iterate 2
       refine flow_val ?_ rfl (by kernel_rfl) (by rfl) (fun W hW => ?_) ?_
       rotate_left 1
       · go_simp <;> with_reducible rfl
       simp only [puts]
      iterate 2
       refine flow_val ?_ rfl (by kernel_rfl) (by rfl) (fun W hW => ?_) ?_
       rotate_left 1
       · have c3 := cell_at (HCA.out W hW) 3; have c4 := cell_at (HCA.out W hW) 4; have c5 := cell_at (HCA.out W hW) 5; have c6 := cell_at (HCA.out W hW) 6; have c7 := cell_at (HCA.out W hW) 7; have c8 := cell_at (HCA.out W hW) 8; have c9 := cell_at (HCA.out W hW) 9; have c10 := cell_at (HCA.out W hW) 10; have c11 := cell_at (HCA.out W hW) 11; go_simp <;> with_reducible rfl
       simp only [puts]
       refine flow_val ?_ rfl (by kernel_rfl) (by rfl) (fun W hW => ?_) ?_
       rotate_left 1
       · go_simp <;> with_reducible rfl
       simp only [puts]
      refine flow_call (.bool MA) rfl (by kernel_rfl) (by rfl) (by kernel_rfl) (fun W hW => ⟨_, _, _, by go_simp, (HMA.out W hW).mono fun e w' ⟨he, hb⟩ => ⟨he, hW.trans (hb.mono hW.size)⟩⟩) ?_
      simp only [puts]
      refine flow_call (.bool EA) rfl (by kernel_rfl) (by rfl) (by kernel_rfl) (fun W hW => ⟨_, _, _, by go_simp, (HEA.out W hW.1).mono fun e w' ⟨he, hb⟩ => ⟨he, ⟨hW.1.trans (hb.mono hW.1.size), trivial⟩⟩⟩) ?_
      simp only [puts]
      refine flow_quiet (.bool true) rfl (by kernel_rfl) (by rfl) (fun W hW => ⟨_, _, by go_simp, HO3.out W hW.1.1⟩) ?_
      simp only [puts]
      iterate 3
       refine flow_val ?_ rfl (by kernel_rfl) (by rfl) (fun W hW => ?_) ?_
       rotate_left 1
       · go_simp <;> with_reducible rfl
       simp only [puts]
      iterate 2
       refine flow_val ?_ rfl (by kernel_rfl) (by rfl) (fun W hW => ?_) ?_
       rotate_left 1
       · have c12 := cell_at (HCA.out W hW.1.1) 12; have c13 := cell_at (HCA.out W hW.1.1) 13; have c14 := cell_at (HCA.out W hW.1.1) 14; have c15 := cell_at (HCA.out W hW.1.1) 15; go_simp <;> with_reducible rfl
       simp only [puts]
       refine flow_val ?_ rfl (by kernel_rfl) (by rfl) (fun W hW => ?_) ?_
       rotate_left 1
       · go_simp <;> with_reducible rfl
       simp only [puts]
      refine flow_val ?_ rfl (by kernel_rfl) (by rfl) (fun W hW => ?_) ?_
      rotate_left 1
      · go_simp <;> exact HIF.out W
      simp only [puts]
      refine flow_call (.bool YY) rfl (by kernel_rfl) (by rfl) (by kernel_rfl) (fun W hW => ⟨_, _, _, by go_simp, (HYY.out W).mono fun e w' ⟨he, hb⟩ => ⟨he, ⟨⟨hW.1.1.trans (hb.mono hW.1.1.size), trivial⟩, trivial⟩⟩⟩) ?_
      simp only [puts]
      refine flow_quiet (.bool true) rfl (by kernel_rfl) (by rfl) (fun W hW => ⟨_, _, by go_simp, HO4.out W hW.1.1.1⟩) ?_
      simp only [puts]
      iterate 2
       refine flow_val ?_ rfl (by kernel_rfl) (by rfl) (fun W hW => ?_) ?_
       rotate_left 1
       · go_simp <;> with_reducible rfl
       simp only [puts]
      refine flow_done ?_
      intro W hW
      have HBW := Lib.hid (HKB.out.trans ((hW.1.1.1).mono HKB.out.size))
      clear hW
      go_wp2
      go_ret
      exact ⟨ret_bool HM.out.symm, HBW.out⟩
end Go.Proofs.Ytpccbobomppdbaa
