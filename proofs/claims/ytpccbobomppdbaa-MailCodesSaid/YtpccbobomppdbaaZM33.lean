/- The reference's Encode of a mail. -/
import Derived.Test.YtpccbobomppdbaaZM12
import Derived.Test.YtpccbobomppdbaaZM13
import Derived.Test.YtpccbobomppdbaaZM32
namespace Go.Proofs.Ytpccbobomppdbaa
open Go.RowKit

set_option maxRecDepth 100000 in
set_option maxHeartbeats 2000000 in
theorem xmenc_any (m : Ml) (A : Option Addr) (c : Nat) (A' : Option Addr) (c' : Nat) (w : World) (hr : Rd w 2 A m.items.length (m.items.flatMap encI)) (hr' : Rd w 2 A' m.ask.items.length (m.ask.items.flatMap encI)) (hm : mayM m = true) (hi : I64 m.yN) :
    Calls Try.prog 17 #[mlV m (.slice A m.items.length c) (.slice A' m.ask.items.length c')] w (RetOw w (encM m)) := by
  have hl := mayM_lim hm
  have h16 := (mayI_at hl.items).1
  have HPI : Hid (∀ z ∈ m.items, z.good.size ≤ 16 ∧ -9223372036854775808 ≤ z.n ∧ z.n ≤ 9223372036854775807) := Lib.hid (fun z hz => by obtain ⟨h1, h2, h3⟩ := mayI_item hl.items z hz; exact ⟨h1, by omega, by omega⟩)
  have HPL := Lib.hid (itemsB_le (l := m.items) (fun z hz => (HPI.out z hz).1))
  have HEB : Hid (encM m = numB m.kind ++ numB m.order ++ (numB m.items.length ++ itemsB m.items) ++ textB (codeK m.ask) ++ (if hasM m.kind 121 = true then numB m.yc ++ numB m.yn ++ numB m.yd ++ numB m.yN else [])) := Lib.hid (by unfold encM ysM; simp only [numsB, List.append_assoc, List.append_nil])
  have HI : Hid (I64 m.kind ∧ I64 m.order) := Lib.hid (by have h1 := hl.kind; have h2 := hl.order; unfold I64; omega)
  have HY : Hid (hasM m.kind 121 = true → I64 m.yc ∧ I64 m.yn ∧ I64 m.yd ∧ I64 m.yN) := Lib.hid (fun hk => by have h1 := hl.ys hk; exact ⟨by unfold I64; omega, by unfold I64; omega, by unfold I64; omega, hi⟩)
  have hA3 : mayM3 m = true := by
    have h := hm
    unfold mayM at h
    simp only [Bool.and_eq_true] at h
    exact h.2.2.2.1
  have HXA : Hid (hasM m.kind 97 = true → ∀ W, Below w.heap.size w W → Calls Try.prog 47 #[akV m.ask (.slice A' m.ask.items.length c')] W (RetOw W (codeK m.ask))) := Lib.hid (fun hk W hW => by
    unfold mayM3 rightM at hA3
    rw [if_pos hk] at hA3
    have e : codeK m.ask = encA m.ask := by unfold codeK; rw [if_pos hA3]
    rw [e]
    exact xaenc_any m.ask A' c' W (hr'.below hW) (mayA_lim hA3))
  have HXN : Hid (hasM m.kind 97 = false → codeK m.ask = []) := Lib.hid (fun hk => by
    unfold mayM3 rightM at hA3
    rw [if_neg (by rw [hk]; simp)] at hA3
    rw [eqA_iff.1 hA3]
    unfold codeK
    rw [zeroK_may]
    rfl)
  have HCL := Lib.hid (codeK_lt m.ask)
  have HCE := Lib.hid (codeK_le m.ask)
  have HHa := Lib.hid (fun W => xmhasf_any m.kind 97 W)
  have HHy := Lib.hid (fun W => xmhasf_any m.kind 121 W)
  obtain ⟨EN, hEN⟩ : ∃ EN, encM m = EN := ⟨_, rfl⟩
  rw [hEN] at HEB ⊢
  obtain ⟨CK, hCK⟩ : ∃ CK, codeK m.ask = CK := ⟨_, rfl⟩
  rw [hCK] at HEB HXN HCL HCE
  simp only [hCK] at HXA
  obtain ⟨BA, hBA⟩ : ∃ E, hasM m.kind 97 = E := ⟨_, rfl⟩
  obtain ⟨BY, hBY⟩ : ∃ E, hasM m.kind 121 = E := ⟨_, rfl⟩
  simp only [hBA] at HHa HXA HXN
  simp only [hBY] at HHy HEB HY
  obtain ⟨la, hla⟩ : ∃ l, m.items.length = l := ⟨_, rfl⟩
  obtain ⟨ka, hka⟩ : ∃ l, m.ask.items.length = l := ⟨_, rfl⟩
  rw [hla] at hr h16 HEB HPL ⊢
  rw [hka] at HXA ⊢
  have HLM := Lib.hid hla
  have k0 := block_new w (.cells #[.int .i64 m.kind, .int .i64 m.order, .slice A la c, .int .i64 m.ask.client, .int .i64 m.ask.number, .int .i64 m.ask.kind, .int .i64 m.ask.order, .int .i64 m.ask.region, .int .i64 m.ask.to, .int .i64 m.ask.n, .string m.ask.good, .slice A' ka c', .int .i64 m.yc, .int .i64 m.yn, .int .i64 m.yd, .int .i64 m.yN] 29)
  have kb := (Below.refl _ w).alloc (Nat.le_refl _) (.cells #[.int .i64 m.kind, .int .i64 m.order, .slice A la c, .int .i64 m.ask.client, .int .i64 m.ask.number, .int .i64 m.ask.kind, .int .i64 m.ask.order, .int .i64 m.ask.region, .int .i64 m.ask.to, .int .i64 m.ask.n, .string m.ask.good, .slice A' ka c', .int .i64 m.yc, .int .i64 m.yn, .int .i64 m.yd, .int .i64 m.yN] 29)
  obtain ⟨W1, hW1⟩ : ∃ W1, w.alloc (.cells #[.int .i64 m.kind, .int .i64 m.order, .slice A la c, .int .i64 m.ask.client, .int .i64 m.ask.number, .int .i64 m.ask.kind, .int .i64 m.ask.order, .int .i64 m.ask.region, .int .i64 m.ask.to, .int .i64 m.ask.n, .string m.ask.good, .slice A' ka c', .int .i64 m.yc, .int .i64 m.yn, .int .i64 m.yd, .int .i64 m.yN] 29) = W1 := ⟨_, rfl⟩
  rw [hW1] at k0 kb
  have HKB := Lib.hid kb
  have HR := Lib.hid (hr.below kb)
  have HCA : Hid (∀ W, Below W1.heap.size W1 W → W.heap[w.heap.size]? = some (.cells #[.int .i64 m.kind, .int .i64 m.order, .slice A la c, .int .i64 m.ask.client, .int .i64 m.ask.number, .int .i64 m.ask.kind, .int .i64 m.ask.order, .int .i64 m.ask.region, .int .i64 m.ask.to, .int .i64 m.ask.n, .string m.ask.good, .slice A' ka c', .int .i64 m.yc, .int .i64 m.yn, .int .i64 m.yd, .int .i64 m.yN] 29 (0, 0))) := Lib.hid (fun W hW => (hW.block _ (lt_of_block k0)).trans k0)
  have hsz : W1.heap.size = w.heap.size + 1 := by rw [← hW1]; simp
  have h0 := Mr.new (w := W1) (Below.refl _ W1)
  rw [hsz] at h0
  obtain ⟨W2, hW2⟩ : ∃ W2, W1.alloc (.cells #[.slice none 0 0, .bool false] 75) = W2 := ⟨_, rfl⟩
  rw [hW2] at h0
  have HM0 := Lib.hid h0
  have HWW : Hid ((w.alloc (.cells #[.int .i64 m.kind, .int .i64 m.order, .slice A la c, .int .i64 m.ask.client, .int .i64 m.ask.number, .int .i64 m.ask.kind, .int .i64 m.ask.order, .int .i64 m.ask.region, .int .i64 m.ask.to, .int .i64 m.ask.n, .string m.ask.good, .slice A' ka c', .int .i64 m.yc, .int .i64 m.yn, .int .i64 m.yd, .int .i64 m.yN] 29)).alloc (.cells #[.slice none 0 0, .bool false] 75) = W2) := Lib.hid (by rw [hW1, hW2])
  show Calls Try.prog 17 #[.agg #[.int .i64 m.kind, .int .i64 m.order, .slice A la c, .int .i64 m.ask.client, .int .i64 m.ask.number, .int .i64 m.ask.kind, .int .i64 m.ask.order, .int .i64 m.ask.region, .int .i64 m.ask.to, .int .i64 m.ask.n, .string m.ask.good, .slice A' ka c', .int .i64 m.yc, .int .i64 m.yn, .int .i64 m.yd, .int .i64 m.yN]] w _
  clear k0 kb hW1 hW2 h0 hsz hr hr' hm hi hl hA3 hEN hCK hBA hBY hla hka
  go_enter Try.func17, Try.ntmps17
  obtain ⟨r0, hr0⟩ : ∃ r, ([] : List Nat) = r := ⟨_, rfl⟩
  have L0 : r0.length ≤ 0 := by rw [← hr0]; simp
  have HR0 := Lib.hid hr0
  rw [hr0] at HM0
  clear hr0
  have c0 := cell_at (HCA.out W2 HM0.out.below) 0
  go_wp2_with fail
  rw [HWW.out]
  refine (mr_num HM0.out m.kind HI.out.1 (by omega)).mono ?_
  rintro e wn1 ⟨rfl, hM⟩
  obtain ⟨r1, hr1⟩ : ∃ r, r0 ++ numB m.kind = r := ⟨_, rfl⟩
  rw [hr1] at hM
  have L1 : r1.length ≤ 9 := by rw [← hr1, List.length_append]; have := numB_le9 m.kind; omega
  have HM1 := Lib.hid hM
  have HR1 := Lib.hid hr1
  clear hM hr1 c0
  have c1 := cell_at (HCA.out wn1 HM1.out.below) 1
  go_wp2_with fail
  refine (mr_num HM1.out m.order HI.out.2 (by omega)).mono ?_
  rintro e wn2 ⟨rfl, hM⟩
  obtain ⟨r2, hr2⟩ : ∃ r, r1 ++ numB m.order = r := ⟨_, rfl⟩
  rw [hr2] at hM
  have L2 : r2.length ≤ 18 := by rw [← hr2, List.length_append]; have := numB_le9 m.order; omega
  have HM2 := Lib.hid hM
  have HR2 := Lib.hid hr2
  clear hM hr2 c1
  have c2 := cell_at (HCA.out wn2 HM2.out.below) 2
  have HPUT := Lib.hid (xiput_any m.items A c W1 wn2 (w.heap.size + 1) r2 HM2.out (by rw [HLM.out]; exact HR.out) HPI.out (by rw [HLM.out]; exact h16) (by omega))
  rw [HLM.out] at HPUT
  go_wp2_with fail
  refine HPUT.out.mono ?_
  rintro e wn3 ⟨rfl, hM⟩
  obtain ⟨r3, hr3⟩ : ∃ r, r2 ++ (numB (la : Int) ++ itemsB m.items) = r := ⟨_, rfl⟩
  rw [hr3] at hM
  have L3 : r3.length ≤ 1000 := by rw [← hr3]; simp only [List.length_append]; have := numB_le9 (la : Int); have := HPL.out; omega
  have HM3 := Lib.hid hM
  have HR3 := Lib.hid hr3
  clear hM hr3 c2 HPUT
  have c0 := cell_at (HCA.out wn3 HM3.out.below) 0
  go_wp2_with fail
  refine (HHa.out wn3).mono ?_
  rintro e wn4 ⟨rfl, hb⟩
  have HM4 := Lib.hid (HM3.out.keep hb)
  clear hb c0
  cases BA
  case false =>
    have HCN := Lib.hid (HXN.out rfl)
    go_wp2_with fail
    refine (mr_text HM4.out ⟨#[]⟩ (by decide) (by omega)).mono ?_
    rintro e wn5 ⟨rfl, hM⟩
    obtain ⟨r5, hr5⟩ : ∃ r, r3 ++ textB CK = r := ⟨_, rfl⟩
    have e5 : r3 ++ textB (natsOf ⟨#[]⟩) = r5 := by rw [← hr5, HCN.out]; rfl
    rw [e5] at hM
    have L5 : r5.length ≤ 2000 := by rw [← hr5, List.length_append]; have := textB_le CK; have := HCE.out; omega
    have HM5 := Lib.hid hM
    have HR5 := Lib.hid hr5
    clear hM hr5 e5
    have c0 := cell_at (HCA.out wn5 HM5.out.below) 0
    go_wp2_with fail
    refine (HHy.out wn5).mono ?_
    rintro e wn6 ⟨rfl, hb⟩
    have HM6 := Lib.hid (HM5.out.keep hb)
    clear hb c0
    cases BY
    case false =>
      have HEQ : Hid (r5 = EN) := Lib.hid (by rw [HEB.out, ← HR5.out, ← HR3.out, ← HR2.out, ← HR1.out, ← HR0.out]; simp)
      obtain ⟨v, hq, ho, _, hb⟩ := HM6.out
      rw [HEQ.out] at ho
      obtain ⟨Av, cv, rfl, _, _, _, _⟩ := own_slice ho
      have d0 := cell_at hq 0
      have HO := Lib.hid ho
      have HB := Lib.hid hb
      obtain ⟨nb, hnb⟩ : ∃ nb, EN.length = nb := ⟨_, rfl⟩
      have HNB := Lib.hid hnb
      rw [hnb] at HO d0
      clear hq ho hb hnb
      go_wp2
      go_ret
      exact ⟨_, rfl, by rw [HNB.out]; exact ownI_lowA HO.out HKB.out.size, HKB.out.trans (HB.out.mono HKB.out.size)⟩
    case true =>
      replace HY := Lib.hid (HY.out rfl)
      obtain ⟨r6, hr6⟩ : ∃ r, r5 = r := ⟨_, rfl⟩
      rw [hr6] at HM6 HR5 L5
      clear hr6
      have c12 := cell_at (HCA.out wn6 HM6.out.below) 12
      go_wp2_with fail
      refine (mr_num HM6.out m.yc HY.out.1 (by omega)).mono ?_
      rintro e wn7 ⟨rfl, hM⟩
      obtain ⟨r7, hr7⟩ : ∃ r, r6 ++ numB m.yc = r := ⟨_, rfl⟩
      rw [hr7] at hM
      have L7 : r7.length ≤ 2009 := by rw [← hr7, List.length_append]; have := numB_le9 m.yc; omega
      have HM7 := Lib.hid hM
      have HR7 := Lib.hid hr7
      clear hM hr7 c12
      have c13 := cell_at (HCA.out wn7 HM7.out.below) 13
      go_wp2_with fail
      refine (mr_num HM7.out m.yn HY.out.2.1 (by omega)).mono ?_
      rintro e wn8 ⟨rfl, hM⟩
      obtain ⟨r8, hr8⟩ : ∃ r, r7 ++ numB m.yn = r := ⟨_, rfl⟩
      rw [hr8] at hM
      have L8 : r8.length ≤ 2018 := by rw [← hr8, List.length_append]; have := numB_le9 m.yn; omega
      have HM8 := Lib.hid hM
      have HR8 := Lib.hid hr8
      clear hM hr8 c13
      have c14 := cell_at (HCA.out wn8 HM8.out.below) 14
      go_wp2_with fail
      refine (mr_num HM8.out m.yd HY.out.2.2.1 (by omega)).mono ?_
      rintro e wn9 ⟨rfl, hM⟩
      obtain ⟨r9, hr9⟩ : ∃ r, r8 ++ numB m.yd = r := ⟨_, rfl⟩
      rw [hr9] at hM
      have L9 : r9.length ≤ 2027 := by rw [← hr9, List.length_append]; have := numB_le9 m.yd; omega
      have HM9 := Lib.hid hM
      have HR9 := Lib.hid hr9
      clear hM hr9 c14
      have c15 := cell_at (HCA.out wn9 HM9.out.below) 15
      go_wp2_with fail
      refine (mr_num HM9.out m.yN HY.out.2.2.2 (by omega)).mono ?_
      rintro e wn10 ⟨rfl, hM⟩
      obtain ⟨r10, hr10⟩ : ∃ r, r9 ++ numB m.yN = r := ⟨_, rfl⟩
      rw [hr10] at hM
      have L10 : r10.length ≤ 2036 := by rw [← hr10, List.length_append]; have := numB_le9 m.yN; omega
      have HM10 := Lib.hid hM
      have HR10 := Lib.hid hr10
      clear hM hr10 c15
      have HEQ : Hid (r10 = EN) := Lib.hid (by rw [HEB.out, ← HR10.out, ← HR9.out, ← HR8.out, ← HR7.out, ← HR5.out, ← HR3.out, ← HR2.out, ← HR1.out, ← HR0.out]; simp)
      obtain ⟨v, hq, ho, _, hb⟩ := HM10.out
      rw [HEQ.out] at ho
      obtain ⟨Av, cv, rfl, _, _, _, _⟩ := own_slice ho
      have d0 := cell_at hq 0
      have HO := Lib.hid ho
      have HB := Lib.hid hb
      obtain ⟨nb, hnb⟩ : ∃ nb, EN.length = nb := ⟨_, rfl⟩
      have HNB := Lib.hid hnb
      rw [hnb] at HO d0
      clear hq ho hb hnb
      go_wp2
      go_ret
      exact ⟨_, rfl, by rw [HNB.out]; exact ownI_lowA HO.out HKB.out.size, HKB.out.trans (HB.out.mono HKB.out.size)⟩
  case true =>
    have c3 := cell_at (HCA.out wn4 HM4.out.below) 3
    have c4 := cell_at (HCA.out wn4 HM4.out.below) 4
    have c5 := cell_at (HCA.out wn4 HM4.out.below) 5
    have c6 := cell_at (HCA.out wn4 HM4.out.below) 6
    have c7 := cell_at (HCA.out wn4 HM4.out.below) 7
    have c8 := cell_at (HCA.out wn4 HM4.out.below) 8
    have c9 := cell_at (HCA.out wn4 HM4.out.below) 9
    have c10 := cell_at (HCA.out wn4 HM4.out.below) 10
    have c11 := cell_at (HCA.out wn4 HM4.out.below) 11
    go_wp2_with fail
    refine (HXA.out (by trivial) wn4 (HKB.out.trans (HM4.out.below.mono HKB.out.size))).mono ?_
    rintro e wa ⟨v, rfl, ho, hb⟩
    have HMa := Lib.hid (HM4.out.keep hb)
    obtain ⟨Aa, ca, rfl, _, _, hra, _⟩ := own_slice ho
    obtain ⟨T, hT⟩ : ∃ T, strOf CK = T := ⟨_, rfl⟩
    have HNT : Hid (natsOf T = CK) := Lib.hid (by rw [← hT]; exact natsOf_strOf' HCL.out)
    have HTS : Hid (T.size ≤ 641) := Lib.hid (by rw [← hT, strOf_size']; exact HCE.out)
    have hS1 : (convert 31 9 (.slice Aa CK.length ca)).run Try.prog wa = .ok (.string T) wa := hT ▸ run_str wa Aa _ ca CK hra HCL.out
    clear hb ho hT hra c3 c4 c5 c6 c7 c8 c9 c10 c11
    go_wp2_with fail
    refine (mr_text HMa.out T (by have := HTS.out; omega) (by omega)).mono ?_
    rintro e wn5 ⟨rfl, hM⟩
    rw [HNT.out] at hM
    obtain ⟨r5, hr5⟩ : ∃ r, r3 ++ textB CK = r := ⟨_, rfl⟩
    rw [hr5] at hM
    have L5 : r5.length ≤ 2000 := by rw [← hr5, List.length_append]; have := textB_le CK; have := HCE.out; omega
    have HM5 := Lib.hid hM
    have HR5 := Lib.hid hr5
    clear hM hr5 hS1
    have c0 := cell_at (HCA.out wn5 HM5.out.below) 0
    go_wp2_with fail
    refine (HHy.out wn5).mono ?_
    rintro e wn6 ⟨rfl, hb⟩
    have HM6 := Lib.hid (HM5.out.keep hb)
    clear hb c0
    cases BY
    case false =>
      have HEQ : Hid (r5 = EN) := Lib.hid (by rw [HEB.out, ← HR5.out, ← HR3.out, ← HR2.out, ← HR1.out, ← HR0.out]; simp)
      obtain ⟨v, hq, ho, _, hb⟩ := HM6.out
      rw [HEQ.out] at ho
      obtain ⟨Av, cv, rfl, _, _, _, _⟩ := own_slice ho
      have d0 := cell_at hq 0
      have HO := Lib.hid ho
      have HB := Lib.hid hb
      obtain ⟨nb, hnb⟩ : ∃ nb, EN.length = nb := ⟨_, rfl⟩
      have HNB := Lib.hid hnb
      rw [hnb] at HO d0
      clear hq ho hb hnb
      go_wp2
      go_ret
      exact ⟨_, rfl, by rw [HNB.out]; exact ownI_lowA HO.out HKB.out.size, HKB.out.trans (HB.out.mono HKB.out.size)⟩
    case true =>
      replace HY := Lib.hid (HY.out rfl)
      obtain ⟨r6, hr6⟩ : ∃ r, r5 = r := ⟨_, rfl⟩
      rw [hr6] at HM6 HR5 L5
      clear hr6
      have c12 := cell_at (HCA.out wn6 HM6.out.below) 12
      go_wp2_with fail
      refine (mr_num HM6.out m.yc HY.out.1 (by omega)).mono ?_
      rintro e wn7 ⟨rfl, hM⟩
      obtain ⟨r7, hr7⟩ : ∃ r, r6 ++ numB m.yc = r := ⟨_, rfl⟩
      rw [hr7] at hM
      have L7 : r7.length ≤ 2009 := by rw [← hr7, List.length_append]; have := numB_le9 m.yc; omega
      have HM7 := Lib.hid hM
      have HR7 := Lib.hid hr7
      clear hM hr7 c12
      have c13 := cell_at (HCA.out wn7 HM7.out.below) 13
      go_wp2_with fail
      refine (mr_num HM7.out m.yn HY.out.2.1 (by omega)).mono ?_
      rintro e wn8 ⟨rfl, hM⟩
      obtain ⟨r8, hr8⟩ : ∃ r, r7 ++ numB m.yn = r := ⟨_, rfl⟩
      rw [hr8] at hM
      have L8 : r8.length ≤ 2018 := by rw [← hr8, List.length_append]; have := numB_le9 m.yn; omega
      have HM8 := Lib.hid hM
      have HR8 := Lib.hid hr8
      clear hM hr8 c13
      have c14 := cell_at (HCA.out wn8 HM8.out.below) 14
      go_wp2_with fail
      refine (mr_num HM8.out m.yd HY.out.2.2.1 (by omega)).mono ?_
      rintro e wn9 ⟨rfl, hM⟩
      obtain ⟨r9, hr9⟩ : ∃ r, r8 ++ numB m.yd = r := ⟨_, rfl⟩
      rw [hr9] at hM
      have L9 : r9.length ≤ 2027 := by rw [← hr9, List.length_append]; have := numB_le9 m.yd; omega
      have HM9 := Lib.hid hM
      have HR9 := Lib.hid hr9
      clear hM hr9 c14
      have c15 := cell_at (HCA.out wn9 HM9.out.below) 15
      go_wp2_with fail
      refine (mr_num HM9.out m.yN HY.out.2.2.2 (by omega)).mono ?_
      rintro e wn10 ⟨rfl, hM⟩
      obtain ⟨r10, hr10⟩ : ∃ r, r9 ++ numB m.yN = r := ⟨_, rfl⟩
      rw [hr10] at hM
      have L10 : r10.length ≤ 2036 := by rw [← hr10, List.length_append]; have := numB_le9 m.yN; omega
      have HM10 := Lib.hid hM
      have HR10 := Lib.hid hr10
      clear hM hr10 c15
      have HEQ : Hid (r10 = EN) := Lib.hid (by rw [HEB.out, ← HR10.out, ← HR9.out, ← HR8.out, ← HR7.out, ← HR5.out, ← HR3.out, ← HR2.out, ← HR1.out, ← HR0.out]; simp)
      obtain ⟨v, hq, ho, _, hb⟩ := HM10.out
      rw [HEQ.out] at ho
      obtain ⟨Av, cv, rfl, _, _, _, _⟩ := own_slice ho
      have d0 := cell_at hq 0
      have HO := Lib.hid ho
      have HB := Lib.hid hb
      obtain ⟨nb, hnb⟩ : ∃ nb, EN.length = nb := ⟨_, rfl⟩
      have HNB := Lib.hid hnb
      rw [hnb] at HO d0
      clear hq ho hb hnb
      go_wp2
      go_ret
      exact ⟨_, rfl, by rw [HNB.out]; exact ownI_lowA HO.out HKB.out.size, HKB.out.trans (HB.out.mono HKB.out.size)⟩
end Go.Proofs.Ytpccbobomppdbaa
