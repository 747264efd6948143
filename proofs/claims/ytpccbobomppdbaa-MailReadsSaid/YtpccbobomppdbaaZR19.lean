/- mail.Encode. -/
import Derived.Test.YtpccbobomppdbaaZR13
import Derived.Test.YtpccbobomppdbaaZR18
namespace Go.Proofs.Ytpccbobomppdbaa
open Go.RowKit Go.Shelf
attribute [local go_sem] Oper.semAt_some

theorem aenc_code (a : Ak) (A : Option Addr) (c : Nat) (w : World) (hr : Rd w 2 A a.items.length (a.items.flatMap encI)) (hb : BdL a.items) (hg : a.good.size ≤ 9223372036854775807) :
 Calls Try.prog 23 #[akV a (.slice A a.items.length c)] w fun e W => ∃ v n, e = .returned (.tuple #[v, .int .i64 n]) ∧ Bs W v (codeK a) ∧ Below w.heap.size w W := by
 cases hm : mayA a with
 | true => exact (aenc_ok a A c w hr hb hg hm).mono fun e W ⟨v, he, hv, hb⟩ => ⟨v, 0, he, by unfold codeK; rw [if_pos hm]; exact hv, hb⟩
 | false => exact (aenc_no a A c w hr hb hg hm).mono fun e W ⟨he, hb⟩ => ⟨_, 1, he, by unfold codeK; rw [hm]; exact bs_nilA W, hb⟩
/-- What Encode puts ahead of the items. -/
def headM (m : Ml) : List Nat := numsB [m.kind, m.order] ++ numB m.items.length
theorem headM_le (m : Ml) : (headM m).length ≤ 27 := by
 have h1 := numsB_le [m.kind, m.order]
 have h2 := numB_le9 m.items.length
 unfold headM
 simp only [List.length_append, List.length_cons, List.length_nil] at *
 omega
theorem headM_put (m : Ml) : putS (putS (putS ([], false) (numB m.kind)) (numB m.order)) (numB m.items.length) = (headM m, false) := by
 have h1 := numB_le9 m.kind
 have h2 := numB_le9 m.order
 have h3 := numB_le9 m.items.length
 rw [putS_app (by simp only [List.length_nil]; omega), List.nil_append, putS_app (by omega), putS_app (by simp only [List.length_append]; omega)]
 unfold headM
 simp only [numsB, List.append_assoc, List.append_nil]
theorem encM_head (m : Ml) : encM m = headM m ++ itemsB m.items ++ textB (codeK m.ask) ++ (if hasM m.kind 121 = true then numsB (ysM m) else []) := by
 unfold encM headM
 simp only [List.append_assoc]
theorem ysM_put {m : Ml} {s : List Nat} (h : s.length ≤ 2048) : putS (putS (putS (putS (s, false) (numB m.yc)) (numB m.yn)) (numB m.yd)) (numB m.yN) = (s ++ numsB (ysM m), false) := by
 have h1 := numB_le9 m.yc
 have h2 := numB_le9 m.yn
 have h3 := numB_le9 m.yd
 have h4 := numB_le9 m.yN
 rw [putS_app (by omega), putS_app (by simp only [List.length_append]; omega), putS_app (by simp only [List.length_append]; omega), putS_app (by simp only [List.length_append]; omega)]
 unfold ysM
 simp only [numsB, List.append_assoc, List.append_nil]
set_option maxRecDepth 100000 in
set_option maxHeartbeats 4000000 in
theorem menc_no (m : Ml) (A : Option Addr) (c : Nat) (A' : Option Addr) (c' : Nat) (w : World) (hr : Rd w 2 A m.items.length (m.items.flatMap encI)) (hr' : Rd w 2 A' m.ask.items.length (m.ask.items.flatMap encI)) (hb : BdL m.items) (hb' : BdL m.ask.items) (hg : m.ask.good.size ≤ 9223372036854775807) (hm : mayM m = false) :
 Calls Try.prog 8 #[mlV m (.slice A m.items.length c) (.slice A' m.ask.items.length c')] w fun e W => e = .returned (.tuple #[.slice none 0 0, .int .i64 1]) ∧ Below w.heap.size w W := by
 have HMAY := Lib.hid (fun W (hW : Below w.heap.size w W) => mmay_any m A c A' c' W (hr.below hW) (hr'.below hW) hb hb' hg)
 rw [hm] at HMAY
 obtain ⟨la, hla⟩ : ∃ l, m.items.length = l := ⟨_, rfl⟩
 obtain ⟨ka, hka⟩ : ∃ l, m.ask.items.length = l := ⟨_, rfl⟩
 rw [hla, hka] at HMAY
 rw [hla, hka]
 show Calls Try.prog 8 #[.agg #[.int .i64 m.kind, .int .i64 m.order, .slice A la c, .int .i64 m.ask.client, .int .i64 m.ask.number, .int .i64 m.ask.kind, .int .i64 m.ask.order, .int .i64 m.ask.region, .int .i64 m.ask.to, .int .i64 m.ask.n, .string m.ask.good, .slice A' ka c', .int .i64 m.yc, .int .i64 m.yn, .int .i64 m.yd, .int .i64 m.yN]] w _
 have k0 := block_new w (.cells #[.int .i64 m.kind, .int .i64 m.order, .slice A la c, .int .i64 m.ask.client, .int .i64 m.ask.number, .int .i64 m.ask.kind, .int .i64 m.ask.order, .int .i64 m.ask.region, .int .i64 m.ask.to, .int .i64 m.ask.n, .string m.ask.good, .slice A' ka c', .int .i64 m.yc, .int .i64 m.yn, .int .i64 m.yd, .int .i64 m.yN] 29)
 have kb := (Below.refl _ w).alloc (Nat.le_refl _) (.cells #[.int .i64 m.kind, .int .i64 m.order, .slice A la c, .int .i64 m.ask.client, .int .i64 m.ask.number, .int .i64 m.ask.kind, .int .i64 m.ask.order, .int .i64 m.ask.region, .int .i64 m.ask.to, .int .i64 m.ask.n, .string m.ask.good, .slice A' ka c', .int .i64 m.yc, .int .i64 m.yn, .int .i64 m.yd, .int .i64 m.yN] 29)
 obtain ⟨W2, hW2⟩ : ∃ W2, w.alloc (.cells #[.int .i64 m.kind, .int .i64 m.order, .slice A la c, .int .i64 m.ask.client, .int .i64 m.ask.number, .int .i64 m.ask.kind, .int .i64 m.ask.order, .int .i64 m.ask.region, .int .i64 m.ask.to, .int .i64 m.ask.n, .string m.ask.good, .slice A' ka c', .int .i64 m.yc, .int .i64 m.yn, .int .i64 m.yd, .int .i64 m.yN] 29) = W2 := ⟨_, rfl⟩
 rw [hW2] at k0 kb
 have HKB := Lib.hid kb
 have HWW := Lib.hid hW2
 have HCA : Hid (∀ W, Below W2.heap.size W2 W → W.heap[w.heap.size]? = some (.cells #[.int .i64 m.kind, .int .i64 m.order, .slice A la c, .int .i64 m.ask.client, .int .i64 m.ask.number, .int .i64 m.ask.kind, .int .i64 m.ask.order, .int .i64 m.ask.region, .int .i64 m.ask.to, .int .i64 m.ask.n, .string m.ask.good, .slice A' ka c', .int .i64 m.yc, .int .i64 m.yn, .int .i64 m.yd, .int .i64 m.yN] 29 (0, 0))) := Lib.hid (fun W hW => (hW.block _ (lt_of_block k0)).trans k0)
 clear k0 kb hW2 hr hr' hb hb' hg hm hla hka
 have c0 := cell_at (HCA.out W2 (Below.refl _ _)) 0
 have c1 := cell_at (HCA.out W2 (Below.refl _ _)) 1
 have c2 := cell_at (HCA.out W2 (Below.refl _ _)) 2
 have c3 := cell_at (HCA.out W2 (Below.refl _ _)) 3
 have c4 := cell_at (HCA.out W2 (Below.refl _ _)) 4
 have c5 := cell_at (HCA.out W2 (Below.refl _ _)) 5
 have c6 := cell_at (HCA.out W2 (Below.refl _ _)) 6
 have c7 := cell_at (HCA.out W2 (Below.refl _ _)) 7
 have c8 := cell_at (HCA.out W2 (Below.refl _ _)) 8
 have c9 := cell_at (HCA.out W2 (Below.refl _ _)) 9
 have c10 := cell_at (HCA.out W2 (Below.refl _ _)) 10
 have c11 := cell_at (HCA.out W2 (Below.refl _ _)) 11
 have c12 := cell_at (HCA.out W2 (Below.refl _ _)) 12
 have c13 := cell_at (HCA.out W2 (Below.refl _ _)) 13
 have c14 := cell_at (HCA.out W2 (Below.refl _ _)) 14
 have c15 := cell_at (HCA.out W2 (Below.refl _ _)) 15
 refine (callsIn_wide (n := 9)).1 ?_
 refine callsIn_of_wp_marks Try.func8 rfl trivial ?_ rfl
 simp only [Try.ntmps8, List.size_toArray, List.length_cons, List.length_nil, Nat.reduceAdd, Nat.reduceSub, Array.replicate_succ, Array.replicate_zero, List.push_toArray, List.append_toArray, List.nil_append, List.cons_append]
 refine wpIn_wide.2 ?_
 go_wp2_with fail
 rw [HWW.out]
 refine (HMAY.out W2 HKB.out).mono ?_
 rintro e w3 ⟨rfl, hb⟩
 have HB3 := Lib.hid hb
 clear c0 c1 c2 c3 c4 c5 c6 c7 c8 c9 c10 c11 c12 c13 c14 c15
 clear hb
 go_wp2
 exact ⟨.tuple #[.slice none 0 0, .int .i64 1], by simp [results, Try.f8, go_sem], rfl, HKB.out.trans (HB3.out.mono HKB.out.size)⟩
set_option maxRecDepth 100000 in
set_option maxHeartbeats 4000000 in
theorem menc_ok (m : Ml) (A : Option Addr) (c : Nat) (A' : Option Addr) (c' : Nat) (w : World) (hr : Rd w 2 A m.items.length (m.items.flatMap encI)) (hr' : Rd w 2 A' m.ask.items.length (m.ask.items.flatMap encI)) (hb : BdL m.items) (hb' : BdL m.ask.items) (hg : m.ask.good.size ≤ 9223372036854775807) (hm : mayM m = true) (hi : I64 m.yN) :
 Calls Try.prog 8 #[mlV m (.slice A m.items.length c) (.slice A' m.ask.items.length c')] w fun e W => ∃ v, e = .returned (.tuple #[v, .int .i64 0]) ∧ Bs W v (encM m) ∧ Below w.heap.size w W := by
 have HMAY := Lib.hid (fun W (hW : Below w.heap.size w W) => mmay_any m A c A' c' W (hr.below hW) (hr'.below hW) hb hb' hg)
 rw [hm] at HMAY
 have HAE := Lib.hid (fun W (hW : Below w.heap.size w W) => aenc_code m.ask A' c' W (hr'.below hW) hb' hg)
 have hl := mayM_lim hm
 obtain ⟨qs, hq⟩ := pits_of (rs := m.items) (fun z hz => by obtain ⟨h1, h2, h3⟩ := mayI_item hl.items z hz; exact ⟨h1, by omega, by omega⟩)
 have HQ := Lib.hid hq
 have hql : qs.length = m.items.length := by rw [← hq]; simp
 have HQL := Lib.hid hql
 have h16 := (mayI_at hl.items).1
 have HHP := Lib.hid (headM_put m)
 have HHL : Hid ((headM m).length ≤ 1000) := Lib.hid (by have := headM_le m; omega)
 have HEH := Lib.hid (encM_head m)
 have HEL := Lib.hid (encM_le hl)
 have HI : Hid (I64 m.kind ∧ I64 m.order ∧ I64 m.items.length) := Lib.hid (by have h1 := hl.kind; have h2 := hl.order; unfold I64; omega)
 have HY : Hid (hasM m.kind 121 = true → I64 m.yc ∧ I64 m.yn ∧ I64 m.yd ∧ I64 m.yN) := Lib.hid (fun hk => by have h1 := hl.ys hk; exact ⟨by unfold I64; omega, by unfold I64; omega, by unfold I64; omega, hi⟩)
 have HCL := Lib.hid (codeK_lt m.ask)
 have HCE := Lib.hid (codeK_le m.ask)
 obtain ⟨EN, hEN⟩ : ∃ EN, encM m = EN := ⟨_, rfl⟩
 rw [hEN] at HEH HEL ⊢
 obtain ⟨HD, hHD⟩ : ∃ HD, headM m = HD := ⟨_, rfl⟩
 rw [hHD] at HHP HHL HEH
 obtain ⟨CK, hCK⟩ : ∃ CK, codeK m.ask = CK := ⟨_, rfl⟩
 rw [hCK] at HEH HCL HCE
 simp only [hCK] at HAE
 obtain ⟨la, hla⟩ : ∃ l, m.items.length = l := ⟨_, rfl⟩
 obtain ⟨ka, hka⟩ : ∃ l, m.ask.items.length = l := ⟨_, rfl⟩
 rw [hla, hka] at HMAY
 rw [hla, hka]
 rw [hka] at HAE
 rw [hla] at HHP HI HQL h16 hr
 have HLA := Lib.hid hla
 show Calls Try.prog 8 #[.agg #[.int .i64 m.kind, .int .i64 m.order, .slice A la c, .int .i64 m.ask.client, .int .i64 m.ask.number, .int .i64 m.ask.kind, .int .i64 m.ask.order, .int .i64 m.ask.region, .int .i64 m.ask.to, .int .i64 m.ask.n, .string m.ask.good, .slice A' ka c', .int .i64 m.yc, .int .i64 m.yn, .int .i64 m.yd, .int .i64 m.yN]] w _
 have k0 := block_new w (.cells #[.int .i64 m.kind, .int .i64 m.order, .slice A la c, .int .i64 m.ask.client, .int .i64 m.ask.number, .int .i64 m.ask.kind, .int .i64 m.ask.order, .int .i64 m.ask.region, .int .i64 m.ask.to, .int .i64 m.ask.n, .string m.ask.good, .slice A' ka c', .int .i64 m.yc, .int .i64 m.yn, .int .i64 m.yd, .int .i64 m.yN] 29)
 have kb := (Below.refl _ w).alloc (Nat.le_refl _) (.cells #[.int .i64 m.kind, .int .i64 m.order, .slice A la c, .int .i64 m.ask.client, .int .i64 m.ask.number, .int .i64 m.ask.kind, .int .i64 m.ask.order, .int .i64 m.ask.region, .int .i64 m.ask.to, .int .i64 m.ask.n, .string m.ask.good, .slice A' ka c', .int .i64 m.yc, .int .i64 m.yn, .int .i64 m.yd, .int .i64 m.yN] 29)
 obtain ⟨W2, hW2⟩ : ∃ W2, w.alloc (.cells #[.int .i64 m.kind, .int .i64 m.order, .slice A la c, .int .i64 m.ask.client, .int .i64 m.ask.number, .int .i64 m.ask.kind, .int .i64 m.ask.order, .int .i64 m.ask.region, .int .i64 m.ask.to, .int .i64 m.ask.n, .string m.ask.good, .slice A' ka c', .int .i64 m.yc, .int .i64 m.yn, .int .i64 m.yd, .int .i64 m.yN] 29) = W2 := ⟨_, rfl⟩
 rw [hW2] at k0 kb
 have HKB := Lib.hid kb
 have HWW := Lib.hid hW2
 have HCA : Hid (∀ W, Below W2.heap.size W2 W → W.heap[w.heap.size]? = some (.cells #[.int .i64 m.kind, .int .i64 m.order, .slice A la c, .int .i64 m.ask.client, .int .i64 m.ask.number, .int .i64 m.ask.kind, .int .i64 m.ask.order, .int .i64 m.ask.region, .int .i64 m.ask.to, .int .i64 m.ask.n, .string m.ask.good, .slice A' ka c', .int .i64 m.yc, .int .i64 m.yn, .int .i64 m.yd, .int .i64 m.yN] 29 (0, 0))) := Lib.hid (fun W hW => (hW.block _ (lt_of_block k0)).trans k0)
 have HR := Lib.hid (hr.below HKB.out)
 replace HAE := Lib.hid (fun W (hW : Below W2.heap.size W2 W) => HAE.out W (HKB.out.trans (hW.mono HKB.out.size)))
 clear hEN hHD hCK hq hql hl hi
 clear k0 kb hW2 hr hr' hb hb' hg hm hla hka
 have c0 := cell_at (HCA.out W2 (Below.refl _ _)) 0
 have c1 := cell_at (HCA.out W2 (Below.refl _ _)) 1
 have c2 := cell_at (HCA.out W2 (Below.refl _ _)) 2
 have c3 := cell_at (HCA.out W2 (Below.refl _ _)) 3
 have c4 := cell_at (HCA.out W2 (Below.refl _ _)) 4
 have c5 := cell_at (HCA.out W2 (Below.refl _ _)) 5
 have c6 := cell_at (HCA.out W2 (Below.refl _ _)) 6
 have c7 := cell_at (HCA.out W2 (Below.refl _ _)) 7
 have c8 := cell_at (HCA.out W2 (Below.refl _ _)) 8
 have c9 := cell_at (HCA.out W2 (Below.refl _ _)) 9
 have c10 := cell_at (HCA.out W2 (Below.refl _ _)) 10
 have c11 := cell_at (HCA.out W2 (Below.refl _ _)) 11
 have c12 := cell_at (HCA.out W2 (Below.refl _ _)) 12
 have c13 := cell_at (HCA.out W2 (Below.refl _ _)) 13
 have c14 := cell_at (HCA.out W2 (Below.refl _ _)) 14
 have c15 := cell_at (HCA.out W2 (Below.refl _ _)) 15
 refine (callsIn_wide (n := 9)).1 ?_
 refine callsIn_of_wp_marks Try.func8 rfl trivial ?_ rfl
 simp only [Try.ntmps8, List.size_toArray, List.length_cons, List.length_nil, Nat.reduceAdd, Nat.reduceSub, Array.replicate_succ, Array.replicate_zero, List.push_toArray, List.append_toArray, List.nil_append, List.cons_append]
 refine wpIn_wide.2 ?_
 go_wp2_with fail
 rw [HWW.out]
 refine (HMAY.out W2 HKB.out).mono ?_
 rintro e w3 ⟨rfl, hb⟩
 have HB3 := Lib.hid hb
 clear c0 c1 c2 c3 c4 c5 c6 c7 c8 c9 c10 c11 c12 c13 c14 c15
 clear hb
 go_wp2_with fail
 apply wp_region_mid2 (M := PkM W2 (HD, false)) (hm := by kernel_rfl)
 case h =>
  refine ok_split 11 10 (by decide) ?_ ?_
  · simp only [addAfter, addL]
    refine ok_flow (fun W => Below W2.heap.size W2 W) Nil_ [1, 2, 4, 5, 7, 8, 9, 0, 3, 6, 10, 11, 12] (fun _ => trivial) rfl (fun _ _ _ _ _ h => callsIn_wide.2 h) (by kernel_rfl) (by kernel_rfl) (HB3.out.drew) (trivial) ?_
    refine flow_val ?_ rfl (by kernel_rfl) (by rfl) (fun W hW => ?_) ?_
    rotate_left 1
    · go_simp <;> with_reducible rfl
    simp only [puts]
    refine flow_val ?_ rfl (by kernel_rfl) (by rfl) (fun W hW => ?_) ?_
    rotate_left 1
    · have c0 := cell_at (HCA.out W hW) 0; go_simp <;> with_reducible rfl
    simp only [puts]
    refine flow_val ?_ rfl (by kernel_rfl) (by rfl) (fun W hW => ?_) ?_
    rotate_left 1
    · go_simp <;> with_reducible rfl
    simp only [puts]
    refine flow_val ?_ rfl (by kernel_rfl) (by rfl) (fun W hW => ?_) ?_
    rotate_left 1
    · have c1 := cell_at (HCA.out W hW) 1; go_simp <;> with_reducible rfl
    simp only [puts]
    refine flow_val ?_ rfl (by kernel_rfl) (by rfl) (fun W hW => ?_) ?_
    rotate_left 1
    · go_simp <;> with_reducible rfl
    simp only [puts]
    refine flow_val ?_ rfl (by kernel_rfl) (by rfl) (fun W hW => ?_) ?_
    rotate_left 1
    · have c2 := cell_at (HCA.out W hW) 2; go_simp <;> with_reducible rfl
    simp only [puts]
    refine flow_val ?_ rfl (by kernel_rfl) (by rfl) (fun W hW => ?_) ?_
    rotate_left 1
    · go_simp <;> with_reducible rfl
    simp only [puts]
    refine flow_gcall (fun v W => ∃ p, v = .pointer (some ⟨p, 0, none⟩) ∧ Mk W2 p ([], false) W) rfl (by kernel_rfl) (by rfl) (by kernel_rfl) (fun W hW hC => ⟨_, _, _, by go_simp, (new_any W).mono fun e w1 hh => ?_⟩) ?_
    · obtain ⟨he, hM, hb⟩ := hh
      exact ⟨_, he, hW.trans (hb.mono hW.size), _, rfl, ⟨none, hM, hW.size, by simp, hW.trans (hb.mono hW.size)⟩⟩
    rintro v10 ⟨_, _, pm, rfl, _⟩
    simp only [puts]
    refine flow_turn (.pointer (some ⟨pm, 0, none⟩)) (fun W => Mk W2 pm (putS ([], false) (numB m.kind)) W) rfl (by kernel_rfl) (by rfl) (by kernel_rfl) (fun W hW hC => ?_) ?_
    · have hM : Mk W2 pm (([], false)) W := by
       obtain ⟨g2, e2, h2⟩ := hC
       injection e2 with e2
       injection e2 with e2
       injection e2 with e2 _ _
       subst e2
       exact h2
      refine ⟨_, _, _, by go_simp, (mkk_num hM m.kind HI.out.1).mono fun e w1 hh => ?_⟩
      obtain ⟨he, h1, _, _, h5⟩ := hh
      exact ⟨he, ⟨h1.below, trivial⟩, h1⟩
    simp only [puts]
    refine flow_turn (.pointer (some ⟨pm, 0, none⟩)) (fun W => Mk W2 pm (putS (putS ([], false) (numB m.kind)) (numB m.order)) W) rfl (by kernel_rfl) (by rfl) (by kernel_rfl) (fun W hW hC => ?_) ?_
    · have hM : Mk W2 pm (putS ([], false) (numB m.kind)) W := by
       exact hC
      refine ⟨_, _, _, by go_simp, (mkk_num hM m.order HI.out.2.1).mono fun e w1 hh => ?_⟩
      obtain ⟨he, h1, _, _, h5⟩ := hh
      exact ⟨he, ⟨⟨h1.below, trivial⟩, trivial⟩, h1⟩
    simp only [puts]
    refine flow_turn (.pointer (some ⟨pm, 0, none⟩)) (fun W => Mk W2 pm (putS (putS (putS ([], false) (numB m.kind)) (numB m.order)) (numB (la : Int))) W) rfl (by kernel_rfl) (by rfl) (by kernel_rfl) (fun W hW hC => ?_) ?_
    · have hM : Mk W2 pm (putS (putS ([], false) (numB m.kind)) (numB m.order)) W := by
       exact hC
      refine ⟨_, _, _, by go_simp, (mkk_num hM (la : Int) HI.out.2.2).mono fun e w1 hh => ?_⟩
      obtain ⟨he, h1, _, _, h5⟩ := hh
      exact ⟨he, ⟨⟨⟨h1.below, trivial⟩, trivial⟩, trivial⟩, h1⟩
    simp only [puts]
    refine flow_gmake (fun v W => ∃ g, v = .pointer (some ⟨g, 0, none⟩) ∧ W2.heap.size ≤ g ∧ W.heap[g]? = some (.cells #[.pointer none] 47 (0, 0)) ∧ Mk W2 pm (putS (putS (putS ([], false) (numB m.kind)) (numB m.order)) (numB (la : Int))) W) rfl (by kernel_rfl) (by rfl) (by kernel_rfl) (fun W hW hC => ?_) ?_
    · have hb : Below W.heap.size W (W.alloc (.cells #[.pointer none] 47)) := (Below.refl _ W).alloc (Nat.le_refl _) _
      have hM : Mk W2 pm (putS (putS (putS ([], false) (numB m.kind)) (numB m.order)) (numB (la : Int))) W := by
       exact hC
      exact ⟨_, _, by go_simp <;> with_reducible rfl, ⟨⟨⟨⟨hW.1.1.1.1.trans (hb.mono hW.1.1.1.1.size), trivial⟩, trivial⟩, trivial⟩, trivial⟩, ⟨_, rfl, hW.1.1.1.1.size, block_new _ _, hM.keep hb⟩⟩
    rintro v3 ⟨_, _, px, rfl, hpx, _, _⟩
    simp only [puts]
    refine flow_bar (fun W => PkM W2 ((HD, false)) pm px W) (fun _ => True) rfl (by kernel_rfl) (by rfl) (by kernel_rfl) (by kernel_rfl) (fun W hW hC => ?_) ?_
    · have hM : Mk W2 pm (putS (putS (putS ([], false) (numB m.kind)) (numB m.order)) (numB (la : Int))) W ∧ W.heap[px]? = some (.cells #[.pointer none] 47 (0, 0)) := by
       obtain ⟨g2, e2, _, h2, h3⟩ := hC
       injection e2 with e2
       injection e2 with e2
       injection e2 with e2 _ _
       subst e2
       exact ⟨h3, h2⟩
      rw [HHP.out] at hM
      obtain ⟨h1, h2⟩ := hM
      have q1 := cell_at h2 0
      have q2 := frozen_at h2 0
      have H1 := Lib.hid h1
      have H2 := Lib.hid h2
      clear h1 h2 hC hW
      refine ⟨_, by go_simp <;> with_reducible rfl, ⟨?_, ?_, hpx⟩, trivial⟩
      · exact H1.out.set H2.out (by decide) (by decide) hpx 0 _
      · rw [block_set H2.out]; rfl
    simp only [Act.put]
    refine flow_end ?_
    rintro W ⟨hR, _⟩ _
    exact .inl ⟨by trivial, pm, px, rfl, hR⟩
  · refine ok_split 11 6 (by decide) ?_ ?_
    · simp only [addAfter, addL]
      refine ok_flow (fun W => Below W2.heap.size W2 W) Nil_ [1, 2, 4, 5, 7, 8, 9, 0, 3, 6, 11, 10, 12] (fun _ => trivial) rfl (fun _ _ _ _ _ h => callsIn_wide.2 h) (by kernel_rfl) (by kernel_rfl) (HB3.out.drew) (trivial) ?_
      refine flow_val ?_ rfl (by kernel_rfl) (by rfl) (fun W hW => ?_) ?_
      rotate_left 1
      · go_simp <;> with_reducible rfl
      simp only [puts]
      refine flow_val ?_ rfl (by kernel_rfl) (by rfl) (fun W hW => ?_) ?_
      rotate_left 1
      · have c0 := cell_at (HCA.out W hW) 0; go_simp <;> with_reducible rfl
      simp only [puts]
      refine flow_val ?_ rfl (by kernel_rfl) (by rfl) (fun W hW => ?_) ?_
      rotate_left 1
      · go_simp <;> with_reducible rfl
      simp only [puts]
      refine flow_val ?_ rfl (by kernel_rfl) (by rfl) (fun W hW => ?_) ?_
      rotate_left 1
      · have c1 := cell_at (HCA.out W hW) 1; go_simp <;> with_reducible rfl
      simp only [puts]
      refine flow_val ?_ rfl (by kernel_rfl) (by rfl) (fun W hW => ?_) ?_
      rotate_left 1
      · go_simp <;> with_reducible rfl
      simp only [puts]
      refine flow_val ?_ rfl (by kernel_rfl) (by rfl) (fun W hW => ?_) ?_
      rotate_left 1
      · have c2 := cell_at (HCA.out W hW) 2; go_simp <;> with_reducible rfl
      simp only [puts]
      refine flow_val ?_ rfl (by kernel_rfl) (by rfl) (fun W hW => ?_) ?_
      rotate_left 1
      · go_simp <;> with_reducible rfl
      simp only [puts]
      refine flow_gcall (fun v W => ∃ p, v = .pointer (some ⟨p, 0, none⟩) ∧ Mk W2 p ([], false) W) rfl (by kernel_rfl) (by rfl) (by kernel_rfl) (fun W hW hC => ⟨_, _, _, by go_simp, (new_any W).mono fun e w1 hh => ?_⟩) ?_
      · obtain ⟨he, hM, hb⟩ := hh
        exact ⟨_, he, hW.trans (hb.mono hW.size), _, rfl, ⟨none, hM, hW.size, by simp, hW.trans (hb.mono hW.size)⟩⟩
      rintro v10 ⟨_, _, pm, rfl, _⟩
      simp only [puts]
      refine flow_turn (.pointer (some ⟨pm, 0, none⟩)) (fun W => Mk W2 pm (putS ([], false) (numB m.kind)) W) rfl (by kernel_rfl) (by rfl) (by kernel_rfl) (fun W hW hC => ?_) ?_
      · have hM : Mk W2 pm (([], false)) W := by
         obtain ⟨g2, e2, h2⟩ := hC
         injection e2 with e2
         injection e2 with e2
         injection e2 with e2 _ _
         subst e2
         exact h2
        refine ⟨_, _, _, by go_simp, (mkk_num hM m.kind HI.out.1).mono fun e w1 hh => ?_⟩
        obtain ⟨he, h1, _, _, h5⟩ := hh
        exact ⟨he, ⟨h1.below, trivial⟩, h1⟩
      simp only [puts]
      refine flow_turn (.pointer (some ⟨pm, 0, none⟩)) (fun W => Mk W2 pm (putS (putS ([], false) (numB m.kind)) (numB m.order)) W) rfl (by kernel_rfl) (by rfl) (by kernel_rfl) (fun W hW hC => ?_) ?_
      · have hM : Mk W2 pm (putS ([], false) (numB m.kind)) W := by
         exact hC
        refine ⟨_, _, _, by go_simp, (mkk_num hM m.order HI.out.2.1).mono fun e w1 hh => ?_⟩
        obtain ⟨he, h1, _, _, h5⟩ := hh
        exact ⟨he, ⟨⟨h1.below, trivial⟩, trivial⟩, h1⟩
      simp only [puts]
      refine flow_gmake (fun v W => ∃ g, v = .pointer (some ⟨g, 0, none⟩) ∧ W2.heap.size ≤ g ∧ W.heap[g]? = some (.cells #[.pointer none] 47 (0, 0)) ∧ Mk W2 pm (putS (putS ([], false) (numB m.kind)) (numB m.order)) W) rfl (by kernel_rfl) (by rfl) (by kernel_rfl) (fun W hW hC => ?_) ?_
      · have hb : Below W.heap.size W (W.alloc (.cells #[.pointer none] 47)) := (Below.refl _ W).alloc (Nat.le_refl _) _
        have hM : Mk W2 pm (putS (putS ([], false) (numB m.kind)) (numB m.order)) W := by
         exact hC
        exact ⟨_, _, by go_simp <;> with_reducible rfl, ⟨⟨⟨hW.1.1.1.trans (hb.mono hW.1.1.1.size), trivial⟩, trivial⟩, trivial⟩, ⟨_, rfl, hW.1.1.1.size, block_new _ _, hM.keep hb⟩⟩
      rintro v3 ⟨_, _, px, rfl, hpx, _, _⟩
      simp only [puts]
      refine flow_turn (.pointer (some ⟨pm, 0, none⟩)) (fun W => Mk W2 pm (putS (putS (putS ([], false) (numB m.kind)) (numB m.order)) (numB (la : Int))) W ∧ W.heap[px]? = some (.cells #[.pointer none] 47 (0, 0))) rfl (by kernel_rfl) (by rfl) (by kernel_rfl) (fun W hW hC => ?_) ?_
      · have hM : Mk W2 pm (putS (putS ([], false) (numB m.kind)) (numB m.order)) W ∧ W.heap[px]? = some (.cells #[.pointer none] 47 (0, 0)) := by
         obtain ⟨g2, e2, _, h2, h3⟩ := hC
         injection e2 with e2
         injection e2 with e2
         injection e2 with e2 _ _
         subst e2
         exact ⟨h3, h2⟩
        refine ⟨_, _, _, by go_simp, (mkk_num hM.1 (la : Int) HI.out.2.2).mono fun e w1 hh => ?_⟩
        obtain ⟨he, h1, _, _, h5⟩ := hh
        exact ⟨he, ⟨⟨⟨⟨h1.below, trivial⟩, trivial⟩, trivial⟩, trivial⟩, ⟨h1, h5 _ _ _ _ hM.2 (by decide) (by decide)⟩⟩
      simp only [puts]
      refine flow_bar (fun W => PkM W2 ((HD, false)) pm px W) (fun _ => True) rfl (by kernel_rfl) (by rfl) (by kernel_rfl) (by kernel_rfl) (fun W hW hC => ?_) ?_
      · have hM : Mk W2 pm (putS (putS (putS ([], false) (numB m.kind)) (numB m.order)) (numB (la : Int))) W ∧ W.heap[px]? = some (.cells #[.pointer none] 47 (0, 0)) := by
         exact hC
        rw [HHP.out] at hM
        obtain ⟨h1, h2⟩ := hM
        have q1 := cell_at h2 0
        have q2 := frozen_at h2 0
        have H1 := Lib.hid h1
        have H2 := Lib.hid h2
        clear h1 h2 hC hW
        refine ⟨_, by go_simp <;> with_reducible rfl, ⟨?_, ?_, hpx⟩, trivial⟩
        · exact H1.out.set H2.out (by decide) (by decide) hpx 0 _
        · rw [block_set H2.out]; rfl
      simp only [Act.put]
      refine flow_end ?_
      rintro W ⟨hR, _⟩ _
      exact .inl ⟨by trivial, pm, px, rfl, hR⟩
    · refine ok_split 11 3 (by decide) ?_ ?_
      · simp only [addAfter, addL]
        refine ok_flow (fun W => Below W2.heap.size W2 W) Nil_ [1, 2, 4, 5, 7, 8, 9, 0, 3, 11, 6, 10, 12] (fun _ => trivial) rfl (fun _ _ _ _ _ h => callsIn_wide.2 h) (by kernel_rfl) (by kernel_rfl) (HB3.out.drew) (trivial) ?_
        refine flow_val ?_ rfl (by kernel_rfl) (by rfl) (fun W hW => ?_) ?_
        rotate_left 1
        · go_simp <;> with_reducible rfl
        simp only [puts]
        refine flow_val ?_ rfl (by kernel_rfl) (by rfl) (fun W hW => ?_) ?_
        rotate_left 1
        · have c0 := cell_at (HCA.out W hW) 0; go_simp <;> with_reducible rfl
        simp only [puts]
        refine flow_val ?_ rfl (by kernel_rfl) (by rfl) (fun W hW => ?_) ?_
        rotate_left 1
        · go_simp <;> with_reducible rfl
        simp only [puts]
        refine flow_val ?_ rfl (by kernel_rfl) (by rfl) (fun W hW => ?_) ?_
        rotate_left 1
        · have c1 := cell_at (HCA.out W hW) 1; go_simp <;> with_reducible rfl
        simp only [puts]
        refine flow_val ?_ rfl (by kernel_rfl) (by rfl) (fun W hW => ?_) ?_
        rotate_left 1
        · go_simp <;> with_reducible rfl
        simp only [puts]
        refine flow_val ?_ rfl (by kernel_rfl) (by rfl) (fun W hW => ?_) ?_
        rotate_left 1
        · have c2 := cell_at (HCA.out W hW) 2; go_simp <;> with_reducible rfl
        simp only [puts]
        refine flow_val ?_ rfl (by kernel_rfl) (by rfl) (fun W hW => ?_) ?_
        rotate_left 1
        · go_simp <;> with_reducible rfl
        simp only [puts]
        refine flow_gcall (fun v W => ∃ p, v = .pointer (some ⟨p, 0, none⟩) ∧ Mk W2 p ([], false) W) rfl (by kernel_rfl) (by rfl) (by kernel_rfl) (fun W hW hC => ⟨_, _, _, by go_simp, (new_any W).mono fun e w1 hh => ?_⟩) ?_
        · obtain ⟨he, hM, hb⟩ := hh
          exact ⟨_, he, hW.trans (hb.mono hW.size), _, rfl, ⟨none, hM, hW.size, by simp, hW.trans (hb.mono hW.size)⟩⟩
        rintro v10 ⟨_, _, pm, rfl, _⟩
        simp only [puts]
        refine flow_turn (.pointer (some ⟨pm, 0, none⟩)) (fun W => Mk W2 pm (putS ([], false) (numB m.kind)) W) rfl (by kernel_rfl) (by rfl) (by kernel_rfl) (fun W hW hC => ?_) ?_
        · have hM : Mk W2 pm (([], false)) W := by
           obtain ⟨g2, e2, h2⟩ := hC
           injection e2 with e2
           injection e2 with e2
           injection e2 with e2 _ _
           subst e2
           exact h2
          refine ⟨_, _, _, by go_simp, (mkk_num hM m.kind HI.out.1).mono fun e w1 hh => ?_⟩
          obtain ⟨he, h1, _, _, h5⟩ := hh
          exact ⟨he, ⟨h1.below, trivial⟩, h1⟩
        simp only [puts]
        refine flow_gmake (fun v W => ∃ g, v = .pointer (some ⟨g, 0, none⟩) ∧ W2.heap.size ≤ g ∧ W.heap[g]? = some (.cells #[.pointer none] 47 (0, 0)) ∧ Mk W2 pm (putS ([], false) (numB m.kind)) W) rfl (by kernel_rfl) (by rfl) (by kernel_rfl) (fun W hW hC => ?_) ?_
        · have hb : Below W.heap.size W (W.alloc (.cells #[.pointer none] 47)) := (Below.refl _ W).alloc (Nat.le_refl _) _
          have hM : Mk W2 pm (putS ([], false) (numB m.kind)) W := by
           exact hC
          exact ⟨_, _, by go_simp <;> with_reducible rfl, ⟨⟨hW.1.1.trans (hb.mono hW.1.1.size), trivial⟩, trivial⟩, ⟨_, rfl, hW.1.1.size, block_new _ _, hM.keep hb⟩⟩
        rintro v3 ⟨_, _, px, rfl, hpx, _, _⟩
        simp only [puts]
        refine flow_turn (.pointer (some ⟨pm, 0, none⟩)) (fun W => Mk W2 pm (putS (putS ([], false) (numB m.kind)) (numB m.order)) W ∧ W.heap[px]? = some (.cells #[.pointer none] 47 (0, 0))) rfl (by kernel_rfl) (by rfl) (by kernel_rfl) (fun W hW hC => ?_) ?_
        · have hM : Mk W2 pm (putS ([], false) (numB m.kind)) W ∧ W.heap[px]? = some (.cells #[.pointer none] 47 (0, 0)) := by
           obtain ⟨g2, e2, _, h2, h3⟩ := hC
           injection e2 with e2
           injection e2 with e2
           injection e2 with e2 _ _
           subst e2
           exact ⟨h3, h2⟩
          refine ⟨_, _, _, by go_simp, (mkk_num hM.1 m.order HI.out.2.1).mono fun e w1 hh => ?_⟩
          obtain ⟨he, h1, _, _, h5⟩ := hh
          exact ⟨he, ⟨⟨⟨h1.below, trivial⟩, trivial⟩, trivial⟩, ⟨h1, h5 _ _ _ _ hM.2 (by decide) (by decide)⟩⟩
        simp only [puts]
        refine flow_turn (.pointer (some ⟨pm, 0, none⟩)) (fun W => Mk W2 pm (putS (putS (putS ([], false) (numB m.kind)) (numB m.order)) (numB (la : Int))) W ∧ W.heap[px]? = some (.cells #[.pointer none] 47 (0, 0))) rfl (by kernel_rfl) (by rfl) (by kernel_rfl) (fun W hW hC => ?_) ?_
        · have hM : Mk W2 pm (putS (putS ([], false) (numB m.kind)) (numB m.order)) W ∧ W.heap[px]? = some (.cells #[.pointer none] 47 (0, 0)) := by
           exact hC
          refine ⟨_, _, _, by go_simp, (mkk_num hM.1 (la : Int) HI.out.2.2).mono fun e w1 hh => ?_⟩
          obtain ⟨he, h1, _, _, h5⟩ := hh
          exact ⟨he, ⟨⟨⟨⟨h1.below, trivial⟩, trivial⟩, trivial⟩, trivial⟩, ⟨h1, h5 _ _ _ _ hM.2 (by decide) (by decide)⟩⟩
        simp only [puts]
        refine flow_bar (fun W => PkM W2 ((HD, false)) pm px W) (fun _ => True) rfl (by kernel_rfl) (by rfl) (by kernel_rfl) (by kernel_rfl) (fun W hW hC => ?_) ?_
        · have hM : Mk W2 pm (putS (putS (putS ([], false) (numB m.kind)) (numB m.order)) (numB (la : Int))) W ∧ W.heap[px]? = some (.cells #[.pointer none] 47 (0, 0)) := by
           exact hC
          rw [HHP.out] at hM
          obtain ⟨h1, h2⟩ := hM
          have q1 := cell_at h2 0
          have q2 := frozen_at h2 0
          have H1 := Lib.hid h1
          have H2 := Lib.hid h2
          clear h1 h2 hC hW
          refine ⟨_, by go_simp <;> with_reducible rfl, ⟨?_, ?_, hpx⟩, trivial⟩
          · exact H1.out.set H2.out (by decide) (by decide) hpx 0 _
          · rw [block_set H2.out]; rfl
        simp only [Act.put]
        refine flow_end ?_
        rintro W ⟨hR, _⟩ _
        exact .inl ⟨by trivial, pm, px, rfl, hR⟩
      · refine ok_split 11 0 (by decide) ?_ ?_
        · simp only [addAfter, addL]
          refine ok_flow (fun W => Below W2.heap.size W2 W) Nil_ [1, 2, 4, 5, 7, 8, 9, 0, 11, 3, 6, 10, 12] (fun _ => trivial) rfl (fun _ _ _ _ _ h => callsIn_wide.2 h) (by kernel_rfl) (by kernel_rfl) (HB3.out.drew) (trivial) ?_
          refine flow_val ?_ rfl (by kernel_rfl) (by rfl) (fun W hW => ?_) ?_
          rotate_left 1
          · go_simp <;> with_reducible rfl
          simp only [puts]
          refine flow_val ?_ rfl (by kernel_rfl) (by rfl) (fun W hW => ?_) ?_
          rotate_left 1
          · have c0 := cell_at (HCA.out W hW) 0; go_simp <;> with_reducible rfl
          simp only [puts]
          refine flow_val ?_ rfl (by kernel_rfl) (by rfl) (fun W hW => ?_) ?_
          rotate_left 1
          · go_simp <;> with_reducible rfl
          simp only [puts]
          refine flow_val ?_ rfl (by kernel_rfl) (by rfl) (fun W hW => ?_) ?_
          rotate_left 1
          · have c1 := cell_at (HCA.out W hW) 1; go_simp <;> with_reducible rfl
          simp only [puts]
          refine flow_val ?_ rfl (by kernel_rfl) (by rfl) (fun W hW => ?_) ?_
          rotate_left 1
          · go_simp <;> with_reducible rfl
          simp only [puts]
          refine flow_val ?_ rfl (by kernel_rfl) (by rfl) (fun W hW => ?_) ?_
          rotate_left 1
          · have c2 := cell_at (HCA.out W hW) 2; go_simp <;> with_reducible rfl
          simp only [puts]
          refine flow_val ?_ rfl (by kernel_rfl) (by rfl) (fun W hW => ?_) ?_
          rotate_left 1
          · go_simp <;> with_reducible rfl
          simp only [puts]
          refine flow_gcall (fun v W => ∃ p, v = .pointer (some ⟨p, 0, none⟩) ∧ Mk W2 p ([], false) W) rfl (by kernel_rfl) (by rfl) (by kernel_rfl) (fun W hW hC => ⟨_, _, _, by go_simp, (new_any W).mono fun e w1 hh => ?_⟩) ?_
          · obtain ⟨he, hM, hb⟩ := hh
            exact ⟨_, he, hW.trans (hb.mono hW.size), _, rfl, ⟨none, hM, hW.size, by simp, hW.trans (hb.mono hW.size)⟩⟩
          rintro v10 ⟨_, _, pm, rfl, _⟩
          simp only [puts]
          refine flow_gmake (fun v W => ∃ g, v = .pointer (some ⟨g, 0, none⟩) ∧ W2.heap.size ≤ g ∧ W.heap[g]? = some (.cells #[.pointer none] 47 (0, 0)) ∧ Mk W2 pm (([], false)) W) rfl (by kernel_rfl) (by rfl) (by kernel_rfl) (fun W hW hC => ?_) ?_
          · have hb : Below W.heap.size W (W.alloc (.cells #[.pointer none] 47)) := (Below.refl _ W).alloc (Nat.le_refl _) _
            have hM : Mk W2 pm (([], false)) W := by
             obtain ⟨g2, e2, h2⟩ := hC
             injection e2 with e2
             injection e2 with e2
             injection e2 with e2 _ _
             subst e2
             exact h2
            exact ⟨_, _, by go_simp <;> with_reducible rfl, ⟨hW.1.trans (hb.mono hW.1.size), trivial⟩, ⟨_, rfl, hW.1.size, block_new _ _, hM.keep hb⟩⟩
          rintro v3 ⟨_, _, px, rfl, hpx, _, _⟩
          simp only [puts]
          refine flow_turn (.pointer (some ⟨pm, 0, none⟩)) (fun W => Mk W2 pm (putS ([], false) (numB m.kind)) W ∧ W.heap[px]? = some (.cells #[.pointer none] 47 (0, 0))) rfl (by kernel_rfl) (by rfl) (by kernel_rfl) (fun W hW hC => ?_) ?_
          · have hM : Mk W2 pm (([], false)) W ∧ W.heap[px]? = some (.cells #[.pointer none] 47 (0, 0)) := by
             obtain ⟨g2, e2, _, h2, h3⟩ := hC
             injection e2 with e2
             injection e2 with e2
             injection e2 with e2 _ _
             subst e2
             exact ⟨h3, h2⟩
            refine ⟨_, _, _, by go_simp, (mkk_num hM.1 m.kind HI.out.1).mono fun e w1 hh => ?_⟩
            obtain ⟨he, h1, _, _, h5⟩ := hh
            exact ⟨he, ⟨⟨h1.below, trivial⟩, trivial⟩, ⟨h1, h5 _ _ _ _ hM.2 (by decide) (by decide)⟩⟩
          simp only [puts]
          refine flow_turn (.pointer (some ⟨pm, 0, none⟩)) (fun W => Mk W2 pm (putS (putS ([], false) (numB m.kind)) (numB m.order)) W ∧ W.heap[px]? = some (.cells #[.pointer none] 47 (0, 0))) rfl (by kernel_rfl) (by rfl) (by kernel_rfl) (fun W hW hC => ?_) ?_
          · have hM : Mk W2 pm (putS ([], false) (numB m.kind)) W ∧ W.heap[px]? = some (.cells #[.pointer none] 47 (0, 0)) := by
             exact hC
            refine ⟨_, _, _, by go_simp, (mkk_num hM.1 m.order HI.out.2.1).mono fun e w1 hh => ?_⟩
            obtain ⟨he, h1, _, _, h5⟩ := hh
            exact ⟨he, ⟨⟨⟨h1.below, trivial⟩, trivial⟩, trivial⟩, ⟨h1, h5 _ _ _ _ hM.2 (by decide) (by decide)⟩⟩
          simp only [puts]
          refine flow_turn (.pointer (some ⟨pm, 0, none⟩)) (fun W => Mk W2 pm (putS (putS (putS ([], false) (numB m.kind)) (numB m.order)) (numB (la : Int))) W ∧ W.heap[px]? = some (.cells #[.pointer none] 47 (0, 0))) rfl (by kernel_rfl) (by rfl) (by kernel_rfl) (fun W hW hC => ?_) ?_
          · have hM : Mk W2 pm (putS (putS ([], false) (numB m.kind)) (numB m.order)) W ∧ W.heap[px]? = some (.cells #[.pointer none] 47 (0, 0)) := by
             exact hC
            refine ⟨_, _, _, by go_simp, (mkk_num hM.1 (la : Int) HI.out.2.2).mono fun e w1 hh => ?_⟩
            obtain ⟨he, h1, _, _, h5⟩ := hh
            exact ⟨he, ⟨⟨⟨⟨h1.below, trivial⟩, trivial⟩, trivial⟩, trivial⟩, ⟨h1, h5 _ _ _ _ hM.2 (by decide) (by decide)⟩⟩
          simp only [puts]
          refine flow_bar (fun W => PkM W2 ((HD, false)) pm px W) (fun _ => True) rfl (by kernel_rfl) (by rfl) (by kernel_rfl) (by kernel_rfl) (fun W hW hC => ?_) ?_
          · have hM : Mk W2 pm (putS (putS (putS ([], false) (numB m.kind)) (numB m.order)) (numB (la : Int))) W ∧ W.heap[px]? = some (.cells #[.pointer none] 47 (0, 0)) := by
             exact hC
            rw [HHP.out] at hM
            obtain ⟨h1, h2⟩ := hM
            have q1 := cell_at h2 0
            have q2 := frozen_at h2 0
            have H1 := Lib.hid h1
            have H2 := Lib.hid h2
            clear h1 h2 hC hW
            refine ⟨_, by go_simp <;> with_reducible rfl, ⟨?_, ?_, hpx⟩, trivial⟩
            · exact H1.out.set H2.out (by decide) (by decide) hpx 0 _
            · rw [block_set H2.out]; rfl
          simp only [Act.put]
          refine flow_end ?_
          rintro W ⟨hR, _⟩ _
          exact .inl ⟨by trivial, pm, px, rfl, hR⟩
        · simp only [addAfter, addL]
          refine ok_flow (fun W => Below W2.heap.size W2 W) Nil_ [1, 2, 4, 5, 7, 8, 9, 11, 0, 3, 6, 10, 12] (fun _ => trivial) rfl (fun _ _ _ _ _ h => callsIn_wide.2 h) (by kernel_rfl) (by kernel_rfl) (HB3.out.drew) (trivial) ?_
          refine flow_val ?_ rfl (by kernel_rfl) (by rfl) (fun W hW => ?_) ?_
          rotate_left 1
          · go_simp <;> with_reducible rfl
          simp only [puts]
          refine flow_val ?_ rfl (by kernel_rfl) (by rfl) (fun W hW => ?_) ?_
          rotate_left 1
          · have c0 := cell_at (HCA.out W hW) 0; go_simp <;> with_reducible rfl
          simp only [puts]
          refine flow_val ?_ rfl (by kernel_rfl) (by rfl) (fun W hW => ?_) ?_
          rotate_left 1
          · go_simp <;> with_reducible rfl
          simp only [puts]
          refine flow_val ?_ rfl (by kernel_rfl) (by rfl) (fun W hW => ?_) ?_
          rotate_left 1
          · have c1 := cell_at (HCA.out W hW) 1; go_simp <;> with_reducible rfl
          simp only [puts]
          refine flow_val ?_ rfl (by kernel_rfl) (by rfl) (fun W hW => ?_) ?_
          rotate_left 1
          · go_simp <;> with_reducible rfl
          simp only [puts]
          refine flow_val ?_ rfl (by kernel_rfl) (by rfl) (fun W hW => ?_) ?_
          rotate_left 1
          · have c2 := cell_at (HCA.out W hW) 2; go_simp <;> with_reducible rfl
          simp only [puts]
          refine flow_val ?_ rfl (by kernel_rfl) (by rfl) (fun W hW => ?_) ?_
          rotate_left 1
          · go_simp <;> with_reducible rfl
          simp only [puts]
          refine flow_gmake (fun v W => ∃ g, v = .pointer (some ⟨g, 0, none⟩) ∧ W2.heap.size ≤ g ∧ W.heap[g]? = some (.cells #[.pointer none] 47 (0, 0))) rfl (by kernel_rfl) (by rfl) (by kernel_rfl) (fun W hW hC => ?_) ?_
          · have hb : Below W.heap.size W (W.alloc (.cells #[.pointer none] 47)) := (Below.refl _ W).alloc (Nat.le_refl _) _
            exact ⟨_, _, by go_simp <;> with_reducible rfl, hW.trans (hb.mono hW.size), ⟨_, rfl, hW.size, block_new _ _⟩⟩
          rintro v3 ⟨_, _, px, rfl, hpx, _⟩
          simp only [puts]
          refine flow_gcall (fun v W => ∃ p, v = .pointer (some ⟨p, 0, none⟩) ∧ Mk W2 p ([], false) W ∧ W.heap[px]? = some (.cells #[.pointer none] 47 (0, 0))) rfl (by kernel_rfl) (by rfl) (by kernel_rfl) (fun W hW hC => ⟨_, _, _, by go_simp, (new_any W).mono fun e w1 hh => ?_⟩) ?_
          · obtain ⟨he, hM, hb⟩ := hh
            have hx : W.heap[px]? = some (.cells #[.pointer none] 47 (0, 0)) := by
             obtain ⟨g2, e2, _, h2⟩ := hC
             injection e2 with e2
             injection e2 with e2
             injection e2 with e2 _ _
             subst e2
             exact h2
            exact ⟨_, he, ⟨hW.1.trans (hb.mono hW.1.size), trivial⟩, _, rfl, ⟨none, hM, hW.1.size, by simp, hW.1.trans (hb.mono hW.1.size)⟩, (hb.block _ (lt_of_block hx)).trans hx⟩
          rintro v10 ⟨_, _, pm, rfl, _, _⟩
          simp only [puts]
          refine flow_turn (.pointer (some ⟨pm, 0, none⟩)) (fun W => Mk W2 pm (putS ([], false) (numB m.kind)) W ∧ W.heap[px]? = some (.cells #[.pointer none] 47 (0, 0))) rfl (by kernel_rfl) (by rfl) (by kernel_rfl) (fun W hW hC => ?_) ?_
          · have hM : Mk W2 pm (([], false)) W ∧ W.heap[px]? = some (.cells #[.pointer none] 47 (0, 0)) := by
             obtain ⟨g2, e2, h2⟩ := hC
             injection e2 with e2
             injection e2 with e2
             injection e2 with e2 _ _
             subst e2
             exact h2
            refine ⟨_, _, _, by go_simp, (mkk_num hM.1 m.kind HI.out.1).mono fun e w1 hh => ?_⟩
            obtain ⟨he, h1, _, _, h5⟩ := hh
            exact ⟨he, ⟨⟨h1.below, trivial⟩, trivial⟩, ⟨h1, h5 _ _ _ _ hM.2 (by decide) (by decide)⟩⟩
          simp only [puts]
          refine flow_turn (.pointer (some ⟨pm, 0, none⟩)) (fun W => Mk W2 pm (putS (putS ([], false) (numB m.kind)) (numB m.order)) W ∧ W.heap[px]? = some (.cells #[.pointer none] 47 (0, 0))) rfl (by kernel_rfl) (by rfl) (by kernel_rfl) (fun W hW hC => ?_) ?_
          · have hM : Mk W2 pm (putS ([], false) (numB m.kind)) W ∧ W.heap[px]? = some (.cells #[.pointer none] 47 (0, 0)) := by
             exact hC
            refine ⟨_, _, _, by go_simp, (mkk_num hM.1 m.order HI.out.2.1).mono fun e w1 hh => ?_⟩
            obtain ⟨he, h1, _, _, h5⟩ := hh
            exact ⟨he, ⟨⟨⟨h1.below, trivial⟩, trivial⟩, trivial⟩, ⟨h1, h5 _ _ _ _ hM.2 (by decide) (by decide)⟩⟩
          simp only [puts]
          refine flow_turn (.pointer (some ⟨pm, 0, none⟩)) (fun W => Mk W2 pm (putS (putS (putS ([], false) (numB m.kind)) (numB m.order)) (numB (la : Int))) W ∧ W.heap[px]? = some (.cells #[.pointer none] 47 (0, 0))) rfl (by kernel_rfl) (by rfl) (by kernel_rfl) (fun W hW hC => ?_) ?_
          · have hM : Mk W2 pm (putS (putS ([], false) (numB m.kind)) (numB m.order)) W ∧ W.heap[px]? = some (.cells #[.pointer none] 47 (0, 0)) := by
             exact hC
            refine ⟨_, _, _, by go_simp, (mkk_num hM.1 (la : Int) HI.out.2.2).mono fun e w1 hh => ?_⟩
            obtain ⟨he, h1, _, _, h5⟩ := hh
            exact ⟨he, ⟨⟨⟨⟨h1.below, trivial⟩, trivial⟩, trivial⟩, trivial⟩, ⟨h1, h5 _ _ _ _ hM.2 (by decide) (by decide)⟩⟩
          simp only [puts]
          refine flow_bar (fun W => PkM W2 ((HD, false)) pm px W) (fun _ => True) rfl (by kernel_rfl) (by rfl) (by kernel_rfl) (by kernel_rfl) (fun W hW hC => ?_) ?_
          · have hM : Mk W2 pm (putS (putS (putS ([], false) (numB m.kind)) (numB m.order)) (numB (la : Int))) W ∧ W.heap[px]? = some (.cells #[.pointer none] 47 (0, 0)) := by
             exact hC
            rw [HHP.out] at hM
            obtain ⟨h1, h2⟩ := hM
            have q1 := cell_at h2 0
            have q2 := frozen_at h2 0
            have H1 := Lib.hid h1
            have H2 := Lib.hid h2
            clear h1 h2 hC hW
            refine ⟨_, by go_simp <;> with_reducible rfl, ⟨?_, ?_, hpx⟩, trivial⟩
            · exact H1.out.set H2.out (by decide) (by decide) hpx 0 _
            · rw [block_set H2.out]; rfl
          simp only [Act.put]
          refine flow_end ?_
          rintro W ⟨hR, _⟩ _
          exact .inl ⟨by trivial, pm, px, rfl, hR⟩
 case hk =>
  rintro pm px W0 h0
  have H0 := Lib.hid h0
  clear h0
  have c2 := cell_at (HCA.out W0 H0.out.1.below) 2
  go_wp2_with fail
  refine (all_any _ _ _ _).mono ?_
  rintro e w5 ⟨rfl, hw5⟩
  obtain ⟨pc, hpc⟩ : ∃ pc, W0.heap.size = pc := ⟨_, rfl⟩
  have hbw : Below W0.heap.size W0 w5 := by rw [← hw5]; exact (Below.refl _ W0).alloc (Nat.le_refl _) _
  have d0 : w5.heap[pc]? = some (.cells #[.slice A la c] 22 (0, 0)) := by rw [← hw5, ← hpc]; exact block_new _ _
  have hB5 : Below W2.heap.size W2 w5 := H0.out.1.below.trans (hbw.mono H0.out.1.below.size)
  have hP5 : PutI W2 pm px HD [] w5 := ⟨by simpa [itemsB] using H0.out.1.keep hbw, (hbw.block _ (lt_of_block H0.out.2.1)).trans H0.out.2.1, H0.out.2.2⟩
  have hsz5 : W2.heap.size ≤ w5.heap.size := hB5.size
  rw [hpc]
  have HP5 := Lib.hid hP5
  have HB5 := Lib.hid hB5
  have HC0 := Lib.hid d0
  have hA : ∀ a, A = some a → 0 < m.items.length → a.block < W2.heap.size := fun a ha hp => by
   obtain ⟨g, o', e, hg, _⟩ := HR.out.2 (by rw [HLA.out] at hp; exact hp)
   rw [e] at ha
   cases ha
   exact hg
  clear hw5 hpc hbw d0 hB5 hP5 H0 c2
  go_wp2_with fail
  refine (wpIn_wide (n := 9)).1 ?_
  apply wpIn_rangeFunc_ownF (F := Fence.wide) (n := 9) (hro := rfl) (h1 := by omega) (gf := 54) (lb := #[.pointer (some ⟨pc, 0, none⟩)]) (hg := rfl) (hFg := trivial) (eg := enters_of Try.func54 (by kernel_rfl) rfl)
   (hseq := all_iterP _ W2.heap.size pc A c m.items qs HQ.out w5 (by rw [cell_at HC0.out, HLA.out]; rfl) (by rw [HLA.out]; exact HR.out.below HB5.out) (by rw [HLA.out]; omega) (by omega) hA) (hKt := belowK_t) (hKb := belowK_b hsz5) (hb0 := Below.refl _ _) (hps := fun _ => rfl)
   (I := PutI W2 pm px HD) (Ix := fun _ _ _ => False) (hI := putI_own hsz5) (hIx := fun _ _ _ _ _ hs _ _ => hs) (h0 := HP5.out)
  case hassign =>
   intro l x W K hK
   dsimp only [encRowP]
   gi_wp2
   exact hK
  case hstop =>
   rintro D c pre W3 hD hpre hf _
   exact hf.elim
  case hbody =>
   rintro l pre x W hi hlt
   obtain ⟨k1, k2, k3⟩ := hi
   have x0 := cell_at k2 0
   have K1 := Lib.hid k1
   have K2 := Lib.hid k2
   have HS := Lib.hid (putI_next (x := x) HHL.out (by have := HLA.out; omega : pre.length ≤ 16))
   have hx16 : x.1.good.size ≤ 140737488351232 := by have := x.2.1; omega
   have HX16 := Lib.hid hx16
   have HX64 : Hid (I64 x.1.n) := Lib.hid ⟨x.2.2.1, x.2.2.2⟩
   clear k1 k2 hx16 hlt
   gi_wp2_with fail
   refine ⟨trivial, CallsIn.mono (CallsIn.inRound l (callsIn_wide.2 (mkk_text K1.out x.1.good HX16.out))) ?_⟩
   rintro e W4 ⟨rfl, h2, hk2, hb2, hx2⟩
   have H2 := Lib.hid h2
   have HK2 := Lib.hid hk2
   have HB2 := Lib.hid hb2
   have HX2 := Lib.hid (hx2 _ _ _ _ K2.out (by decide) (by decide))
   clear h2 hk2 hb2 hx2 x0
   gi_wp2_with fail
   refine ⟨trivial, CallsIn.mono (CallsIn.inRound l (callsIn_wide.2 (mkk_num H2.out x.1.n HX64.out))) ?_⟩
   rintro e W6 ⟨rfl, h4, hk4, hb4, hx4⟩
   rw [HS.out] at h4
   have H4 := Lib.hid h4
   have HK4 := Lib.hid (HK2.out.trans hk4)
   have HB4 := Lib.hid (HB2.out.trans hb4)
   have HX4 := Lib.hid (hx4 _ _ _ _ HX2.out (by decide) (by decide))
   clear h4 hk4 hb4 hx4
   gi_wp2
   exact ⟨HK4.out, HB4.out, H4.out, HX4.out, k3⟩
  case hdone =>
   rintro D ys W3 hD rfl ⟨k1, k2, k3⟩ hK
   rw [HQ.out] at k1
   have K1 := Lib.hid k1
   have K2 := Lib.hid k2
   have HKD : Hid (W3.heap[D]? = some (.deferred (some []))) := Lib.hid hK
   have c3 := cell_at (HCA.out W3 K1.out.below) 3
   have c4 := cell_at (HCA.out W3 K1.out.below) 4
   have c5 := cell_at (HCA.out W3 K1.out.below) 5
   have c6 := cell_at (HCA.out W3 K1.out.below) 6
   have c7 := cell_at (HCA.out W3 K1.out.below) 7
   have c8 := cell_at (HCA.out W3 K1.out.below) 8
   have c9 := cell_at (HCA.out W3 K1.out.below) 9
   have c10 := cell_at (HCA.out W3 K1.out.below) 10
   have c11 := cell_at (HCA.out W3 K1.out.below) 11
   clear k1 k2 hK
   go_wp2_with fail
   refine (HAE.out W3 K1.out.below).mono ?_
   rintro e W4 ⟨v, n, rfl, hv, hb4⟩
   have H4 := Lib.hid (K1.out.keep hb4)
   have HX4 := Lib.hid ((hb4.block _ (lt_of_block K2.out)).trans K2.out)
   have HD4 : Hid (W4.heap[D]? = some (.deferred (some []))) := Lib.hid ((hb4.block D (lt_of_block HKD.out)).trans HKD.out)
   obtain ⟨A4, k4, rfl, _, _, r4⟩ := hv
   obtain ⟨T, hT⟩ : ∃ T, strOf CK = T := ⟨_, rfl⟩
   have HNT : Hid (natsOf T = CK) := Lib.hid (by rw [← hT]; exact natsOf_strOf' HCL.out)
   have HTS : Hid (T.size ≤ 140737488351232) := Lib.hid (by rw [← hT, strOf_size']; have := HCE.out; omega)
   have hS1 : (convert 31 9 (.slice A4 CK.length k4)).run Try.prog W4 = .ok (.string T) W4 := hT ▸ run_str W4 A4 _ k4 CK r4 HCL.out
   have x0 := cell_at HX4.out 0
   clear hb4 hT r4 c3 c4 c5 c6 c7 c8 c9 c10 c11
   go_wp2_with fail
   refine (mkk_text H4.out T HTS.out).mono ?_
   rintro e W5 ⟨rfl, h5, hk5, hb5, hx5⟩
   have HX5 := Lib.hid (hx5 _ _ _ _ HX4.out (by decide) (by decide))
   have HD5 : Hid (W5.heap[D]? = some (.deferred (some []))) := Lib.hid (hk5.same _ _ HD4.out rfl)
   rw [HNT.out, putS_app (by have h1 := HEL.out; rw [HEH.out] at h1; simp only [List.length_append] at h1 ⊢; omega)] at h5
   have HSC : Hid ((HD ++ itemsB m.items ++ textB CK).length ≤ 2048) := Lib.hid (by have h1 := HEL.out; rw [HEH.out] at h1; simp only [List.length_append] at h1 ⊢; omega)
   obtain ⟨SC, hSC⟩ : ∃ SC, HD ++ itemsB m.items ++ textB CK = SC := ⟨_, rfl⟩
   rw [hSC] at h5 HSC HEH
   have H6 := Lib.hid h5
   have c0 := cell_at (HCA.out W5 H6.out.below) 0
   clear h5 hk5 hb5 hx5 hSC x0 hS1
   go_wp2_with fail
   refine (mhas_any m.kind W5).mono ?_
   rintro e w6 ⟨rfl, rfl⟩
   obtain ⟨H, hH⟩ : ∃ H, txtM m.kind = H := ⟨_, rfl⟩
   obtain ⟨HA, hHA⟩ : ∃ HA, hasM m.kind 121 = HA := ⟨_, rfl⟩
   have HEQ : Hid ((H.toList == [121]) = HA) := Lib.hid (by rw [← hH, ← hHA]; exact txtM_y m.kind)
   rw [hHA] at HY HEH
   rw [hH]
   clear hH hHA c0
   cases HA
   case false =>
    have HEN : Hid (EN = SC) := Lib.hid (by have := HEH.out; simpa using this)
    have hq := HEQ.out
    have x0 := cell_at HX5.out 0
    obtain ⟨G, j1, j2, j3, j4⟩ := id H6.out
    have J1 := Lib.hid j1
    clear j1 j2 j3 j4
    go_wp2_with fail
    refine (mdone_any pm G (SC, false) W5 J1.out (by simp only; have := HSC.out; omega)).mono ?_
    rintro e W7 ⟨v, rfl, hv, hb7⟩
    simp only [Bool.false_eq_true, if_false] at hv ⊢
    have HV := Lib.hid hv
    have HB7 := Lib.hid hb7
    have hK0 : W7.heap[D]? = some (.deferred (some [])) := (hb7.block D (lt_of_block HD5.out)).trans HD5.out
    have hK1 := Lib.hid hK0
    clear hv hb7 hK0 x0
    go_wp2_with fail
    refine ⟨by simp, .inl ⟨_, _, rfl, run_takeDeferred hK1.out, ?_⟩⟩
    have o2 := ownsRow_putObj HV.out (.deferred none) hK1.out rfl
    exact ⟨.tuple #[v, .int .i64 0], by simp [results, Try.f8, go_sem], v, rfl, by rw [HEN.out]; exact Bs.own_n o2, ((HKB.out.trans (H6.out.below.mono HKB.out.size)).trans (HB7.out.mono (HKB.out.trans (H6.out.below.mono HKB.out.size)).size)).trans (belowK_b (w := w) (Nat.le_refl _) _ D _ _ (by have := hD; have := HKB.out.size; omega) hK1.out rfl rfl)⟩
   case true =>
    have HEN : Hid (EN = SC ++ numsB (ysM m)) := Lib.hid (by have := HEH.out; simpa using this)
    have HPY := Lib.hid (ysM_put (m := m) HSC.out)
    replace HY := Lib.hid (HY.out rfl)
    have hq := HEQ.out
    have x0 := cell_at HX5.out 0
    go_wp2_with fail
    refine wp_region_flow2 (fun W => Below W2.heap.size W2 W ∧ W.heap[px]? = some (.cells #[.pointer (some ⟨pm, 0, none⟩)] 47 (0, 0)) ∧ W.heap[D]? = some (.deferred (some []))) (fun W => Mk W2 pm (SC, false) W) [0, 1, 2, 3, 5, 6, 7, 9, 10, 11, 13, 14, 15, 4, 8, 12, 16] (by kernel_rfl) (by kernel_rfl) (by kernel_rfl) (⟨H6.out.below.drew, HX5.out, HD5.out⟩) (H6.out.keep ((Below.refl _ _).drew)) ?_
    refine flow_val ?_ rfl (by kernel_rfl) (by rfl) (fun W hW => ?_) ?_
    rotate_left 1
    · have c0 := cell_at hW.2.1 0; go_simp <;> with_reducible rfl
    simp only [puts]
    refine flow_val ?_ rfl (by kernel_rfl) (by rfl) (fun W hW => ?_) ?_
    rotate_left 1
    · go_simp <;> with_reducible rfl
    simp only [puts]
    refine flow_val ?_ rfl (by kernel_rfl) (by rfl) (fun W hW => ?_) ?_
    rotate_left 1
    · go_simp <;> with_reducible rfl
    simp only [puts]
    refine flow_val ?_ rfl (by kernel_rfl) (by rfl) (fun W hW => ?_) ?_
    rotate_left 1
    · have c12 := cell_at (HCA.out W hW.1) 12; go_simp <;> with_reducible rfl
    simp only [puts]
    refine flow_val ?_ rfl (by kernel_rfl) (by rfl) (fun W hW => ?_) ?_
    rotate_left 1
    · go_simp <;> with_reducible rfl
    simp only [puts]
    refine flow_val ?_ rfl (by kernel_rfl) (by rfl) (fun W hW => ?_) ?_
    rotate_left 1
    · go_simp <;> with_reducible rfl
    simp only [puts]
    refine flow_val ?_ rfl (by kernel_rfl) (by rfl) (fun W hW => ?_) ?_
    rotate_left 1
    · have c13 := cell_at (HCA.out W hW.1) 13; go_simp <;> with_reducible rfl
    simp only [puts]
    refine flow_val ?_ rfl (by kernel_rfl) (by rfl) (fun W hW => ?_) ?_
    rotate_left 1
    · go_simp <;> with_reducible rfl
    simp only [puts]
    refine flow_val ?_ rfl (by kernel_rfl) (by rfl) (fun W hW => ?_) ?_
    rotate_left 1
    · go_simp <;> with_reducible rfl
    simp only [puts]
    refine flow_val ?_ rfl (by kernel_rfl) (by rfl) (fun W hW => ?_) ?_
    rotate_left 1
    · have c14 := cell_at (HCA.out W hW.1) 14; go_simp <;> with_reducible rfl
    simp only [puts]
    refine flow_val ?_ rfl (by kernel_rfl) (by rfl) (fun W hW => ?_) ?_
    rotate_left 1
    · go_simp <;> with_reducible rfl
    simp only [puts]
    refine flow_val ?_ rfl (by kernel_rfl) (by rfl) (fun W hW => ?_) ?_
    rotate_left 1
    · go_simp <;> with_reducible rfl
    simp only [puts]
    refine flow_val ?_ rfl (by kernel_rfl) (by rfl) (fun W hW => ?_) ?_
    rotate_left 1
    · have c15 := cell_at (HCA.out W hW.1) 15; go_simp <;> with_reducible rfl
    simp only [puts]
    refine flow_turn (.pointer (some ⟨pm, 0, none⟩)) (fun W => Mk W2 pm (putS (SC, false) (numB m.yc)) W) rfl (by kernel_rfl) (by rfl) (by kernel_rfl) (fun W hW hC => ⟨_, _, _, by go_simp, (mkk_num hC m.yc HY.out.1).mono fun e w1 hh => ?_⟩) ?_
    · obtain ⟨he, h1, h3, _, h5⟩ := hh
      exact ⟨he, ⟨h1.below, h5 _ _ _ _ hW.2.1 (by decide) (by decide), h3.same _ _ hW.2.2 rfl⟩, h1⟩
    simp only [puts]
    refine flow_turn (.pointer (some ⟨pm, 0, none⟩)) (fun W => Mk W2 pm (putS (putS (SC, false) (numB m.yc)) (numB m.yn)) W) rfl (by kernel_rfl) (by rfl) (by kernel_rfl) (fun W hW hC => ⟨_, _, _, by go_simp, (mkk_num hC m.yn HY.out.2.1).mono fun e w1 hh => ?_⟩) ?_
    · obtain ⟨he, h1, h3, _, h5⟩ := hh
      exact ⟨he, ⟨⟨h1.below, h5 _ _ _ _ hW.1.2.1 (by decide) (by decide), h3.same _ _ hW.1.2.2 rfl⟩, trivial⟩, h1⟩
    simp only [puts]
    refine flow_turn (.pointer (some ⟨pm, 0, none⟩)) (fun W => Mk W2 pm (putS (putS (putS (SC, false) (numB m.yc)) (numB m.yn)) (numB m.yd)) W) rfl (by kernel_rfl) (by rfl) (by kernel_rfl) (fun W hW hC => ⟨_, _, _, by go_simp, (mkk_num hC m.yd HY.out.2.2.1).mono fun e w1 hh => ?_⟩) ?_
    · obtain ⟨he, h1, h3, _, h5⟩ := hh
      exact ⟨he, ⟨⟨⟨h1.below, h5 _ _ _ _ hW.1.1.2.1 (by decide) (by decide), h3.same _ _ hW.1.1.2.2 rfl⟩, trivial⟩, trivial⟩, h1⟩
    simp only [puts]
    refine flow_turn (.pointer (some ⟨pm, 0, none⟩)) (fun W => Mk W2 pm (putS (putS (putS (putS (SC, false) (numB m.yc)) (numB m.yn)) (numB m.yd)) (numB m.yN)) W) rfl (by kernel_rfl) (by rfl) (by kernel_rfl) (fun W hW hC => ⟨_, _, _, by go_simp, (mkk_num hC m.yN HY.out.2.2.2).mono fun e w1 hh => ?_⟩) ?_
    · obtain ⟨he, h1, h3, _, h5⟩ := hh
      exact ⟨he, ⟨⟨⟨⟨h1.below, h5 _ _ _ _ hW.1.1.1.2.1 (by decide) (by decide), h3.same _ _ hW.1.1.1.2.2 rfl⟩, trivial⟩, trivial⟩, trivial⟩, h1⟩
    simp only [puts]
    refine flow_done2 ?_
    intro W hW hC
    rw [HPY.out] at hC
    obtain ⟨W8, hW8⟩ : ∃ W8, W8 = W := ⟨_, rfl⟩
    subst hW8
    have H8 := Lib.hid hC
    have HX8 := Lib.hid hW.1.1.1.1.2.1
    have HD8 := Lib.hid hW.1.1.1.1.2.2
    have HSD : Hid ((SC ++ numsB (ysM m)).length ≤ 2048) := Lib.hid (by rw [← HEN.out]; exact HEL.out)
    clear hW hC x0 hq
    have x0 := cell_at HX8.out 0
    obtain ⟨G, j1, j2, j3, j4⟩ := id H8.out
    have J1 := Lib.hid j1
    clear j1 j2 j3 j4
    go_wp2_with fail
    refine (mdone_any pm G (SC ++ numsB (ysM m), false) W8 J1.out (by simp only; have := HSD.out; omega)).mono ?_
    rintro e W7 ⟨v, rfl, hv, hb7⟩
    simp only [Bool.false_eq_true, if_false] at hv ⊢
    have HV := Lib.hid hv
    have HB7 := Lib.hid hb7
    have hK0 : W7.heap[D]? = some (.deferred (some [])) := (hb7.block D (lt_of_block HD8.out)).trans HD8.out
    have hK1 := Lib.hid hK0
    clear hv hb7 hK0 x0
    go_wp2_with fail
    refine ⟨by simp, .inl ⟨_, _, rfl, run_takeDeferred hK1.out, ?_⟩⟩
    have o2 := ownsRow_putObj HV.out (.deferred none) hK1.out rfl
    exact ⟨.tuple #[v, .int .i64 0], by simp [results, Try.f8, go_sem], v, rfl, by rw [HEN.out]; exact Bs.own_n o2, ((HKB.out.trans (H8.out.below.mono HKB.out.size)).trans (HB7.out.mono (HKB.out.trans (H8.out.below.mono HKB.out.size)).size)).trans (belowK_b (w := w) (Nat.le_refl _) _ D _ _ (by have := hD; have := HKB.out.size; omega) hK1.out rfl rfl)⟩
end Go.Proofs.Ytpccbobomppdbaa
