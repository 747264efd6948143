/- mail.Decode, with an answer, without a request. -/
import Derived.Test.YtpccbobomppdbaaZR21
namespace Go.Proofs.Ytpccbobomppdbaa
open Go.RowKit

set_option maxRecDepth 100000 in
set_option maxHeartbeats 4000000 in
theorem mdec_B (v : Value) (bs : List Nat) (w : World) (hv : Bs w v bs) (hl : ∀ b ∈ bs, b < 256) (ht : bs.length ≤ 140737488355328) (hve : (m4M (bs, false)).1 = []) (hvy : hasM (kindM (bs, false)) 121 = true) :
 Calls Try.prog 16 #[v] w (RetDecM w (unM bs)) := by
 obtain ⟨i1, hi1, hy0, hy1, hy2⟩ := info_parts Try.infoItemA
 obtain ⟨⟨n1, s1⟩, hn1⟩ : ∃ x, numT (bs, false) 1 14 = x := ⟨_, rfl⟩
 obtain ⟨⟨n2, s2⟩, hn2⟩ : ∃ x, numT s1 0 1099511627776 = x := ⟨_, rfl⟩
 obtain ⟨N, hN, hN16⟩ : ∃ N : Nat, (numT s2 0 16).1 = N ∧ (N : Int) ≤ 16 := by
  rcases numT_range s2 0 16 with h | h
  · exact ⟨0, by rw [h]; rfl, by omega⟩
  · exact ⟨(numT s2 0 16).1.toNat, by omega, by omega⟩
 obtain ⟨s9, hs9⟩ : ∃ x, (numT s2 0 16).2 = x := ⟨_, rfl⟩
 have hn9 : numT s2 0 16 = ((N : Int), s9) := Prod.ext hN hs9
 have h1M : m1M (bs, false) = ([n1, n2], s2) := by simp only [m1M, bdK, readNs, hn1, hn2]
 have hkM : kindM (bs, false) = n1 := by unfold kindM; rw [h1M]; rfl
 have h2M : m2M (bs, false) = ((N : Int), s9) := by unfold m2M; rw [h1M]; exact hn9
 have h3M : m3M (bs, false) = itR 1 1099511627776 N [] s9 := by unfold m3M; rw [h2M]; simp only [Int.toNat_natCast]
 have hb9 : ∀ b ∈ s9.1, b < 256 := by have := numT_lt (readNs_lt bdK (bs, false) hl) 0 16; rw [show (readNs bdK (bs, false)).2 = s2 by have := congrArg Prod.snd h1M; exact this, hn9] at this; exact this
 have HUN : Hid (∀ L s tx s4 ys s8, itR 1 1099511627776 N [] s9 = (L, s) → textT s 262144 = (tx, s4) → yT bdY n1 s4 = (ys, s8) → unM bs = if doneT s8 = 0 ∧ (askT tx).isSome = true ∧ mayM (mlOf [n1, n2] L ((askT tx).getD zeroK) ys) = true then some (mlOf [n1, n2] L ((askT tx).getD zeroK) ys) else none) := Lib.hid (fun L s tx s4 ys s8 e1 e2 e3 => by
  have h4M : m4M (bs, false) = (tx, s4) := by unfold m4M; rw [h3M, e1]; exact e2
  have h5M : m5M bdY (bs, false) = (ys, s8) := by unfold m5M; rw [hkM, h4M]; exact e3
  unfold unM mlM
  rw [h5M, h4M, h3M, h1M, e1])
 have HV : Hid (∀ L s tx s4, itR 1 1099511627776 N [] s9 = (L, s) → textT s 262144 = (tx, s4) → tx = []) := Lib.hid (fun L s tx s4 e1 e2 => by
  have h4M : m4M (bs, false) = (tx, s4) := by unfold m4M; rw [h3M, e1]; exact e2
  rw [h4M] at hve
  exact hve)
 have HBY : Hid (hasM n1 121 = true) := Lib.hid (by rw [hkM] at hvy; exact hvy)
 have HN1 := Lib.hid hn1
 have HN2 := Lib.hid hn2
 have HN9 := Lib.hid hn9
 have HB9 := Lib.hid hb9
 have hbw := (Below.refl w.heap.size w).alloc (Nat.le_refl _) (.cells #[.int .i64 0, .int .i64 0, .slice none 0 0, .int .i64 0, .int .i64 0, .int .i64 0, .int .i64 0, .int .i64 0, .int .i64 0, .int .i64 0, .string { data := #[] }, .slice none 0 0, .int .i64 0, .int .i64 0, .int .i64 0, .int .i64 0] 29)
 have kr := block_new w (.cells #[.int .i64 0, .int .i64 0, .slice none 0 0, .int .i64 0, .int .i64 0, .int .i64 0, .int .i64 0, .int .i64 0, .int .i64 0, .int .i64 0, .string { data := #[] }, .slice none 0 0, .int .i64 0, .int .i64 0, .int .i64 0, .int .i64 0] 29)
 obtain ⟨W1, hW1⟩ : ∃ W1, w.alloc (.cells #[.int .i64 0, .int .i64 0, .slice none 0 0, .int .i64 0, .int .i64 0, .int .i64 0, .int .i64 0, .int .i64 0, .int .i64 0, .int .i64 0, .string { data := #[] }, .slice none 0 0, .int .i64 0, .int .i64 0, .int .i64 0, .int .i64 0] 29) = W1 := ⟨_, rfl⟩
 rw [hW1] at hbw kr
 have hs1w : W1.heap.size = w.heap.size + 1 := by rw [← hW1]; simp
 have HW1 := Lib.hid hW1
 have HKR := Lib.hid kr
 have HBW := Lib.hid hbw
 have HS1 := Lib.hid hs1w
 have HTAKE := Lib.hid (take_any v bs W1 (hv.below hbw) hl ht)
 obtain ⟨Av, cv, rfl, _, _, _⟩ := hv
 clear hn1 hn2 hN hs9 hn9 h1M hkM h2M h3M hb9 hbw kr hW1 hl ht hs1w hve hvy
 go_enter Try.func16, Try.ntmps16
 go_wp2_with fail
 rw [HW1.out]
 refine HTAKE.out.mono ?_
 rintro e w2 ⟨p, D, rfl, hp, hT, hD, hDl, hb⟩
 have hpt := hT.lt
 have hT3 := hT.below ((Below.refl w2.heap.size w2).alloc (Nat.le_refl _) (.cells #[.pointer (some ⟨p, 0, none⟩)] 66))
 have hr3 := block_alloc ((hb.block _ (lt_of_block HKR.out)).trans HKR.out) (.cells #[.pointer (some ⟨p, 0, none⟩)] 66)
 have ht3 := block_new w2 (.cells #[.pointer (some ⟨p, 0, none⟩)] 66)
 have hb3 := (HBW.out.trans (hb.mono HBW.out.size)).alloc (Nat.le_trans HBW.out.size hb.size) (.cells #[.pointer (some ⟨p, 0, none⟩)] 66)
 obtain ⟨pt, hptt⟩ : ∃ pt, w2.heap.size = pt := ⟨_, rfl⟩
 obtain ⟨W3, hW3⟩ : ∃ W3, w2.alloc (.cells #[.pointer (some ⟨p, 0, none⟩)] 66) = W3 := ⟨_, rfl⟩
 have hs3 : W3.heap.size = pt + 1 := by rw [← hW3, ← hptt]; simp
 rw [hW3] at hT3 hr3 ht3 hb3
 rw [hptt] at ht3 hpt
 have hwp : w.heap.size + 1 ≤ p := by rw [← HS1.out]; exact hp
 have HNE : Hid (w.heap.size + 1 ≤ p ∧ p < pt ∧ (∀ d, D = some d → w.heap.size + 1 ≤ d ∧ d < pt) ∧ D ≠ some p) := Lib.hid ⟨hwp, hpt, fun d hd => by obtain ⟨h1, h2⟩ := hDl d hd; rw [HS1.out] at h1; rw [hptt] at h2; exact ⟨h1, h2⟩, hD⟩
 have HD0 : Hid (DmT w W3 pt w.heap.size p D (bs, false)) := Lib.hid ⟨hT3, ht3, hr3, hb3⟩
 have HS3 := Lib.hid hs3
 have HW3 : Hid (w2.alloc (.cells #[.pointer (some ⟨p, 0, none⟩)] 66) = W3) := Lib.hid hW3
 have HPT : Hid (w2.heap.size = pt) := Lib.hid hptt
 have HTN : Hid (∀ (W : World) (s : St) (lo hi n : Int) (s' : St), numT s lo hi = (n, s') → DmT w W pt w.heap.size p D s → Calls Try.prog 39 #[.pointer (some ⟨p, 0, none⟩), .int .i64 lo, .int .i64 hi] W fun e W' => e = .returned (.int .i64 n) ∧ DmT w W' pt w.heap.size p D s' ∧ Fr 0 [] [p] W W') := Lib.hid (fun W s lo hi n s' h hd => by
  have h1 := tnum_any p D s lo hi W hd.1 HNE.out.2.2.2
  rw [h] at h1
  exact h1.mono fun e W' ⟨he, hT, hf⟩ => ⟨he, hd.turn hT hf (by have := HNE.out.1; omega), hf⟩)
 have HTX : Hid (∀ (W : World) (s : St) (b : Int) (g : List Nat) (s' : St), textT s b = (g, s') → DmT w W pt w.heap.size p D s → Calls Try.prog 40 #[.pointer (some ⟨p, 0, none⟩), .int .i64 b] W fun e W' => e = .returned (.string (strOf g)) ∧ DmT w W' pt w.heap.size p D s' ∧ Fr 0 [] [p] W W') := Lib.hid (fun W s b g s' h hd => by
  have h1 := ttext_any p D s b W hd.1 HNE.out.2.2.2
  rw [h] at h1
  exact h1.mono fun e W' ⟨he, hT, hf⟩ => ⟨he, hd.turn hT hf (by have := HNE.out.1; omega), hf⟩)
 clear hp hT hD hDl hb hpt hT3 hr3 ht3 hb3 hptt hW3 hs3 hwp
 go_wp2_with fail
 rw [HW3.out]
 rw [HPT.out]
 apply wp_region_mid1 (M := fun pa W => DmT w W pt w.heap.size p D s2 ∧ W.heap[pa]? = some (.cells #[.int .i64 n1, .int .i64 n2, .slice none 0 0, .int .i64 0, .int .i64 0, .int .i64 0, .int .i64 0, .int .i64 0, .int .i64 0, .int .i64 0, .string { data := #[] }, .slice none 0 0, .int .i64 0, .int .i64 0, .int .i64 0, .int .i64 0] 29 (0, 0)) ∧ pt < pa) (hm := by kernel_rfl)
 case h =>
  refine ok_split 5 3 (by decide) ?_ ?_
  · simp only [addAfter, addL]
    refine ok_flow (fun W => W.heap[pt]? = some (.cells #[.pointer (some ⟨p, 0, none⟩)] 66 (0, 0)) ∧ pt < W.heap.size) (fun W => DmT w W pt w.heap.size p D (bs, false)) [0, 2, 1, 3, 4, 5, 6] (fun _ => trivial) rfl (fun _ _ _ _ _ h => callsIn_wide.2 h) (by kernel_rfl) (by kernel_rfl) (⟨(((Below.refl W3.heap.size W3).drew).block _ (lt_of_block HD0.out.2.1)).trans HD0.out.2.1, by have := HS3.out; simp; omega⟩) (HD0.out.keepC ((Below.refl _ _).drew)) ?_
    refine flow_val ?_ rfl (by kernel_rfl) (by rfl) (fun W hW => ?_) ?_
    rotate_left 1
    · have c0 := cell_at hW.1 0; go_simp <;> with_reducible rfl
    simp only [puts]
    refine flow_val ?_ rfl (by kernel_rfl) (by rfl) (fun W hW => ?_) ?_
    rotate_left 1
    · have c0 := cell_at hW.1 0; go_simp <;> with_reducible rfl
    simp only [puts]
    refine flow_turn (.int .i64 n1) (fun W => DmT w W pt w.heap.size p D s1) rfl (by kernel_rfl) (by rfl) (by kernel_rfl) (fun W hW hC => ?_) ?_
    · have hM : DmT w W pt w.heap.size p D (bs, false) := by
       exact hC
      refine ⟨_, _, _, by go_simp, (HTN.out W (bs, false) 1 14 n1 s1 HN1.out hM).mono fun e w1 hh => ?_⟩
      obtain ⟨he, hd, hf⟩ := hh
      exact ⟨he, ⟨hf.keep0 hW.1 (by have := HNE.out; simp; omega), Nat.lt_of_lt_of_le hW.2 hf.size⟩, hd⟩
    simp only [puts]
    refine flow_turn (.int .i64 n2) (fun W => DmT w W pt w.heap.size p D s2) rfl (by kernel_rfl) (by rfl) (by kernel_rfl) (fun W hW hC => ?_) ?_
    · have hM : DmT w W pt w.heap.size p D s1 := by
       exact hC
      refine ⟨_, _, _, by go_simp, (HTN.out W s1 0 1099511627776 n2 s2 HN2.out hM).mono fun e w1 hh => ?_⟩
      obtain ⟨he, hd, hf⟩ := hh
      exact ⟨he, ⟨⟨hf.keep0 hW.1.1 (by have := HNE.out; simp; omega), Nat.lt_of_lt_of_le hW.1.2 hf.size⟩, trivial⟩, hd⟩
    simp only [puts]
    refine flow_val ?_ rfl (by kernel_rfl) (by rfl) (fun W hW => ?_) ?_
    rotate_left 1
    · go_simp <;> with_reducible rfl
    simp only [puts]
    refine flow_gmake (fun v W => ∃ g, v = .pointer (some ⟨g, 0, none⟩) ∧ pt < g ∧ W.heap[g]? = some (.cells #[.int .i64 0, .int .i64 0, .slice none 0 0, .int .i64 0, .int .i64 0, .int .i64 0, .int .i64 0, .int .i64 0, .int .i64 0, .int .i64 0, .string { data := #[] }, .slice none 0 0, .int .i64 0, .int .i64 0, .int .i64 0, .int .i64 0] 29 (0, 0)) ∧ DmT w W pt w.heap.size p D s2) rfl (by kernel_rfl) (by rfl) (by kernel_rfl) (fun W hW hC => ?_) ?_
    · have hb : Below W.heap.size W (W.alloc (.cells #[.int .i64 0, .int .i64 0, .slice none 0 0, .int .i64 0, .int .i64 0, .int .i64 0, .int .i64 0, .int .i64 0, .int .i64 0, .int .i64 0, .string { data := #[] }, .slice none 0 0, .int .i64 0, .int .i64 0, .int .i64 0, .int .i64 0] 29)) := (Below.refl _ W).alloc (Nat.le_refl _) _
      have hM : DmT w W pt w.heap.size p D s2 := by
       exact hC
      exact ⟨_, _, by go_simp <;> with_reducible rfl, ⟨⟨⟨(hb.block _ (lt_of_block hW.1.1.1)).trans hW.1.1.1, Nat.lt_of_lt_of_le hW.1.1.2 hb.size⟩, trivial⟩, trivial⟩, ⟨_, rfl, hW.1.1.2, block_new _ _, hM.keepC hb⟩⟩
    rintro v5 ⟨_, _, pa, rfl, hpa, _, _⟩
    simp only [puts]
    refine flow_bar (fun W => DmT w W pt w.heap.size p D s2 ∧ W.heap[pa]? = some (.cells #[.int .i64 n1, .int .i64 n2, .slice none 0 0, .int .i64 0, .int .i64 0, .int .i64 0, .int .i64 0, .int .i64 0, .int .i64 0, .int .i64 0, .string { data := #[] }, .slice none 0 0, .int .i64 0, .int .i64 0, .int .i64 0, .int .i64 0] 29 (0, 0)) ∧ pt < pa) (fun _ => True) rfl (by kernel_rfl) (by rfl) (by kernel_rfl) (by kernel_rfl) (fun W hW hC => ?_) ?_
    · have hM : DmT w W pt w.heap.size p D s2 ∧ W.heap[pa]? = some (.cells #[.int .i64 0, .int .i64 0, .slice none 0 0, .int .i64 0, .int .i64 0, .int .i64 0, .int .i64 0, .int .i64 0, .int .i64 0, .int .i64 0, .string { data := #[] }, .slice none 0 0, .int .i64 0, .int .i64 0, .int .i64 0, .int .i64 0] 29 (0, 0)) := by
       obtain ⟨g2, e2, _, h2, h3⟩ := hC
       injection e2 with e2
       injection e2 with e2
       injection e2 with e2 _ _
       subst e2
       exact ⟨h3, h2⟩
      obtain ⟨h1, h2⟩ := hM
      have z0 := cell_at h2 0
      have f0 := frozen_at h2 0
      have z1 := cell_at h2 1
      have f1 := frozen_at h2 1
      have z2 := cell_at h2 2
      have f2 := frozen_at h2 2
      have z3 := cell_at h2 3
      have f3 := frozen_at h2 3
      have z4 := cell_at h2 4
      have f4 := frozen_at h2 4
      have z5 := cell_at h2 5
      have f5 := frozen_at h2 5
      have z6 := cell_at h2 6
      have f6 := frozen_at h2 6
      have z7 := cell_at h2 7
      have f7 := frozen_at h2 7
      have z8 := cell_at h2 8
      have f8 := frozen_at h2 8
      have z9 := cell_at h2 9
      have f9 := frozen_at h2 9
      have z10 := cell_at h2 10
      have f10 := frozen_at h2 10
      have z11 := cell_at h2 11
      have f11 := frozen_at h2 11
      have z12 := cell_at h2 12
      have f12 := frozen_at h2 12
      have z13 := cell_at h2 13
      have f13 := frozen_at h2 13
      have z14 := cell_at h2 14
      have f14 := frozen_at h2 14
      have z15 := cell_at h2 15
      have f15 := frozen_at h2 15
      obtain ⟨W9, h9, k9, hF, hB, _⟩ := mail_store h2 (.int .i64 n1) (.int .i64 n2) (.slice none 0 0) (.int .i64 0) (.int .i64 0) (.int .i64 0) (.int .i64 0) (.int .i64 0) (.int .i64 0) (.int .i64 0) (.string { data := #[] }) (.slice none 0 0) (.int .i64 0) (.int .i64 0) (.int .i64 0) (.int .i64 0)
      have H1 := Lib.hid h1
      have H9 := Lib.hid h9
      clear h1 h2 hC hW h9
      have hnk := HNE.out
      refine ⟨_, by go_simp <;> with_reducible rfl, ⟨?_, ?_, hpa⟩, trivial⟩
      · rw [H9.out]
        exact H1.out.fr hF (H1.out.2.2.2.trans (hB _ (by omega))) (by omega) (fun e => by have := (hnk.2.2.1 _ e).2; omega) (by omega) (by omega)
      · rw [H9.out]
        exact k9
    simp only [Act.put]
    refine flow_end ?_
    rintro W ⟨hR, _⟩ _
    exact .inl ⟨by trivial, pa, rfl, hR⟩
  · refine ok_split 5 1 (by decide) ?_ ?_
    · simp only [addAfter, addL]
      refine ok_flow (fun W => W.heap[pt]? = some (.cells #[.pointer (some ⟨p, 0, none⟩)] 66 (0, 0)) ∧ pt < W.heap.size) (fun W => DmT w W pt w.heap.size p D (bs, false)) [0, 2, 1, 5, 3, 4, 6] (fun _ => trivial) rfl (fun _ _ _ _ _ h => callsIn_wide.2 h) (by kernel_rfl) (by kernel_rfl) (⟨(((Below.refl W3.heap.size W3).drew).block _ (lt_of_block HD0.out.2.1)).trans HD0.out.2.1, by have := HS3.out; simp; omega⟩) (HD0.out.keepC ((Below.refl _ _).drew)) ?_
      refine flow_val ?_ rfl (by kernel_rfl) (by rfl) (fun W hW => ?_) ?_
      rotate_left 1
      · have c0 := cell_at hW.1 0; go_simp <;> with_reducible rfl
      simp only [puts]
      refine flow_val ?_ rfl (by kernel_rfl) (by rfl) (fun W hW => ?_) ?_
      rotate_left 1
      · have c0 := cell_at hW.1 0; go_simp <;> with_reducible rfl
      simp only [puts]
      refine flow_turn (.int .i64 n1) (fun W => DmT w W pt w.heap.size p D s1) rfl (by kernel_rfl) (by rfl) (by kernel_rfl) (fun W hW hC => ?_) ?_
      · have hM : DmT w W pt w.heap.size p D (bs, false) := by
         exact hC
        refine ⟨_, _, _, by go_simp, (HTN.out W (bs, false) 1 14 n1 s1 HN1.out hM).mono fun e w1 hh => ?_⟩
        obtain ⟨he, hd, hf⟩ := hh
        exact ⟨he, ⟨hf.keep0 hW.1 (by have := HNE.out; simp; omega), Nat.lt_of_lt_of_le hW.2 hf.size⟩, hd⟩
      simp only [puts]
      refine flow_gmake (fun v W => ∃ g, v = .pointer (some ⟨g, 0, none⟩) ∧ pt < g ∧ W.heap[g]? = some (.cells #[.int .i64 0, .int .i64 0, .slice none 0 0, .int .i64 0, .int .i64 0, .int .i64 0, .int .i64 0, .int .i64 0, .int .i64 0, .int .i64 0, .string { data := #[] }, .slice none 0 0, .int .i64 0, .int .i64 0, .int .i64 0, .int .i64 0] 29 (0, 0)) ∧ DmT w W pt w.heap.size p D s1) rfl (by kernel_rfl) (by rfl) (by kernel_rfl) (fun W hW hC => ?_) ?_
      · have hb : Below W.heap.size W (W.alloc (.cells #[.int .i64 0, .int .i64 0, .slice none 0 0, .int .i64 0, .int .i64 0, .int .i64 0, .int .i64 0, .int .i64 0, .int .i64 0, .int .i64 0, .string { data := #[] }, .slice none 0 0, .int .i64 0, .int .i64 0, .int .i64 0, .int .i64 0] 29)) := (Below.refl _ W).alloc (Nat.le_refl _) _
        have hM : DmT w W pt w.heap.size p D s1 := by
         exact hC
        exact ⟨_, _, by go_simp <;> with_reducible rfl, ⟨⟨(hb.block _ (lt_of_block hW.1.1)).trans hW.1.1, Nat.lt_of_lt_of_le hW.1.2 hb.size⟩, trivial⟩, ⟨_, rfl, hW.1.2, block_new _ _, hM.keepC hb⟩⟩
      rintro v5 ⟨_, _, pa, rfl, hpa, _, _⟩
      simp only [puts]
      refine flow_turn (.int .i64 n2) (fun W => DmT w W pt w.heap.size p D s2 ∧ W.heap[pa]? = some (.cells #[.int .i64 0, .int .i64 0, .slice none 0 0, .int .i64 0, .int .i64 0, .int .i64 0, .int .i64 0, .int .i64 0, .int .i64 0, .int .i64 0, .string { data := #[] }, .slice none 0 0, .int .i64 0, .int .i64 0, .int .i64 0, .int .i64 0] 29 (0, 0))) rfl (by kernel_rfl) (by rfl) (by kernel_rfl) (fun W hW hC => ?_) ?_
      · have hM : DmT w W pt w.heap.size p D s1 ∧ W.heap[pa]? = some (.cells #[.int .i64 0, .int .i64 0, .slice none 0 0, .int .i64 0, .int .i64 0, .int .i64 0, .int .i64 0, .int .i64 0, .int .i64 0, .int .i64 0, .string { data := #[] }, .slice none 0 0, .int .i64 0, .int .i64 0, .int .i64 0, .int .i64 0] 29 (0, 0)) := by
         obtain ⟨g2, e2, _, h2, h3⟩ := hC
         injection e2 with e2
         injection e2 with e2
         injection e2 with e2 _ _
         subst e2
         exact ⟨h3, h2⟩
        refine ⟨_, _, _, by go_simp, (HTN.out W s1 0 1099511627776 n2 s2 HN2.out hM.1).mono fun e w1 hh => ?_⟩
        obtain ⟨he, hd, hf⟩ := hh
        exact ⟨he, ⟨⟨⟨hf.keep0 hW.1.1.1 (by have := HNE.out; simp; omega), Nat.lt_of_lt_of_le hW.1.1.2 hf.size⟩, trivial⟩, trivial⟩, ⟨hd, hf.keep0 hM.2 (by have := HNE.out; simp; omega)⟩⟩
      simp only [puts]
      refine flow_val ?_ rfl (by kernel_rfl) (by rfl) (fun W hW => ?_) ?_
      rotate_left 1
      · go_simp <;> with_reducible rfl
      simp only [puts]
      refine flow_bar (fun W => DmT w W pt w.heap.size p D s2 ∧ W.heap[pa]? = some (.cells #[.int .i64 n1, .int .i64 n2, .slice none 0 0, .int .i64 0, .int .i64 0, .int .i64 0, .int .i64 0, .int .i64 0, .int .i64 0, .int .i64 0, .string { data := #[] }, .slice none 0 0, .int .i64 0, .int .i64 0, .int .i64 0, .int .i64 0] 29 (0, 0)) ∧ pt < pa) (fun _ => True) rfl (by kernel_rfl) (by rfl) (by kernel_rfl) (by kernel_rfl) (fun W hW hC => ?_) ?_
      · have hM : DmT w W pt w.heap.size p D s2 ∧ W.heap[pa]? = some (.cells #[.int .i64 0, .int .i64 0, .slice none 0 0, .int .i64 0, .int .i64 0, .int .i64 0, .int .i64 0, .int .i64 0, .int .i64 0, .int .i64 0, .string { data := #[] }, .slice none 0 0, .int .i64 0, .int .i64 0, .int .i64 0, .int .i64 0] 29 (0, 0)) := by
         exact hC
        obtain ⟨h1, h2⟩ := hM
        have z0 := cell_at h2 0
        have f0 := frozen_at h2 0
        have z1 := cell_at h2 1
        have f1 := frozen_at h2 1
        have z2 := cell_at h2 2
        have f2 := frozen_at h2 2
        have z3 := cell_at h2 3
        have f3 := frozen_at h2 3
        have z4 := cell_at h2 4
        have f4 := frozen_at h2 4
        have z5 := cell_at h2 5
        have f5 := frozen_at h2 5
        have z6 := cell_at h2 6
        have f6 := frozen_at h2 6
        have z7 := cell_at h2 7
        have f7 := frozen_at h2 7
        have z8 := cell_at h2 8
        have f8 := frozen_at h2 8
        have z9 := cell_at h2 9
        have f9 := frozen_at h2 9
        have z10 := cell_at h2 10
        have f10 := frozen_at h2 10
        have z11 := cell_at h2 11
        have f11 := frozen_at h2 11
        have z12 := cell_at h2 12
        have f12 := frozen_at h2 12
        have z13 := cell_at h2 13
        have f13 := frozen_at h2 13
        have z14 := cell_at h2 14
        have f14 := frozen_at h2 14
        have z15 := cell_at h2 15
        have f15 := frozen_at h2 15
        obtain ⟨W9, h9, k9, hF, hB, _⟩ := mail_store h2 (.int .i64 n1) (.int .i64 n2) (.slice none 0 0) (.int .i64 0) (.int .i64 0) (.int .i64 0) (.int .i64 0) (.int .i64 0) (.int .i64 0) (.int .i64 0) (.string { data := #[] }) (.slice none 0 0) (.int .i64 0) (.int .i64 0) (.int .i64 0) (.int .i64 0)
        have H1 := Lib.hid h1
        have H9 := Lib.hid h9
        clear h1 h2 hC hW h9
        have hnk := HNE.out
        refine ⟨_, by go_simp <;> with_reducible rfl, ⟨?_, ?_, hpa⟩, trivial⟩
        · rw [H9.out]
          exact H1.out.fr hF (H1.out.2.2.2.trans (hB _ (by omega))) (by omega) (fun e => by have := (hnk.2.2.1 _ e).2; omega) (by omega) (by omega)
        · rw [H9.out]
          exact k9
      simp only [Act.put]
      refine flow_end ?_
      rintro W ⟨hR, _⟩ _
      exact .inl ⟨by trivial, pa, rfl, hR⟩
    · simp only [addAfter, addL]
      refine ok_flow (fun W => W.heap[pt]? = some (.cells #[.pointer (some ⟨p, 0, none⟩)] 66 (0, 0)) ∧ pt < W.heap.size) (fun W => DmT w W pt w.heap.size p D (bs, false)) [0, 2, 5, 1, 3, 4, 6] (fun _ => trivial) rfl (fun _ _ _ _ _ h => callsIn_wide.2 h) (by kernel_rfl) (by kernel_rfl) (⟨(((Below.refl W3.heap.size W3).drew).block _ (lt_of_block HD0.out.2.1)).trans HD0.out.2.1, by have := HS3.out; simp; omega⟩) (HD0.out.keepC ((Below.refl _ _).drew)) ?_
      refine flow_val ?_ rfl (by kernel_rfl) (by rfl) (fun W hW => ?_) ?_
      rotate_left 1
      · have c0 := cell_at hW.1 0; go_simp <;> with_reducible rfl
      simp only [puts]
      refine flow_val ?_ rfl (by kernel_rfl) (by rfl) (fun W hW => ?_) ?_
      rotate_left 1
      · have c0 := cell_at hW.1 0; go_simp <;> with_reducible rfl
      simp only [puts]
      refine flow_gmake (fun v W => ∃ g, v = .pointer (some ⟨g, 0, none⟩) ∧ pt < g ∧ W.heap[g]? = some (.cells #[.int .i64 0, .int .i64 0, .slice none 0 0, .int .i64 0, .int .i64 0, .int .i64 0, .int .i64 0, .int .i64 0, .int .i64 0, .int .i64 0, .string { data := #[] }, .slice none 0 0, .int .i64 0, .int .i64 0, .int .i64 0, .int .i64 0] 29 (0, 0)) ∧ DmT w W pt w.heap.size p D (bs, false)) rfl (by kernel_rfl) (by rfl) (by kernel_rfl) (fun W hW hC => ?_) ?_
      · have hb : Below W.heap.size W (W.alloc (.cells #[.int .i64 0, .int .i64 0, .slice none 0 0, .int .i64 0, .int .i64 0, .int .i64 0, .int .i64 0, .int .i64 0, .int .i64 0, .int .i64 0, .string { data := #[] }, .slice none 0 0, .int .i64 0, .int .i64 0, .int .i64 0, .int .i64 0] 29)) := (Below.refl _ W).alloc (Nat.le_refl _) _
        have hM : DmT w W pt w.heap.size p D (bs, false) := by
         exact hC
        exact ⟨_, _, by go_simp <;> with_reducible rfl, ⟨(hb.block _ (lt_of_block hW.1)).trans hW.1, Nat.lt_of_lt_of_le hW.2 hb.size⟩, ⟨_, rfl, hW.2, block_new _ _, hM.keepC hb⟩⟩
      rintro v5 ⟨_, _, pa, rfl, hpa, _, _⟩
      simp only [puts]
      refine flow_turn (.int .i64 n1) (fun W => DmT w W pt w.heap.size p D s1 ∧ W.heap[pa]? = some (.cells #[.int .i64 0, .int .i64 0, .slice none 0 0, .int .i64 0, .int .i64 0, .int .i64 0, .int .i64 0, .int .i64 0, .int .i64 0, .int .i64 0, .string { data := #[] }, .slice none 0 0, .int .i64 0, .int .i64 0, .int .i64 0, .int .i64 0] 29 (0, 0))) rfl (by kernel_rfl) (by rfl) (by kernel_rfl) (fun W hW hC => ?_) ?_
      · have hM : DmT w W pt w.heap.size p D (bs, false) ∧ W.heap[pa]? = some (.cells #[.int .i64 0, .int .i64 0, .slice none 0 0, .int .i64 0, .int .i64 0, .int .i64 0, .int .i64 0, .int .i64 0, .int .i64 0, .int .i64 0, .string { data := #[] }, .slice none 0 0, .int .i64 0, .int .i64 0, .int .i64 0, .int .i64 0] 29 (0, 0)) := by
         obtain ⟨g2, e2, _, h2, h3⟩ := hC
         injection e2 with e2
         injection e2 with e2
         injection e2 with e2 _ _
         subst e2
         exact ⟨h3, h2⟩
        refine ⟨_, _, _, by go_simp, (HTN.out W (bs, false) 1 14 n1 s1 HN1.out hM.1).mono fun e w1 hh => ?_⟩
        obtain ⟨he, hd, hf⟩ := hh
        exact ⟨he, ⟨⟨hf.keep0 hW.1.1 (by have := HNE.out; simp; omega), Nat.lt_of_lt_of_le hW.1.2 hf.size⟩, trivial⟩, ⟨hd, hf.keep0 hM.2 (by have := HNE.out; simp; omega)⟩⟩
      simp only [puts]
      refine flow_turn (.int .i64 n2) (fun W => DmT w W pt w.heap.size p D s2 ∧ W.heap[pa]? = some (.cells #[.int .i64 0, .int .i64 0, .slice none 0 0, .int .i64 0, .int .i64 0, .int .i64 0, .int .i64 0, .int .i64 0, .int .i64 0, .int .i64 0, .string { data := #[] }, .slice none 0 0, .int .i64 0, .int .i64 0, .int .i64 0, .int .i64 0] 29 (0, 0))) rfl (by kernel_rfl) (by rfl) (by kernel_rfl) (fun W hW hC => ?_) ?_
      · have hM : DmT w W pt w.heap.size p D s1 ∧ W.heap[pa]? = some (.cells #[.int .i64 0, .int .i64 0, .slice none 0 0, .int .i64 0, .int .i64 0, .int .i64 0, .int .i64 0, .int .i64 0, .int .i64 0, .int .i64 0, .string { data := #[] }, .slice none 0 0, .int .i64 0, .int .i64 0, .int .i64 0, .int .i64 0] 29 (0, 0)) := by
         exact hC
        refine ⟨_, _, _, by go_simp, (HTN.out W s1 0 1099511627776 n2 s2 HN2.out hM.1).mono fun e w1 hh => ?_⟩
        obtain ⟨he, hd, hf⟩ := hh
        exact ⟨he, ⟨⟨⟨hf.keep0 hW.1.1.1 (by have := HNE.out; simp; omega), Nat.lt_of_lt_of_le hW.1.1.2 hf.size⟩, trivial⟩, trivial⟩, ⟨hd, hf.keep0 hM.2 (by have := HNE.out; simp; omega)⟩⟩
      simp only [puts]
      refine flow_val ?_ rfl (by kernel_rfl) (by rfl) (fun W hW => ?_) ?_
      rotate_left 1
      · go_simp <;> with_reducible rfl
      simp only [puts]
      refine flow_bar (fun W => DmT w W pt w.heap.size p D s2 ∧ W.heap[pa]? = some (.cells #[.int .i64 n1, .int .i64 n2, .slice none 0 0, .int .i64 0, .int .i64 0, .int .i64 0, .int .i64 0, .int .i64 0, .int .i64 0, .int .i64 0, .string { data := #[] }, .slice none 0 0, .int .i64 0, .int .i64 0, .int .i64 0, .int .i64 0] 29 (0, 0)) ∧ pt < pa) (fun _ => True) rfl (by kernel_rfl) (by rfl) (by kernel_rfl) (by kernel_rfl) (fun W hW hC => ?_) ?_
      · have hM : DmT w W pt w.heap.size p D s2 ∧ W.heap[pa]? = some (.cells #[.int .i64 0, .int .i64 0, .slice none 0 0, .int .i64 0, .int .i64 0, .int .i64 0, .int .i64 0, .int .i64 0, .int .i64 0, .int .i64 0, .string { data := #[] }, .slice none 0 0, .int .i64 0, .int .i64 0, .int .i64 0, .int .i64 0] 29 (0, 0)) := by
         exact hC
        obtain ⟨h1, h2⟩ := hM
        have z0 := cell_at h2 0
        have f0 := frozen_at h2 0
        have z1 := cell_at h2 1
        have f1 := frozen_at h2 1
        have z2 := cell_at h2 2
        have f2 := frozen_at h2 2
        have z3 := cell_at h2 3
        have f3 := frozen_at h2 3
        have z4 := cell_at h2 4
        have f4 := frozen_at h2 4
        have z5 := cell_at h2 5
        have f5 := frozen_at h2 5
        have z6 := cell_at h2 6
        have f6 := frozen_at h2 6
        have z7 := cell_at h2 7
        have f7 := frozen_at h2 7
        have z8 := cell_at h2 8
        have f8 := frozen_at h2 8
        have z9 := cell_at h2 9
        have f9 := frozen_at h2 9
        have z10 := cell_at h2 10
        have f10 := frozen_at h2 10
        have z11 := cell_at h2 11
        have f11 := frozen_at h2 11
        have z12 := cell_at h2 12
        have f12 := frozen_at h2 12
        have z13 := cell_at h2 13
        have f13 := frozen_at h2 13
        have z14 := cell_at h2 14
        have f14 := frozen_at h2 14
        have z15 := cell_at h2 15
        have f15 := frozen_at h2 15
        obtain ⟨W9, h9, k9, hF, hB, _⟩ := mail_store h2 (.int .i64 n1) (.int .i64 n2) (.slice none 0 0) (.int .i64 0) (.int .i64 0) (.int .i64 0) (.int .i64 0) (.int .i64 0) (.int .i64 0) (.int .i64 0) (.string { data := #[] }) (.slice none 0 0) (.int .i64 0) (.int .i64 0) (.int .i64 0) (.int .i64 0)
        have H1 := Lib.hid h1
        have H9 := Lib.hid h9
        clear h1 h2 hC hW h9
        have hnk := HNE.out
        refine ⟨_, by go_simp <;> with_reducible rfl, ⟨?_, ?_, hpa⟩, trivial⟩
        · rw [H9.out]
          exact H1.out.fr hF (H1.out.2.2.2.trans (hB _ (by omega))) (by omega) (fun e => by have := (hnk.2.2.1 _ e).2; omega) (by omega) (by omega)
        · rw [H9.out]
          exact k9
      simp only [Act.put]
      refine flow_end ?_
      rintro W ⟨hR, _⟩ _
      exact .inl ⟨by trivial, pa, rfl, hR⟩
 case hk =>
  rintro pa w10 ⟨hd, hka, hpa⟩
  have HD10 := Lib.hid hd
  have HKA10 := Lib.hid hka
  have hwp := HNE.out
  have HPA2 : Hid (pt < pa ∧ w.heap.size < pa ∧ p < pa ∧ D ≠ some pa) := Lib.hid ⟨hpa, by omega, by omega, fun e => by have := (hwp.2.2.1 _ e).2; omega⟩
  have x0 := cell_at hd.2.1 0
  clear hd hka hpa hwp
  go_wp2_with fail
  refine (HTN.out w10 s2 0 16 N s9 HN9.out HD10.out).mono ?_
  rintro e w14 ⟨rfl, hd, hf⟩
  have HD14 := Lib.hid hd
  have HKA14 := Lib.hid (hf.keep0 HKA10.out (by have := HPA2.out; simp; omega))
  have HS14 : Hid (pa + 1 ≤ w14.heap.size) := Lib.hid (lt_of_block HKA14.out)
  clear hd hf x0
  go_wp2_with fail
  go_loopw [19] (fun iv wr => ∃ k : Nat, k ≤ N ∧ iv = .int .i64 k ∧ DmT w wr pt w.heap.size p D (itR 1 1099511627776 k [] s9).2 ∧ ∃ vi, wr.heap[pa]? = some (.cells #[.int .i64 n1, .int .i64 n2, vi, .int .i64 0, .int .i64 0, .int .i64 0, .int .i64 0, .int .i64 0, .int .i64 0, .int .i64 0, .string { data := #[] }, .slice none 0 0, .int .i64 0, .int .i64 0, .int .i64 0, .int .i64 0] 29 (0, 0)) ∧ wr.ownsRow w14.heap.size 46 2 vi (itR 1 1099511627776 k [] s9).1.length ((itR 1 1099511627776 k [] s9).1.flatMap encI) ∧ w14.heap.size ≤ wr.heap.size) (fun iv => fun _ => N - (intOf iv).toNat)
  case atStart => exact ⟨0, Nat.zero_le _, rfl, HD14.out, _, HKA14.out, World.ownsRow_nil _ _ _ _, Nat.le_refl _⟩
  case round =>
   obtain ⟨k, hk, rfl, hd, vi, hka, hov, hsz⟩ := hrel
   have HD := Lib.hid hd
   have HKA := Lib.hid hka
   have HSZ := Lib.hid hsz
   have hlen := itR_len 1 1099511627776 k [] s9
   have hsn := itR_snoc 1 1099511627776 k [] s9
   obtain ⟨⟨L, s⟩, hLs⟩ : ∃ x, itR 1 1099511627776 k [] s9 = x := ⟨_, rfl⟩
   rw [hLs] at hlen hsn hov HD
   simp only [List.length_nil, Nat.zero_add] at hlen hsn hov HD
   rw [hlen] at hov
   have HO := Lib.hid hov
   have HLEN : Hid (L.length = k) := Lib.hid hlen
   have HLS := Lib.hid hLs
   obtain ⟨Ai, ci, rfl, _, _, _, _⟩ := own_slice hov
   clear hd hka hsz hlen hov hLs
   by_cases hlt : k < N
   · obtain ⟨⟨g, sa⟩, hga⟩ : ∃ x, textT s 16 = x := ⟨_, rfl⟩
     obtain ⟨⟨n, sb⟩, hnb⟩ : ∃ x, numT sa 1 1099511627776 = x := ⟨_, rfl⟩
     rw [hga] at hsn
     simp only at hsn
     rw [hnb] at hsn
     simp only at hsn
     have HSN := Lib.hid hsn
     have HGA := Lib.hid hga
     have HNB := Lib.hid hnb
     have hkI : decide ((k : Int) < (N : Int)) = true := by simp; omega
     have hkJ : (k : Int) < (N : Int) := by omega
     have x5 := cell_at HD.out.2.1 0
     obtain ⟨gs, hgs⟩ : ∃ gs, strOf g = gs := ⟨_, rfl⟩
     have HGS := Lib.hid hgs
     clear hsn hga hnb hgs
     go_wp2_with fail
     refine (HTX.out wr s 16 g sa HGA.out HD.out).mono ?_
     rintro e w15 ⟨rfl, hd, hf⟩
     rw [HGS.out]
     have HD15 := Lib.hid hd
     have HKA15 := Lib.hid (hf.keep0 HKA.out (by have := HPA2.out; simp; omega))
     have HO15 := Lib.hid (hf.own HO.out (by simp) (fun j hj => by obtain ⟨h1, _⟩ := own_block HO.out hj; have := HPA2.out; have := HS14.out; simp; omega))
     have HSZ15 : Hid (w14.heap.size ≤ w15.heap.size) := Lib.hid (Nat.le_trans HSZ.out hf.size)
     clear hd hf x5
     go_wp2_with fail
     refine wp_region_flow2 (fun W => W.heap[pa]? = some (.cells #[.int .i64 n1, .int .i64 n2, .slice Ai k ci, .int .i64 0, .int .i64 0, .int .i64 0, .int .i64 0, .int .i64 0, .int .i64 0, .int .i64 0, .string { data := #[] }, .slice none 0 0, .int .i64 0, .int .i64 0, .int .i64 0, .int .i64 0] 29 (0, 0)) ∧ W.ownsRow w14.heap.size 46 2 (.slice Ai k ci) k (L.flatMap encI) ∧ w14.heap.size ≤ W.heap.size ∧ W.heap[pt]? = some (.cells #[.pointer (some ⟨p, 0, none⟩)] 66 (0, 0))) (fun W => DmT w W pt w.heap.size p D sa) [0, 1, 2, 3, 4, 5, 6, 7, 8, 9] (by kernel_rfl) (by kernel_rfl) (by kernel_rfl) (⟨HKA15.out, (Fr.of_below (B := 0) (T := []) (S := []) ((Below.refl _ w15).drew)).own HO15.out (by simp) (by simp), HSZ15.out, HD15.out.2.1⟩) (HD15.out.keepC ((Below.refl _ _).drew)) ?_
     refine flow_val ?_ rfl (by kernel_rfl) (by rfl) (fun W hW => ?_) ?_
     rotate_left 1
     · go_simp <;> with_reducible rfl
     simp only [puts]
     refine flow_val ?_ rfl (by kernel_rfl) (by rfl) (fun W hW => ?_) ?_
     rotate_left 1
     · have c2 := cell_at hW.1 2; go_simp <;> with_reducible rfl
     simp only [puts]
     refine flow_val ?_ rfl (by kernel_rfl) (by rfl) (fun W hW => ?_) ?_
     rotate_left 1
     · go_simp <;> with_reducible rfl
     simp only [puts]
     refine flow_val ?_ rfl (by kernel_rfl) (by rfl) (fun W hW => ?_) ?_
     rotate_left 1
     · have c0 := cell_at hW.2.2.2 0; go_simp <;> with_reducible rfl
     simp only [puts]
     refine flow_turn (.int .i64 n) (fun W => DmT w W pt w.heap.size p D sb) rfl (by kernel_rfl) (by rfl) (by kernel_rfl) (fun W hW hC => ⟨_, _, _, by go_simp, (HTN.out W sa 1 1099511627776 n sb HNB.out hC).mono fun e w1 hh => ?_⟩) ?_
     · obtain ⟨he, hd, hf⟩ := hh
       have hpk := HPA2.out
       have hnk := HNE.out
       have h14 := HS14.out
       exact ⟨he, ⟨hf.keep0 hW.1 (by simp; omega), hf.own hW.2.1 (by simp) (fun j hj => by obtain ⟨h1, _⟩ := own_block hW.2.1 hj; simp; omega), Nat.le_trans hW.2.2.1 hf.size, hd.2.1⟩, hd⟩
     simp only [puts]
     refine flow_val ?_ rfl (by kernel_rfl) (by rfl) (fun W hW => ?_) ?_
     rotate_left 1
     · go_simp <;> with_reducible rfl
     simp only [puts]
     refine flow_gmake (fun v W => ∃ g, v = .slice (some ⟨g, 0, none⟩) 1 1 ∧ W.heap[g]? = some (.cells #[.string gs, .int .i64 n] 46 (0, 0)) ∧ DmT w W pt w.heap.size p D sb) rfl (by kernel_rfl) (by rfl) (by kernel_rfl) (fun W hW hC => ?_) ?_
     · have hb : Below W.heap.size W (W.alloc (.cells #[.string gs, .int .i64 n] 46)) := (Below.refl _ W).alloc (Nat.le_refl _) _
       exact ⟨_, _, by go_simp <;> with_reducible rfl, ⟨⟨(hb.block _ (lt_of_block hW.1.1)).trans hW.1.1, (Fr.of_below (B := 0) (T := []) (S := []) hb).own hW.1.2.1 (by simp) (by simp), Nat.le_trans hW.1.2.2.1 hb.size, (hb.block _ (lt_of_block hW.1.2.2.2)).trans hW.1.2.2.2⟩, trivial⟩, _, rfl, block_new _ _, hC.keepC hb⟩
     rintro v41 ⟨_, _, g41, rfl, _, _⟩
     simp only [puts]
     refine flow_bmake (fun W => W.heap[pa]? = some (.cells #[.int .i64 n1, .int .i64 n2, .slice Ai k ci, .int .i64 0, .int .i64 0, .int .i64 0, .int .i64 0, .int .i64 0, .int .i64 0, .int .i64 0, .string { data := #[] }, .slice none 0 0, .int .i64 0, .int .i64 0, .int .i64 0, .int .i64 0] 29 (0, 0)) ∧ w14.heap.size ≤ W.heap.size ∧ DmT w W pt w.heap.size p D sb) (fun v W => W.ownsRow w14.heap.size 46 2 v (k + 1) (L.flatMap encI ++ encI ⟨gs, n⟩)) rfl (by kernel_rfl) (by rfl) (by kernel_rfl) (by kernel_rfl) (fun W hW hC => ?_) ?_
     · obtain ⟨⟨⟨ha, ho, hz, _⟩, _⟩, _⟩ := hW
       obtain ⟨g', e', hg', hd⟩ := hC
       cases e'
       have hpk := HPA2.out
       have hnk := HNE.out
       have h14 := HS14.out
       refine exec_append_rd (.tmp 24) (.tmp 29) 22 rfl w14.heap.size 46 i1 (.agg #[.string ByteArray.empty, .int .i64 0]) 2 24 Try.underlying22 hi1 hy0 hy1 hy2 rfl (by decide) _ k _ rfl ho (some ⟨g41, 0, none⟩) 1 1 (encI ⟨gs, n⟩) rfl (rd_oneA hg') (by simp [encI, Value.oneCell']) (by unfold maxLen; omega) (by omega) hz (fun v' w' x2 x3 => ?_)
       have fx : Fr w14.heap.size [46] [] W w' := (Fr.refl W).grown x3 (fun j hj => by
        obtain ⟨hb, cs, hc⟩ := own_block ho hj
        exact ⟨hb, .inr ⟨cs, _, _, hc, by simp⟩⟩)
       have hb := fx.below hz
       exact ⟨⟨(hb.block _ (by omega)).trans ha, Nat.le_trans hz fx.size, hd.keepB hb (by omega) (by omega) (fun d hd => by have := (hnk.2.2.1 d hd).2; omega) (by omega) (by omega)⟩, x2⟩
     rintro v42 ⟨_, _, hv42⟩
     obtain ⟨A42, c42, rfl, _, _, _, _⟩ := own_slice hv42
     clear hv42
     simp only [puts]
     refine flow_val ?_ rfl (by kernel_rfl) (by rfl) (fun W hW => ?_) ?_
     rotate_left 1
     · go_simp <;> with_reducible rfl
     simp only [puts]
     refine flow_bar (fun W => DmT w W pt w.heap.size p D sb ∧ W.heap[pa]? = some (.cells #[.int .i64 n1, .int .i64 n2, .slice A42 (k + 1) c42, .int .i64 0, .int .i64 0, .int .i64 0, .int .i64 0, .int .i64 0, .int .i64 0, .int .i64 0, .string { data := #[] }, .slice none 0 0, .int .i64 0, .int .i64 0, .int .i64 0, .int .i64 0] 29 (0, 0)) ∧ W.ownsRow w14.heap.size 46 2 (.slice A42 (k + 1) c42) (k + 1) (L.flatMap encI ++ encI ⟨gs, n⟩) ∧ w14.heap.size ≤ W.heap.size) (fun _ => True) rfl (by kernel_rfl) (by rfl) (by kernel_rfl) (by kernel_rfl) (fun W hW hC => ?_) ?_
     · obtain ⟨⟨ha, hz, hd⟩, _⟩ := hW
       have hpk := HPA2.out
       have hnk := HNE.out
       have h14 := HS14.out
       have q1 := cell_at ha 2
       have q2 := frozen_at ha 2
       have HA := Lib.hid ha
       have HZ := Lib.hid hz
       have HDD := Lib.hid hd
       have HCC := Lib.hid hC
       clear ha hz hd hC
       refine ⟨_, by go_simp <;> with_reducible rfl, ⟨HDD.out.set 2 _ (by omega) (by omega) hpk.2.2.2 (by omega) (by omega), ?_, ?_, ?_⟩, trivial⟩
       · rw [block_set HA.out]; rfl
       · have fs : Fr 0 [] [pa] W (W.setCell ⟨pa, 2, none⟩ (.slice A42 (k + 1) c42)) := (Fr.refl W).setCell (p := ⟨pa, 2, none⟩) _ (Nat.zero_le _) (.inl (by simp))
         exact fs.own HCC.out (by simp) (fun j hj => by obtain ⟨h1, _⟩ := own_block HCC.out hj; simp; omega)
       · simpa using HZ.out
     simp only [Act.put]
     refine flow_done2 ?_
     intro W hW hC
     have HE := Lib.hid hW
     clear hW hC
     go_wp2_with fail
     go_roundw
     case rel => exact ⟨k + 1, hlt, by go_num, by rw [HSN.out]; exact HE.out.1.1, _, HE.out.1.2.1, by rw [HSN.out]; simp only; rw [List.length_append, HLEN.out, List.flatMap_append, List.flatMap_cons, List.flatMap_nil, List.append_nil]; simpa [HGS.out] using HE.out.1.2.2.1, HE.out.1.2.2.2⟩
     case measure => simp [intOf]; omega
   · have ekm : k = N := by omega
     have hkI : decide ((k : Int) < (N : Int)) = false := by simp; omega
     subst ekm
     have hbd := itR_bd 1 1099511627776 (by omega) (by omega) k s9
     rw [HLS.out] at hbd
     simp only at hbd
     have HBD : Hid (BdL L) := Lib.hid ⟨fun z hz => by have := hbd z hz; exact ⟨by omega, by omega, by omega⟩, by rw [HLEN.out]; omega⟩
     obtain ⟨_, _, er, _, _, hrd, _⟩ := own_slice HO.out
     cases er
     have HRD : Hid (Rd wr 2 Ai L.length (L.flatMap encI)) := Lib.hid (by rw [HLEN.out]; exact hrd)
     obtain ⟨⟨tx, s4⟩, htx⟩ : ∃ x, textT s 262144 = x := ⟨_, rfl⟩
     have HTXE := Lib.hid htx
     have hbs : ∀ b ∈ s.1, b < 256 := by have := itR_lt 1 1099511627776 k [] s9 HB9.out; rw [HLS.out] at this; exact this
     have hbt := (textT_lt hbs 262144).1
     rw [htx] at hbt
     have hlt2 := textT_cap (s := s) (m := 262144)
     rw [htx] at hlt2
     simp only at hbt hlt2
     have HBT := Lib.hid hbt
     have HLT : Hid (tx.length ≤ 262144) := Lib.hid (by omega)
     have x5 := cell_at HD.out.2.1 0
     clear hbd hrd htx hbs hbt hlt2
     go_wp2_with fail
     refine (HTX.out wr s 262144 tx s4 HTXE.out HD.out).mono ?_
     rintro e w16 ⟨rfl, hd, hf⟩
     have HD16 := Lib.hid hd
     have HKA16 := Lib.hid (hf.keep0 HKA.out (by have := HPA2.out; simp; omega))
     have HRD16 := Lib.hid (HRD.out.frame hf (fun hn a ha => by
      obtain ⟨hbk, _⟩ := own_block HO.out (k := a.block) (by rw [ha]; rfl)
      have := HPA2.out
      have := HS14.out
      simp
      omega))
     obtain ⟨T, hT⟩ : ∃ T, strOf tx = T := ⟨_, rfl⟩
     rw [hT]
     have HNT : Hid (natsOf T = tx) := Lib.hid (by rw [← hT]; exact natsOf_strOf' HBT.out)
     have HTS : Hid (T.size ≤ 262144) := Lib.hid (by rw [← hT, strOf_size']; exact HLT.out)
     clear hd hf x5 hT
     have HIQ : Hid (∀ a, Ai = some a → a.block ≠ p ∧ a.block ≠ pa ∧ a.block ≠ w.heap.size) := Lib.hid (fun a ha => by
      obtain ⟨hbk, _⟩ := own_block HO.out (k := a.block) (by rw [ha]; rfl)
      have := HPA2.out
      have := HS14.out
      omega)
     have hTL : T.toList.length = tx.length := by
      rw [Lib.toList_data, ← HNT.out, natsOf_length]
      exact Array.length_toList
     have htz := HV.out L s tx s4 HLS.out HTXE.out
     have HAZ : Hid (askT tx = some zeroK) := Lib.hid (by unfold askT; rw [if_pos htz])
     have hT0 : T.toList = [] := List.eq_nil_of_length_eq_zero (by rw [hTL, htz]; rfl)
     have hTe : (T.toList == []) = true := by rw [hT0]; rfl
     have hTn : (T.toList != []) = false := by rw [hT0]; rfl
     have HRA16 : Hid (Rd w16 2 none zeroK.items.length (zeroK.items.flatMap encI)) := Lib.hid Rd.nil
     have HBA : Hid (BdL zeroK.items) := Lib.hid ⟨fun z hz => (by cases hz), by simp [zeroK]⟩
     have HGA : Hid (zeroK.good.size ≤ 9223372036854775807) := Lib.hid (by simp [zeroK])
     have a0 := cell_at HKA16.out 0
     clear htz hT0 hTL
     go_wp2_with fail
     clear a0 hTe hTn
     refine (mhas_any n1 w16).mono ?_
     rintro e w18 ⟨rfl, rfl⟩
     obtain ⟨H, hH⟩ : ∃ H, txtM n1 = H := ⟨_, rfl⟩
     have HEQ : Hid ((H.toList == [121]) = true) := Lib.hid (by rw [← hH, ← HBY.out]; exact txtM_y n1)
     rw [hH]
     clear hH
     have x0 := cell_at HD16.out.2.1 0
     obtain ⟨⟨y1, s5⟩, hy1⟩ : ∃ x, numT s4 (-9223372036854775808) 9223372036854775807 = x := ⟨_, rfl⟩
     obtain ⟨⟨y2, s6⟩, hy2⟩ : ∃ x, numT s5 (-9223372036854775808) 9223372036854775807 = x := ⟨_, rfl⟩
     obtain ⟨⟨y3, s7⟩, hy3⟩ : ∃ x, numT s6 (-9223372036854775808) 9223372036854775807 = x := ⟨_, rfl⟩
     obtain ⟨⟨y4, s8⟩, hy4⟩ : ∃ x, numT s7 (-9223372036854775808) 9223372036854775807 = x := ⟨_, rfl⟩
     have HY : Hid (yT bdY n1 s4 = ([y1, y2, y3, y4], s8)) := Lib.hid (by unfold yT; rw [if_pos HBY.out]; simp only [bdY, readNs, hy1, hy2, hy3, hy4])
     have HY1 := Lib.hid hy1
     have HY2 := Lib.hid hy2
     have HY3 := Lib.hid hy3
     have HY4 := Lib.hid hy4
     clear hy1 hy2 hy3 hy4
     have hq := HEQ.out
     go_wp2_with fail
     clear hq
     refine (mdcl_any pt p D s4 s5 y1 w16 HD16.out.1 HNE.out.2.2.2 x0 HY1.out).mono ?_
     rintro e w31 ⟨rfl, hT, hf⟩
     have HDY1 := Lib.hid (HD16.out.turn hT hf (by have := HNE.out.1; omega))
     have HKAY1 := Lib.hid (hf.keep0 HKA16.out (by have := HPA2.out; simp; omega))
     have HRDY1 := Lib.hid (HRD16.out.frame hf (fun hn a ha => by have := HIQ.out a ha; simp; omega))
     have HRAY1 : Hid (Rd w31 2 none zeroK.items.length (zeroK.items.flatMap encI)) := Lib.hid Rd.nil
     clear hT hf x0
     have x0 := cell_at HDY1.out.2.1 0
     go_wp2_with fail
     refine (mdcl_any pt p D s5 s6 y2 w31 HDY1.out.1 HNE.out.2.2.2 x0 HY2.out).mono ?_
     rintro e w32 ⟨rfl, hT, hf⟩
     have HDY2 := Lib.hid (HDY1.out.turn hT hf (by have := HNE.out.1; omega))
     have HKAY2 := Lib.hid (hf.keep0 HKAY1.out (by have := HPA2.out; simp; omega))
     have HRDY2 := Lib.hid (HRDY1.out.frame hf (fun hn a ha => by have := HIQ.out a ha; simp; omega))
     have HRAY2 : Hid (Rd w32 2 none zeroK.items.length (zeroK.items.flatMap encI)) := Lib.hid Rd.nil
     clear hT hf x0
     have x0 := cell_at HDY2.out.2.1 0
     go_wp2_with fail
     refine (mdcl_any pt p D s6 s7 y3 w32 HDY2.out.1 HNE.out.2.2.2 x0 HY3.out).mono ?_
     rintro e w33 ⟨rfl, hT, hf⟩
     have HDY3 := Lib.hid (HDY2.out.turn hT hf (by have := HNE.out.1; omega))
     have HKAY3 := Lib.hid (hf.keep0 HKAY2.out (by have := HPA2.out; simp; omega))
     have HRDY3 := Lib.hid (HRDY2.out.frame hf (fun hn a ha => by have := HIQ.out a ha; simp; omega))
     have HRAY3 : Hid (Rd w33 2 none zeroK.items.length (zeroK.items.flatMap encI)) := Lib.hid Rd.nil
     clear hT hf x0
     have x0 := cell_at HDY3.out.2.1 0
     go_wp2_with fail
     refine (mdcl_any pt p D s7 s8 y4 w33 HDY3.out.1 HNE.out.2.2.2 x0 HY4.out).mono ?_
     rintro e w34 ⟨rfl, hT, hf⟩
     have HDY4 := Lib.hid (HDY3.out.turn hT hf (by have := HNE.out.1; omega))
     have HKAY4 := Lib.hid (hf.keep0 HKAY3.out (by have := HPA2.out; simp; omega))
     have HRDY4 := Lib.hid (HRDY3.out.frame hf (fun hn a ha => by have := HIQ.out a ha; simp; omega))
     have HRAY4 : Hid (Rd w34 2 none zeroK.items.length (zeroK.items.flatMap encI)) := Lib.hid Rd.nil
     clear hT hf x0
     have x0 := cell_at HDY4.out.2.1 0
     have z12 := cell_at HKAY4.out 12
     have f12 := frozen_at HKAY4.out 12
     have z13 := cell_at HKAY4.out 13
     have f13 := frozen_at HKAY4.out 13
     have z14 := cell_at HKAY4.out 14
     have f14 := frozen_at HKAY4.out 14
     have z15 := cell_at HKAY4.out 15
     have f15 := frozen_at HKAY4.out 15
     obtain ⟨W9, h9, k9, hF, hB, _⟩ := mail_storeY HKAY4.out (.int .i64 y1) (.int .i64 y2) (.int .i64 y3) (.int .i64 y4)
     have H9 := Lib.hid h9
     have HKA9 := Lib.hid k9
     have hnk := HNE.out
     have hpk := HPA2.out
     have HD9 := Lib.hid (HDY4.out.fr hF (HDY4.out.2.2.2.trans (hB _ (by omega))) (by omega) (fun e => hpk.2.2.2 e) (by omega) (by omega))
     have HRD9 := Lib.hid (HRDY4.out.frame hF (fun hn a ha => by have := HIQ.out a ha; simp; omega))
     have HRA9 : Hid (Rd W9 2 none zeroK.items.length (zeroK.items.flatMap encI)) := Lib.hid Rd.nil
     have x1 := cell_at HD9.out.2.1 0
     rw [← h9] at x1
     have hpp : pt ≠ pa := by omega
     clear h9 k9 hF hB hnk hpk
     go_wp2_with fail
     rw [H9.out]
     clear x0 x1 hpp z12 z13 z14 z15 f12 f13 f14 f15
     have HU := HUN.out L s tx s4 _ _ HLS.out HTXE.out HY.out
     obtain ⟨dn, hdn⟩ : ∃ dn, doneT s8 = dn := ⟨_, rfl⟩
     have HDONE := Lib.hid (tdone_any p D s8 W9 HD9.out.1)
     rw [hdn] at HU HDONE
     have hdc : dn = 0 ∨ dn = 10 := by rw [← hdn]; unfold doneT; split <;> simp
     clear hdn
     have HUH := Lib.hid HU
     clear HU
     refine HDONE.out.mono ?_
     rintro e w20 ⟨rfl, rfl⟩
     have HRZ := Lib.hid HD9.out.2.2.1
     have HBN := Lib.hid HD9.out.2.2.2
     rcases hdc with rfl | rfl
     · have HMAY : Hid (Calls Try.prog 14 #[.agg #[.int .i64 n1, .int .i64 n2, .slice Ai k ci, .int .i64 0, .int .i64 0, .int .i64 0, .int .i64 0, .int .i64 0, .int .i64 0, .int .i64 0, .string { data := #[] }, .slice none 0 0, .int .i64 y1, .int .i64 y2, .int .i64 y3, .int .i64 y4]] W9 fun e W' => e = .returned (.bool (mayM (⟨n1, n2, L, zeroK, y1, y2, y3, y4⟩ : Ml))) ∧ Below W9.heap.size W9 W') := Lib.hid (by
        have h := mmay_any (⟨n1, n2, L, zeroK, y1, y2, y3, y4⟩ : Ml) Ai ci none 0 W9 HRD9.out HRA9.out HBD.out HBA.out HGA.out
        simp only at h
        rw [HLEN.out] at h
        exact h)
       obtain ⟨MA, hMA⟩ : ∃ MA, mayM (⟨n1, n2, L, zeroK, y1, y2, y3, y4⟩ : Ml) = MA := ⟨_, rfl⟩
       rw [hMA] at HMAY
       have HMA := Lib.hid hMA
       clear hMA
       have a0 := cell_at HKA9.out 0
       have a1 := cell_at HKA9.out 1
       have a2 := cell_at HKA9.out 2
       have a3 := cell_at HKA9.out 3
       have a4 := cell_at HKA9.out 4
       have a5 := cell_at HKA9.out 5
       have a6 := cell_at HKA9.out 6
       have a7 := cell_at HKA9.out 7
       have a8 := cell_at HKA9.out 8
       have a9 := cell_at HKA9.out 9
       have a10 := cell_at HKA9.out 10
       have a11 := cell_at HKA9.out 11
       have a12 := cell_at HKA9.out 12
       have a13 := cell_at HKA9.out 13
       have a14 := cell_at HKA9.out 14
       have a15 := cell_at HKA9.out 15
       go_wp2_with fail
       refine HMAY.out.mono ?_
       rintro e w21 ⟨rfl, hb⟩
       replace HRZ := Lib.hid ((hb.block _ (lt_of_block HRZ.out)).trans HRZ.out)
       have HKB := Lib.hid ((hb.block _ (lt_of_block HKA9.out)).trans HKA9.out)
       have HRDX := Lib.hid (HRD9.out.below hb)
       have HRAX := Lib.hid (HRA9.out.below hb)
       replace HBN := Lib.hid (HBN.out.trans (hb.mono HBN.out.size))
       clear hb a0 a1 a2 a3 a4 a5 a6 a7 a8 a9 a10 a11 a12 a13 a14 a15
       cases MA
       case false =>
        have HUU : Hid (unM bs = none) := Lib.hid (by rw [HUH.out, HAZ.out]; exact if_neg (fun h => by have h2 := h.2.2; rw [show mayM (mlOf [n1, n2] L ((some zeroK).getD zeroK) [y1, y2, y3, y4]) = false from HMA.out] at h2; cases h2))
        obtain ⟨W9, h9, k9, hF, hB, hth⟩ := mail_storeS HRZ.out (.int .i64 0) (.int .i64 0) (.slice none 0 0) (.int .i64 0) (.int .i64 0) (.int .i64 0) (.int .i64 0) (.int .i64 0) (.int .i64 0) (.int .i64 0) (.string { data := #[] }) (.slice none 0 0) (.int .i64 0) (.int .i64 0) (.int .i64 0) (.int .i64 0)
        go_wp2_with (refine wpList_store_mid rfl 29 (.tmp 2) (.tmp 71) rfl _ 0 #[.int .i64 0, .int .i64 0, .slice none 0 0, .int .i64 0, .int .i64 0, .int .i64 0, .int .i64 0, .int .i64 0, .int .i64 0, .int .i64 0, .string { data := #[] }, .slice none 0 0, .int .i64 0, .int .i64 0, .int .i64 0, .int .i64 0] rfl rfl hth (by kernel_rfl) (by simp [Value.oneCell']) ?_; rw [h9])
        refine bodyPost_ret (v := .tuple #[.agg #[.int .i64 0, .int .i64 0, .slice none 0 0, .int .i64 0, .int .i64 0, .int .i64 0, .int .i64 0, .int .i64 0, .int .i64 0, .int .i64 0, .string { data := #[] }, .slice none 0 0, .int .i64 0, .int .i64 0, .int .i64 0, .int .i64 0], .int .i64 10]) (mail_results rfl rfl rfl k9) rfl ?_
        exact ⟨fun a ha => (by rw [HUU.out] at ha; cases ha), fun _ => ⟨rfl, HBN.out.trans (hB _ (Nat.le_refl _))⟩⟩
       case true =>
        have HUU : Hid (unM bs = some (⟨n1, n2, L, zeroK, y1, y2, y3, y4⟩ : Ml)) := Lib.hid (by rw [HUH.out, HAZ.out]; exact if_pos ⟨by trivial, rfl, HMA.out⟩)
        obtain ⟨W9, h9, k9, hF, hB, hth⟩ := mail_storeS HRZ.out (.int .i64 n1) (.int .i64 n2) (.slice Ai k ci) (.int .i64 0) (.int .i64 0) (.int .i64 0) (.int .i64 0) (.int .i64 0) (.int .i64 0) (.int .i64 0) (.string { data := #[] }) (.slice none 0 0) (.int .i64 y1) (.int .i64 y2) (.int .i64 y3) (.int .i64 y4)
        go_wp2_with (first | (refine wpList_load_row rfl 29 (.tmp 5) rfl _ rfl 29 #[.int .i64 n1, .int .i64 n2, .slice Ai k ci, .int .i64 0, .int .i64 0, .int .i64 0, .int .i64 0, .int .i64 0, .int .i64 0, .int .i64 0, .string { data := #[] }, .slice none 0 0, .int .i64 y1, .int .i64 y2, .int .i64 y3, .int .i64 y4] (0, 0) _ HKB.out Try.underlying29 rfl (by kernel_rfl) ?_) | (refine wpList_store_mid rfl 29 (.tmp 2) (.tmp 72) rfl _ 0 #[.int .i64 n1, .int .i64 n2, .slice Ai k ci, .int .i64 0, .int .i64 0, .int .i64 0, .int .i64 0, .int .i64 0, .int .i64 0, .int .i64 0, .string { data := #[] }, .slice none 0 0, .int .i64 y1, .int .i64 y2, .int .i64 y3, .int .i64 y4] rfl rfl hth (by kernel_rfl) (by simp [Value.oneCell']) ?_; rw [h9]))
        refine bodyPost_ret (v := .tuple #[.agg #[.int .i64 n1, .int .i64 n2, .slice Ai k ci, .int .i64 0, .int .i64 0, .int .i64 0, .int .i64 0, .int .i64 0, .int .i64 0, .int .i64 0, .string { data := #[] }, .slice none 0 0, .int .i64 y1, .int .i64 y2, .int .i64 y3, .int .i64 y4], .int .i64 0]) (mail_results rfl rfl rfl k9) rfl ?_
        refine ⟨fun m hm => ?_, fun h => by rw [HUU.out] at h; cases h⟩
        rw [HUU.out] at hm
        injection hm with hm
        subst hm
        refine ⟨Ai, ci, none, 0, by simp only [HLEN.out] <;> rfl, HRDX.out.frame hF (fun hn a ha => ?_), HRAX.out.frame hF (fun hn a ha => ?_), HBN.out.trans (hB _ (Nat.le_refl _))⟩
        · have := HIQ.out a ha
          simp
          omega
        · cases ha
     · have HUU : Hid (unM bs = none) := Lib.hid (by rw [HUH.out]; exact if_neg (fun h => by cases h.1))
       obtain ⟨W9, h9, k9, hF, hB, hth⟩ := mail_storeS HRZ.out (.int .i64 0) (.int .i64 0) (.slice none 0 0) (.int .i64 0) (.int .i64 0) (.int .i64 0) (.int .i64 0) (.int .i64 0) (.int .i64 0) (.int .i64 0) (.string { data := #[] }) (.slice none 0 0) (.int .i64 0) (.int .i64 0) (.int .i64 0) (.int .i64 0)
       go_wp2_with (refine wpList_store_mid rfl 29 (.tmp 2) (.tmp 71) rfl _ 0 #[.int .i64 0, .int .i64 0, .slice none 0 0, .int .i64 0, .int .i64 0, .int .i64 0, .int .i64 0, .int .i64 0, .int .i64 0, .int .i64 0, .string { data := #[] }, .slice none 0 0, .int .i64 0, .int .i64 0, .int .i64 0, .int .i64 0] rfl rfl hth (by kernel_rfl) (by simp [Value.oneCell']) ?_; rw [h9])
       refine bodyPost_ret (v := .tuple #[.agg #[.int .i64 0, .int .i64 0, .slice none 0 0, .int .i64 0, .int .i64 0, .int .i64 0, .int .i64 0, .int .i64 0, .int .i64 0, .int .i64 0, .string { data := #[] }, .slice none 0 0, .int .i64 0, .int .i64 0, .int .i64 0, .int .i64 0], .int .i64 10]) (mail_results rfl rfl rfl k9) rfl ?_
       exact ⟨fun a ha => (by rw [HUU.out] at ha; cases ha), fun _ => ⟨rfl, HBN.out.trans (hB _ (Nat.le_refl _))⟩⟩
end Go.Proofs.Ytpccbobomppdbaa
