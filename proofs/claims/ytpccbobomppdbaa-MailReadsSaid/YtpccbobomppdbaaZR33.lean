/- The reference's Decode of a mail, without an answer. -/
import Derived.Test.YtpccbobomppdbaaZR32
namespace Go.Proofs.Ytpccbobomppdbaa
open Go.RowKit

set_option maxRecDepth 100000 in
set_option maxHeartbeats 4000000 in
theorem xmdec_A (A : Option Addr) (c : Nat) (bs : List Nat) (w : World) (h1 : bs.length ≤ c) (h2 : c ≤ maxLen) (h3 : Rd w 1 A bs.length (bs.map u8v)) (h4 : ∀ b ∈ bs, b < 256) (h5 : SlA A c) (hvy : hasM (kindM (bs, false)) 121 = false) :
 Calls Try.prog 18 #[.slice A bs.length c] w (RetDecY w (unXM bs)) := by
 obtain ⟨⟨n1, s1⟩, hn1⟩ : ∃ x, numT (bs, false) 1 14 = x := ⟨_, rfl⟩
 obtain ⟨⟨n2, s2⟩, hn2⟩ : ∃ x, numT s1 0 1099511627776 = x := ⟨_, rfl⟩
 obtain ⟨N, hN, hN16⟩ : ∃ N : Nat, (numT s2 0 16).1 = N ∧ N ≤ 16 := by
  rcases numT_range s2 0 16 with h | h
  · exact ⟨0, by rw [h]; rfl, by omega⟩
  · exact ⟨(numT s2 0 16).1.toNat, by omega, by omega⟩
 obtain ⟨s9, hs9⟩ : ∃ x, (numT s2 0 16).2 = x := ⟨_, rfl⟩
 have hn9 : numT s2 0 16 = ((N : Int), s9) := Prod.ext hN hs9
 obtain ⟨⟨L, s3⟩, hL⟩ : ∃ x, itX N [] s9 = x := ⟨_, rfl⟩
 obtain ⟨⟨tx, s4⟩, htx⟩ : ∃ x, rtextT s3 262144 = x := ⟨_, rfl⟩
 have h1M : m1M (bs, false) = ([n1, n2], s2) := by simp only [m1M, bdK, readNs, hn1, hn2]
 have hkM : kindM (bs, false) = n1 := by unfold kindM; rw [h1M]; rfl
 have h2M : m2M (bs, false) = ((N : Int), s9) := by unfold m2M; rw [h1M]; exact hn9
 have h3M : x3M (bs, false) = (L, s3) := by unfold x3M; rw [h2M]; simp only [Int.toNat_natCast]; exact hL
 have h4M : x4M (bs, false) = (tx, s4) := by unfold x4M; rw [h3M]; exact htx
 have HUN : Hid (∀ ys s8, yT bdYX n1 s4 = (ys, s8) → unXM bs = if (!s3.2 && mayI L) = true ∧ (xaskT n1 tx).isSome = true ∧ s8 = ([], false) ∧ mayM (mlOf [n1, n2] L ((xaskT n1 tx).getD zeroK) ys) = true then some (mlOf [n1, n2] L ((xaskT n1 tx).getD zeroK) ys) else none) := Lib.hid (fun ys s8 e3 => by
  have h5M : x5M (bs, false) = (ys, s8) := by unfold x5M; rw [hkM, h4M]; exact e3
  unfold unXM xM xokM
  rw [h5M, hkM, h4M, h3M, h1M])
 have hb9 : ∀ b ∈ s9.1, b < 256 := by have := numT_lt (readNs_lt bdK (bs, false) h4) 0 16; rw [show (readNs bdK (bs, false)).2 = s2 by have := congrArg Prod.snd h1M; exact this, hn9] at this; exact this
 have hlt2 := rtextT_cap (s := s3) (m := 262144)
 rw [htx] at hlt2
 simp only at hlt2
 have HLT : Hid (tx.length ≤ 262144) := Lib.hid (by omega)
 have HBY : Hid (hasM n1 121 = false) := Lib.hid (by rw [hkM] at hvy; exact hvy)
 have HN1 := Lib.hid hn1
 have HN2 := Lib.hid hn2
 have HN9 := Lib.hid hn9
 have HLX := Lib.hid hL
 have HTXE := Lib.hid htx
 have HN16 := Lib.hid hN16
 obtain ⟨nb, hnb⟩ : ∃ nb, bs.length = nb := ⟨_, rfl⟩
 have hb1 := (Below.refl w.heap.size w).alloc (Nat.le_refl _) (.cells #[.int .i64 0, .int .i64 0, .slice none 0 0, .int .i64 0, .int .i64 0, .int .i64 0, .int .i64 0, .int .i64 0, .int .i64 0, .int .i64 0, .string { data := #[] }, .slice none 0 0, .int .i64 0, .int .i64 0, .int .i64 0, .int .i64 0] 29)
 have hb2 := hb1.alloc hb1.size (.cells #[.slice A bs.length c, .bool false] 82)
 have hb3 := hb2.alloc hb2.size (.cells #[.int .i64 0, .int .i64 0, .slice none 0 0, .int .i64 0, .int .i64 0, .int .i64 0, .int .i64 0, .int .i64 0, .int .i64 0, .int .i64 0, .string { data := #[] }, .slice none 0 0, .int .i64 0, .int .i64 0, .int .i64 0, .int .i64 0] 29)
 have kr := block_alloc (block_alloc (block_new w (.cells #[.int .i64 0, .int .i64 0, .slice none 0 0, .int .i64 0, .int .i64 0, .int .i64 0, .int .i64 0, .int .i64 0, .int .i64 0, .int .i64 0, .string { data := #[] }, .slice none 0 0, .int .i64 0, .int .i64 0, .int .i64 0, .int .i64 0] 29)) (.cells #[.slice A bs.length c, .bool false] 82)) (.cells #[.int .i64 0, .int .i64 0, .slice none 0 0, .int .i64 0, .int .i64 0, .int .i64 0, .int .i64 0, .int .i64 0, .int .i64 0, .int .i64 0, .string { data := #[] }, .slice none 0 0, .int .i64 0, .int .i64 0, .int .i64 0, .int .i64 0] 29)
 have kq := block_alloc (block_new (w.alloc (.cells #[.int .i64 0, .int .i64 0, .slice none 0 0, .int .i64 0, .int .i64 0, .int .i64 0, .int .i64 0, .int .i64 0, .int .i64 0, .int .i64 0, .string { data := #[] }, .slice none 0 0, .int .i64 0, .int .i64 0, .int .i64 0, .int .i64 0] 29)) (.cells #[.slice A bs.length c, .bool false] 82)) (.cells #[.int .i64 0, .int .i64 0, .slice none 0 0, .int .i64 0, .int .i64 0, .int .i64 0, .int .i64 0, .int .i64 0, .int .i64 0, .int .i64 0, .string { data := #[] }, .slice none 0 0, .int .i64 0, .int .i64 0, .int .i64 0, .int .i64 0] 29)
 have ka := block_new ((w.alloc (.cells #[.int .i64 0, .int .i64 0, .slice none 0 0, .int .i64 0, .int .i64 0, .int .i64 0, .int .i64 0, .int .i64 0, .int .i64 0, .int .i64 0, .string { data := #[] }, .slice none 0 0, .int .i64 0, .int .i64 0, .int .i64 0, .int .i64 0] 29)).alloc (.cells #[.slice A bs.length c, .bool false] 82)) (.cells #[.int .i64 0, .int .i64 0, .slice none 0 0, .int .i64 0, .int .i64 0, .int .i64 0, .int .i64 0, .int .i64 0, .int .i64 0, .int .i64 0, .string { data := #[] }, .slice none 0 0, .int .i64 0, .int .i64 0, .int .i64 0, .int .i64 0] 29)
 simp only [World.size_alloc] at kq ka
 rw [hnb] at hb3 kr kq ka
 obtain ⟨W2, hW2⟩ : ∃ W2, ((w.alloc (.cells #[.int .i64 0, .int .i64 0, .slice none 0 0, .int .i64 0, .int .i64 0, .int .i64 0, .int .i64 0, .int .i64 0, .int .i64 0, .int .i64 0, .string { data := #[] }, .slice none 0 0, .int .i64 0, .int .i64 0, .int .i64 0, .int .i64 0] 29)).alloc (.cells #[.slice A nb c, .bool false] 82)).alloc (.cells #[.int .i64 0, .int .i64 0, .slice none 0 0, .int .i64 0, .int .i64 0, .int .i64 0, .int .i64 0, .int .i64 0, .int .i64 0, .int .i64 0, .string { data := #[] }, .slice none 0 0, .int .i64 0, .int .i64 0, .int .i64 0, .int .i64 0] 29) = W2 := ⟨_, rfl⟩
 rw [hW2] at hb3 kr kq ka
 obtain ⟨pr, hpr⟩ : ∃ pr, w.heap.size = pr := ⟨_, rfl⟩
 have HPR := Lib.hid hpr
 rw [hpr] at kr kq ka
 obtain ⟨pa, hpa⟩ : ∃ pa, pr + 1 + 1 = pa := ⟨_, rfl⟩
 have hpp : pr + 1 < pa := by omega
 rw [hpa] at ka
 rw [← hnb] at kq
 obtain ⟨D, hT, hD⟩ := ist_arg h1 h2 h3 h4 h5 hb3 kq
 rw [hpr] at hD
 obtain ⟨W3, hW3, k3, hF3, hB3, _⟩ := mail_store ka (.int .i64 0) (.int .i64 0) (.slice none 0 0) (.int .i64 0) (.int .i64 0) (.int .i64 0) (.int .i64 0) (.int .i64 0) (.int .i64 0) (.int .i64 0) (.string { data := #[] }) (.slice none 0 0) (.int .i64 0) (.int .i64 0) (.int .i64 0) (.int .i64 0)
 have HND : Hid (∀ d, D = some d → d < pr) := Lib.hid hD
 have HX3 : Hid (XmT w W3 pr D (bs, false)) := Lib.hid ⟨hT.keep hF3 (by simp; omega) (fun d hd => by have := hD d hd; simp; omega), hF3.keep0 kr (by simp; omega), hb3.trans ((hB3 _ (by omega)))⟩
 have HKA3 : Hid (W3.heap[pa]? = some (.cells #[.int .i64 0, .int .i64 0, .slice none 0 0, .int .i64 0, .int .i64 0, .int .i64 0, .int .i64 0, .int .i64 0, .int .i64 0, .int .i64 0, .string { data := #[] }, .slice none 0 0, .int .i64 0, .int .i64 0, .int .i64 0, .int .i64 0] 29 (0, 0))) := Lib.hid k3
 have HW3 := Lib.hid hW3
 have HW2 := Lib.hid hW2
 have HKA2 := Lib.hid ka
 have HTN : Hid (∀ (W : World) (s : St) (lo hi n : Int) (s' : St), numT s lo hi = (n, s') → XmT w W pr D s → Calls Try.prog 48 #[.pointer (some ⟨pr + 1, 0, none⟩), .int .i64 lo, .int .i64 hi] W fun e W' => e = .returned (.int .i64 n) ∧ XmT w W' pr D s' ∧ Fr 0 [] [pr + 1] W W') := Lib.hid (fun W s lo hi n s' h hx => by
  have h1 := rtnum_any (pr + 1) D s lo hi W hx.1 (fun e => by have := HND.out _ e; omega)
  rw [h] at h1
  exact h1.mono fun e W' ⟨he, hT, hf⟩ => ⟨he, hx.turn hT hf HPR.out, hf⟩)
 rw [hnb]
 clear h1 h2 h3 h5 hn1 hn2 hN hs9 hn9 hL htx h1M hkM h2M h3M h4M hb9 hlt2 hN16 hb1 hb2 hb3 kr kq ka hT hD hW3 k3 hF3 hB3 hnb hvy
 have z0 := cell_at HKA2.out 0
 have f0 := frozen_at HKA2.out 0
 have z1 := cell_at HKA2.out 1
 have f1 := frozen_at HKA2.out 1
 have z2 := cell_at HKA2.out 2
 have f2 := frozen_at HKA2.out 2
 have z3 := cell_at HKA2.out 3
 have f3 := frozen_at HKA2.out 3
 have z4 := cell_at HKA2.out 4
 have f4 := frozen_at HKA2.out 4
 have z5 := cell_at HKA2.out 5
 have f5 := frozen_at HKA2.out 5
 have z6 := cell_at HKA2.out 6
 have f6 := frozen_at HKA2.out 6
 have z7 := cell_at HKA2.out 7
 have f7 := frozen_at HKA2.out 7
 have z8 := cell_at HKA2.out 8
 have f8 := frozen_at HKA2.out 8
 have z9 := cell_at HKA2.out 9
 have f9 := frozen_at HKA2.out 9
 have z10 := cell_at HKA2.out 10
 have f10 := frozen_at HKA2.out 10
 have z11 := cell_at HKA2.out 11
 have f11 := frozen_at HKA2.out 11
 have z12 := cell_at HKA2.out 12
 have f12 := frozen_at HKA2.out 12
 have z13 := cell_at HKA2.out 13
 have f13 := frozen_at HKA2.out 13
 have z14 := cell_at HKA2.out 14
 have f14 := frozen_at HKA2.out 14
 have z15 := cell_at HKA2.out 15
 have f15 := frozen_at HKA2.out 15
 go_enter Try.func18, Try.ntmps18
 go_wp2_with fail
 rw [HW3.out]
 clear hW2 hpr hpa z0 f0 z1 f1 z2 f2 z3 f3 z4 f4 z5 f5 z6 f6 z7 f7 z8 f8 z9 f9 z10 f10 z11 f11 z12 f12 z13 f13 z14 f14 z15 f15
 refine (HTN.out W3 (bs, false) 1 14 n1 s1 HN1.out HX3.out).mono ?_
 rintro e wa1 ⟨rfl, hx, hf⟩
 have HXa1 := Lib.hid hx
 have HKAa1 := Lib.hid (hf.keep0 HKA3.out (by simp; omega))
 clear hx hf
 have z := cell_at HKAa1.out 0
 have f := frozen_at HKAa1.out 0
 have hfs : Fr 0 [] [pa] wa1 (wa1.setCell ⟨pa, 0, none⟩ (.int .i64 n1)) := (Fr.refl wa1).setCell (p := ⟨pa, 0, none⟩) _ (Nat.zero_le _) (.inl (by simp))
 have hxs := HXa1.out.fr hfs (HXa1.out.2.2.setCell (p := ⟨pa, 0, none⟩) (by have := HPR.out; simp; omega) _) (by omega) (fun e => by have := HND.out _ e; omega) (by omega)
 have hks : (wa1.setCell ⟨pa, 0, none⟩ (.int .i64 n1)).heap[pa]? = some (.cells #[.int .i64 n1, .int .i64 0, .slice none 0 0, .int .i64 0, .int .i64 0, .int .i64 0, .int .i64 0, .int .i64 0, .int .i64 0, .int .i64 0, .string { data := #[] }, .slice none 0 0, .int .i64 0, .int .i64 0, .int .i64 0, .int .i64 0] 29 (0, 0)) := by rw [block_set HKAa1.out]; rfl
 obtain ⟨Wb1, hWb1⟩ : ∃ W, wa1.setCell ⟨pa, 0, none⟩ (.int .i64 n1) = W := ⟨_, rfl⟩
 rw [hWb1] at hxs hks
 have HXb1 := Lib.hid hxs
 have HKAb1 := Lib.hid hks
 have HWb1 := Lib.hid hWb1
 clear hfs hxs hks hWb1
 go_wp2_with fail
 rw [HWb1.out]
 clear z f
 refine (HTN.out Wb1 s1 0 1099511627776 n2 s2 HN2.out HXb1.out).mono ?_
 rintro e wa2 ⟨rfl, hx, hf⟩
 have HXa2 := Lib.hid hx
 have HKAa2 := Lib.hid (hf.keep0 HKAb1.out (by simp; omega))
 clear hx hf
 have z := cell_at HKAa2.out 1
 have f := frozen_at HKAa2.out 1
 have hfs : Fr 0 [] [pa] wa2 (wa2.setCell ⟨pa, 1, none⟩ (.int .i64 n2)) := (Fr.refl wa2).setCell (p := ⟨pa, 1, none⟩) _ (Nat.zero_le _) (.inl (by simp))
 have hxs := HXa2.out.fr hfs (HXa2.out.2.2.setCell (p := ⟨pa, 1, none⟩) (by have := HPR.out; simp; omega) _) (by omega) (fun e => by have := HND.out _ e; omega) (by omega)
 have hks : (wa2.setCell ⟨pa, 1, none⟩ (.int .i64 n2)).heap[pa]? = some (.cells #[.int .i64 n1, .int .i64 n2, .slice none 0 0, .int .i64 0, .int .i64 0, .int .i64 0, .int .i64 0, .int .i64 0, .int .i64 0, .int .i64 0, .string { data := #[] }, .slice none 0 0, .int .i64 0, .int .i64 0, .int .i64 0, .int .i64 0] 29 (0, 0)) := by rw [block_set HKAa2.out]; rfl
 obtain ⟨Wb2, hWb2⟩ : ∃ W, wa2.setCell ⟨pa, 1, none⟩ (.int .i64 n2) = W := ⟨_, rfl⟩
 rw [hWb2] at hxs hks
 have HXb2 := Lib.hid hxs
 have HKAb2 := Lib.hid hks
 have HWb2 := Lib.hid hWb2
 clear hfs hxs hks hWb2
 go_wp2_with fail
 rw [HWb2.out]
 clear z f
 refine (xiread_any (pr + 1) D s2 s9 s3 N L Wb2 HXb2.out.1 (fun e => by have := HND.out _ e; omega) (fun d hd => by have := HND.out d hd; have := lt_of_block HKAb2.out; omega) HN9.out HLX.out HN16.out).mono ?_
 rintro e w6 ⟨vi, rfl, ho, hl16, hok, hx⟩
 obtain ⟨Ai, ci, rfl, hci1, hci2, hrd, _⟩ := own_slice ho
 have HIQ : Hid (∀ a, Ai = some a → a.block ≠ pr ∧ a.block ≠ pr + 1 ∧ a.block ≠ pa) := Lib.hid (fun a ha => by
  obtain ⟨hbk, _⟩ := own_block ho (k := a.block) (by rw [ha]; rfl)
  have := lt_of_block HKAb2.out
  omega)
 have HBD : Hid (BdL L) := Lib.hid ⟨fun z hz => by have := hok z hz; unfold OkP at this; exact ⟨by omega, by omega, by omega⟩, by omega⟩
 have HX6 := Lib.hid (HXb2.out.turn hx.1 hx.2 HPR.out)
 have HKA6 := Lib.hid (hx.2.keep0 HKAb2.out (by simp; omega))
 have HRD6 := Lib.hid hrd
 obtain ⟨OK1, hOK1⟩ : ∃ b, (!s3.2 && mayI L) = b := ⟨_, rfl⟩
 rw [hOK1] at HUN ⊢
 have HOK := Lib.hid hOK1
 clear ho hl16 hok hx hrd hOK1 hci1 hci2
 have z := cell_at HKA6.out 2
 have f := frozen_at HKA6.out 2
 have hfs : Fr 0 [] [pa] w6 (w6.setCell ⟨pa, 2, none⟩ (.slice Ai L.length ci)) := (Fr.refl w6).setCell (p := ⟨pa, 2, none⟩) _ (Nat.zero_le _) (.inl (by simp))
 have hxs := HX6.out.fr hfs (HX6.out.2.2.setCell (p := ⟨pa, 2, none⟩) (by have := HPR.out; simp; omega) _) (by omega) (fun e => by have := HND.out _ e; omega) (by omega)
 have hks : (w6.setCell ⟨pa, 2, none⟩ (.slice Ai L.length ci)).heap[pa]? = some (.cells #[.int .i64 n1, .int .i64 n2, .slice Ai L.length ci, .int .i64 0, .int .i64 0, .int .i64 0, .int .i64 0, .int .i64 0, .int .i64 0, .int .i64 0, .string { data := #[] }, .slice none 0 0, .int .i64 0, .int .i64 0, .int .i64 0, .int .i64 0] 29 (0, 0)) := by rw [block_set HKA6.out]; rfl
 have HRDs := Lib.hid (HRD6.out.frame hfs (fun hn a ha => by have := HIQ.out a ha; simp; omega))
 obtain ⟨W7, hW7⟩ : ∃ W, w6.setCell ⟨pa, 2, none⟩ (.slice Ai L.length ci) = W := ⟨_, rfl⟩
 rw [hW7] at hxs hks HRDs
 have HX7 := Lib.hid hxs
 have HKA7 := Lib.hid hks
 have HW7 := Lib.hid hW7
 have HRD7 := HRDs
 clear hfs hxs hks hW7 HRDs
 go_wp2_with fail
 rw [HW7.out]
 clear z f
 have HTXT := rttext_any (pr + 1) D s3 262144 W7 HX7.out.1 (fun e => by have := HND.out _ e; omega)
 rw [HTXE.out] at HTXT
 have hbt : ∀ b ∈ tx, b < 256 := by
  obtain ⟨_, _, _, _, _, _, _, h6, _⟩ := HX7.out.1
  have := (rtextT_lt h6 262144).1
  rw [HTXE.out] at this
  exact this
 have HBT := Lib.hid hbt
 refine HTXT.mono ?_
 rintro e w8 ⟨rfl, hT, hf⟩
 have HX8 := Lib.hid (HX7.out.turn hT hf HPR.out)
 have HKA8 := Lib.hid (hf.keep0 HKA7.out (by simp; omega))
 have HRD8 := Lib.hid (HRD7.out.frame hf (fun hn a ha => by have := HIQ.out a ha; simp; omega))
 obtain ⟨T, hT⟩ : ∃ T, strOf tx = T := ⟨_, rfl⟩
 simp only
 rw [hT]
 have HNT : Hid (natsOf T = tx) := Lib.hid (by rw [← hT]; exact natsOf_strOf' HBT.out)
 have HTS : Hid (T.size ≤ 262144) := Lib.hid (by rw [← hT, strOf_size']; exact HLT.out)
 have HTL : Hid (T.toList.length = tx.length) := Lib.hid (by
  rw [Lib.toList_data, ← HNT.out, natsOf_length]
  exact Array.length_toList)
 clear hf hT hbt HTXT
 have a0 := cell_at HKA8.out 0
 have HHa := Lib.hid (fun W => xmhasf_any n1 97 W)
 have HHy := Lib.hid (fun W => xmhasf_any n1 121 W)
 simp only [HBY.out] at HHy
 cases hBAA : hasM n1 97 with
 | false =>
  have HBAA := Lib.hid hBAA
  simp only [hBAA] at HHa
  clear hBAA
  go_wp2_with fail
  refine (HHa.out w8).mono ?_
  rintro e w9 ⟨rfl, hb⟩
  have HX9 := Lib.hid (HX8.out.keepC hb)
  have HKA9 := Lib.hid ((hb.block _ (lt_of_block HKA8.out)).trans HKA8.out)
  have HRD9 := Lib.hid (HRD8.out.below hb)
  clear hb a0
  have HRA9 : Hid (Rd w9 2 none zeroK.items.length (zeroK.items.flatMap encI)) := Lib.hid Rd.nil
  have HAQ : Hid (∀ a, (none : Option Addr) = some a → 0 < zeroK.items.length → a.block ≠ pr ∧ a.block ≠ pr + 1 ∧ a.block ≠ pa) := Lib.hid (fun a ha => by cases ha)
  have HBA : Hid (BdL zeroK.items) := Lib.hid ⟨fun z hz => (by cases hz), by simp [zeroK]⟩
  have HGA : Hid (zeroK.good.size ≤ 9223372036854775807) := Lib.hid (by simp [zeroK])
  have a0 := cell_at HKA9.out 0
  cases OK1
  case false =>
   go_wp2_with fail
   refine (HHy.out w9).mono ?_
   rintro e wy ⟨rfl, hb⟩
   have HXy := Lib.hid (HX9.out.keepC hb)
   have HKAy := Lib.hid ((hb.block _ (lt_of_block HKA9.out)).trans HKA9.out)
   have HRDy := Lib.hid (HRD9.out.below hb)
   have HRAy := Lib.hid (HRA9.out.below hb)
   clear hb
   have HY : Hid (yT bdYX n1 s4 = ([0, 0, 0, 0], s4)) := Lib.hid (by unfold yT; rw [if_neg (by rw [HBY.out]; simp)])
   have HU := HUN.out _ _ HY.out
   have HUH := Lib.hid HU
   clear HU
   have HRZ := Lib.hid HXy.out.2.1
   have HBN := Lib.hid HXy.out.2.2
   have HUU : Hid (unXM bs = none) := Lib.hid (by rw [HUH.out]; exact if_neg (fun h => by cases h.1))
   obtain ⟨W9, h9, k9, hF, hB, hth⟩ := mail_storeS HRZ.out (.int .i64 0) (.int .i64 0) (.slice none 0 0) (.int .i64 0) (.int .i64 0) (.int .i64 0) (.int .i64 0) (.int .i64 0) (.int .i64 0) (.int .i64 0) (.string { data := #[] }) (.slice none 0 0) (.int .i64 0) (.int .i64 0) (.int .i64 0) (.int .i64 0)
   go_wp2_with (refine wpList_store_mid rfl 29 (.tmp 2) (.tmp 90) rfl _ 0 #[.int .i64 0, .int .i64 0, .slice none 0 0, .int .i64 0, .int .i64 0, .int .i64 0, .int .i64 0, .int .i64 0, .int .i64 0, .int .i64 0, .string { data := #[] }, .slice none 0 0, .int .i64 0, .int .i64 0, .int .i64 0, .int .i64 0] rfl rfl hth (by kernel_rfl) (by simp [Value.oneCell']) ?_; rw [h9])
   refine bodyPost_ret (v := .tuple #[.agg #[.int .i64 0, .int .i64 0, .slice none 0 0, .int .i64 0, .int .i64 0, .int .i64 0, .int .i64 0, .int .i64 0, .int .i64 0, .int .i64 0, .string { data := #[] }, .slice none 0 0, .int .i64 0, .int .i64 0, .int .i64 0, .int .i64 0], .bool false]) (mail_results rfl rfl rfl k9) rfl ?_
   exact ⟨fun a ha => (by rw [HUU.out] at ha; cases ha), fun _ => ⟨rfl, HBN.out.trans (hB _ (by have := HPR.out; omega))⟩⟩
  case true =>
   by_cases htz : tx = []
   · have HAA : Hid (xaskT n1 tx = some zeroK) := Lib.hid (by unfold xaskT; rw [if_neg (by rw [HBAA.out]; simp), if_pos htz])
     have HOK1 : Hid (true = true) := Lib.hid rfl
     have hT0 : T.toList = [] := List.eq_nil_of_length_eq_zero (by rw [HTL.out, htz]; rfl)
     have hTe : (T.toList == []) = true := by rw [hT0]; rfl
     clear htz hT0
     go_wp2_with fail
     clear hTe
     refine (HHy.out w9).mono ?_
     rintro e wy ⟨rfl, hb⟩
     have HXy := Lib.hid (HX9.out.keepC hb)
     have HKAy := Lib.hid ((hb.block _ (lt_of_block HKA9.out)).trans HKA9.out)
     have HRDy := Lib.hid (HRD9.out.below hb)
     have HRAy := Lib.hid (HRA9.out.below hb)
     clear hb
     have HY : Hid (yT bdYX n1 s4 = ([0, 0, 0, 0], s4)) := Lib.hid (by unfold yT; rw [if_neg (by rw [HBY.out]; simp)])
     have HU := HUN.out _ _ HY.out
     have HUH := Lib.hid HU
     clear HU
     have HRZ := Lib.hid HXy.out.2.1
     have HBN := Lib.hid HXy.out.2.2
     obtain ⟨⟨b8, bad⟩, hs8⟩ : ∃ x, s4 = x := ⟨_, rfl⟩
     have hX8 := HXy.out
     rw [hs8] at hX8
     have HS8 := Lib.hid hs8
     obtain ⟨⟨Aq, cq, hq, hqc, hqm, _⟩, _⟩ := hX8
     simp only at hq hqc
     have hq0 := cell_at hq 0
     have hq1 := cell_at hq 1
     have hqc2 : b8.length ≤ 9223372036854775807 := by unfold maxLen at hqm; omega
     obtain ⟨nb8, hnb8⟩ : ∃ n, b8.length = n := ⟨_, rfl⟩
     have HNB8 := Lib.hid hnb8
     rw [hnb8] at hq0 hqc2
     clear hs8 hq hqc hqm hnb8
     cases bad
     case true =>
      clear hqc2
      have HUU : Hid (unXM bs = none) := Lib.hid (by rw [HUH.out]; exact if_neg (fun h => by have h3 := h.2.2.1; rw [HS8.out] at h3; cases h3))
      obtain ⟨W9, h9, k9, hF, hB, hth⟩ := mail_storeS HRZ.out (.int .i64 0) (.int .i64 0) (.slice none 0 0) (.int .i64 0) (.int .i64 0) (.int .i64 0) (.int .i64 0) (.int .i64 0) (.int .i64 0) (.int .i64 0) (.string { data := #[] }) (.slice none 0 0) (.int .i64 0) (.int .i64 0) (.int .i64 0) (.int .i64 0)
      go_wp2_with (refine wpList_store_mid rfl 29 (.tmp 2) (.tmp 90) rfl _ 0 #[.int .i64 0, .int .i64 0, .slice none 0 0, .int .i64 0, .int .i64 0, .int .i64 0, .int .i64 0, .int .i64 0, .int .i64 0, .int .i64 0, .string { data := #[] }, .slice none 0 0, .int .i64 0, .int .i64 0, .int .i64 0, .int .i64 0] rfl rfl hth (by kernel_rfl) (by simp [Value.oneCell']) ?_; rw [h9])
      refine bodyPost_ret (v := .tuple #[.agg #[.int .i64 0, .int .i64 0, .slice none 0 0, .int .i64 0, .int .i64 0, .int .i64 0, .int .i64 0, .int .i64 0, .int .i64 0, .int .i64 0, .string { data := #[] }, .slice none 0 0, .int .i64 0, .int .i64 0, .int .i64 0, .int .i64 0], .bool false]) (mail_results rfl rfl rfl k9) rfl ?_
      exact ⟨fun a ha => (by rw [HUU.out] at ha; cases ha), fun _ => ⟨rfl, HBN.out.trans (hB _ (by have := HPR.out; omega))⟩⟩
     case false =>
      by_cases hz : nb8 = 0
      · subst hz
        have HMAY : Hid (Calls Try.prog 15 #[.agg #[.int .i64 n1, .int .i64 n2, .slice Ai L.length ci, .int .i64 0, .int .i64 0, .int .i64 0, .int .i64 0, .int .i64 0, .int .i64 0, .int .i64 0, .string { data := #[] }, .slice none 0 0, .int .i64 0, .int .i64 0, .int .i64 0, .int .i64 0]] wy fun e W' => e = .returned (.bool (mayM (⟨n1, n2, L, zeroK, 0, 0, 0, 0⟩ : Ml))) ∧ Below wy.heap.size wy W') := Lib.hid (xmmay_any (⟨n1, n2, L, zeroK, 0, 0, 0, 0⟩ : Ml) Ai ci none 0 wy HRDy.out HRAy.out HBD.out HBA.out HGA.out)
        obtain ⟨MA, hMA⟩ : ∃ MA, mayM (⟨n1, n2, L, zeroK, 0, 0, 0, 0⟩ : Ml) = MA := ⟨_, rfl⟩
        rw [hMA] at HMAY
        have HMA := Lib.hid hMA
        clear hMA
        have a0 := cell_at HKAy.out 0
        have a1 := cell_at HKAy.out 1
        have a2 := cell_at HKAy.out 2
        have a3 := cell_at HKAy.out 3
        have a4 := cell_at HKAy.out 4
        have a5 := cell_at HKAy.out 5
        have a6 := cell_at HKAy.out 6
        have a7 := cell_at HKAy.out 7
        have a8 := cell_at HKAy.out 8
        have a9 := cell_at HKAy.out 9
        have a10 := cell_at HKAy.out 10
        have a11 := cell_at HKAy.out 11
        have a12 := cell_at HKAy.out 12
        have a13 := cell_at HKAy.out 13
        have a14 := cell_at HKAy.out 14
        have a15 := cell_at HKAy.out 15
        go_wp2_with fail
        refine HMAY.out.mono ?_
        rintro e w21 ⟨rfl, hb⟩
        replace HRZ := Lib.hid ((hb.block _ (lt_of_block HRZ.out)).trans HRZ.out)
        have HKX := Lib.hid ((hb.block _ (lt_of_block HKAy.out)).trans HKAy.out)
        have HRDX := Lib.hid (HRDy.out.below hb)
        have HRAX := Lib.hid (HRAy.out.below hb)
        replace HBN := Lib.hid (HBN.out.trans (hb.mono HBN.out.size))
        clear hb a0 a1 a2 a3 a4 a5 a6 a7 a8 a9 a10 a11 a12 a13 a14 a15 hq0 hq1
        cases MA
        case false =>
         have HUU : Hid (unXM bs = none) := Lib.hid (by rw [HUH.out, HAA.out]; exact if_neg (fun h => by have h2 := h.2.2.2; rw [show mayM (mlOf [n1, n2] L ((some zeroK).getD zeroK) [0, 0, 0, 0]) = false from HMA.out] at h2; cases h2))
         obtain ⟨W9, h9, k9, hF, hB, hth⟩ := mail_storeS HRZ.out (.int .i64 0) (.int .i64 0) (.slice none 0 0) (.int .i64 0) (.int .i64 0) (.int .i64 0) (.int .i64 0) (.int .i64 0) (.int .i64 0) (.int .i64 0) (.string { data := #[] }) (.slice none 0 0) (.int .i64 0) (.int .i64 0) (.int .i64 0) (.int .i64 0)
         go_wp2_with (refine wpList_store_mid rfl 29 (.tmp 2) (.tmp 90) rfl _ 0 #[.int .i64 0, .int .i64 0, .slice none 0 0, .int .i64 0, .int .i64 0, .int .i64 0, .int .i64 0, .int .i64 0, .int .i64 0, .int .i64 0, .string { data := #[] }, .slice none 0 0, .int .i64 0, .int .i64 0, .int .i64 0, .int .i64 0] rfl rfl hth (by kernel_rfl) (by simp [Value.oneCell']) ?_; rw [h9])
         refine bodyPost_ret (v := .tuple #[.agg #[.int .i64 0, .int .i64 0, .slice none 0 0, .int .i64 0, .int .i64 0, .int .i64 0, .int .i64 0, .int .i64 0, .int .i64 0, .int .i64 0, .string { data := #[] }, .slice none 0 0, .int .i64 0, .int .i64 0, .int .i64 0, .int .i64 0], .bool false]) (mail_results rfl rfl rfl k9) rfl ?_
         exact ⟨fun a ha => (by rw [HUU.out] at ha; cases ha), fun _ => ⟨rfl, HBN.out.trans (hB _ (by have := HPR.out; omega))⟩⟩
        case true =>
         have HUU : Hid (unXM bs = some (⟨n1, n2, L, zeroK, 0, 0, 0, 0⟩ : Ml)) := Lib.hid (by rw [HUH.out, HAA.out]; exact if_pos ⟨HOK1.out, rfl, by rw [HS8.out]; exact Prod.ext (List.eq_nil_of_length_eq_zero HNB8.out) rfl, HMA.out⟩)
         obtain ⟨W9, h9, k9, hF, hB, hth⟩ := mail_storeS HRZ.out (.int .i64 n1) (.int .i64 n2) (.slice Ai L.length ci) (.int .i64 0) (.int .i64 0) (.int .i64 0) (.int .i64 0) (.int .i64 0) (.int .i64 0) (.int .i64 0) (.string { data := #[] }) (.slice none 0 0) (.int .i64 0) (.int .i64 0) (.int .i64 0) (.int .i64 0)
         go_wp2_with (first | (refine wpList_load_row rfl 29 (.tmp 5) rfl _ rfl 29 #[.int .i64 n1, .int .i64 n2, .slice Ai L.length ci, .int .i64 0, .int .i64 0, .int .i64 0, .int .i64 0, .int .i64 0, .int .i64 0, .int .i64 0, .string { data := #[] }, .slice none 0 0, .int .i64 0, .int .i64 0, .int .i64 0, .int .i64 0] (0, 0) _ HKX.out Try.underlying29 rfl (by kernel_rfl) ?_) | (refine wpList_store_mid rfl 29 (.tmp 2) (.tmp 91) rfl _ 0 #[.int .i64 n1, .int .i64 n2, .slice Ai L.length ci, .int .i64 0, .int .i64 0, .int .i64 0, .int .i64 0, .int .i64 0, .int .i64 0, .int .i64 0, .string { data := #[] }, .slice none 0 0, .int .i64 0, .int .i64 0, .int .i64 0, .int .i64 0] rfl rfl hth (by kernel_rfl) (by simp [Value.oneCell']) ?_; rw [h9]))
         refine bodyPost_ret (v := .tuple #[.agg #[.int .i64 n1, .int .i64 n2, .slice Ai L.length ci, .int .i64 0, .int .i64 0, .int .i64 0, .int .i64 0, .int .i64 0, .int .i64 0, .int .i64 0, .string { data := #[] }, .slice none 0 0, .int .i64 0, .int .i64 0, .int .i64 0, .int .i64 0], .bool true]) (mail_results rfl rfl rfl k9) rfl ?_
         refine ⟨fun m hm => ?_, fun h => by rw [HUU.out] at h; cases h⟩
         rw [HUU.out] at hm
         injection hm with hm
         subst hm
         refine ⟨Ai, ci, none, 0, by first | rfl | simp, HRDX.out.frame hF (fun hn a ha => ?_), HRAX.out.frame hF (fun hn a ha => ?_), HBN.out.trans (hB _ (by have := HPR.out; omega))⟩
         · have := HIQ.out a ha
           simp
           omega
         · cases ha
      · have hz2 : 0 < nb8 := by omega
        have hz3 : decide (0 < nb8) = true := by simp; omega
        have HUU : Hid (unXM bs = none) := Lib.hid (by rw [HUH.out]; exact if_neg (fun h => by have h3 := h.2.2.1; rw [HS8.out] at h3; injection h3 with h3 _; rw [h3] at HNB8; exact hz HNB8.out.symm))
        obtain ⟨W9, h9, k9, hF, hB, hth⟩ := mail_storeS HRZ.out (.int .i64 0) (.int .i64 0) (.slice none 0 0) (.int .i64 0) (.int .i64 0) (.int .i64 0) (.int .i64 0) (.int .i64 0) (.int .i64 0) (.int .i64 0) (.string { data := #[] }) (.slice none 0 0) (.int .i64 0) (.int .i64 0) (.int .i64 0) (.int .i64 0)
        go_wp2_with (refine wpList_store_mid rfl 29 (.tmp 2) (.tmp 90) rfl _ 0 #[.int .i64 0, .int .i64 0, .slice none 0 0, .int .i64 0, .int .i64 0, .int .i64 0, .int .i64 0, .int .i64 0, .int .i64 0, .int .i64 0, .string { data := #[] }, .slice none 0 0, .int .i64 0, .int .i64 0, .int .i64 0, .int .i64 0] rfl rfl hth (by kernel_rfl) (by simp [Value.oneCell']) ?_; rw [h9])
        refine bodyPost_ret (v := .tuple #[.agg #[.int .i64 0, .int .i64 0, .slice none 0 0, .int .i64 0, .int .i64 0, .int .i64 0, .int .i64 0, .int .i64 0, .int .i64 0, .int .i64 0, .string { data := #[] }, .slice none 0 0, .int .i64 0, .int .i64 0, .int .i64 0, .int .i64 0], .bool false]) (mail_results rfl rfl rfl k9) rfl ?_
        exact ⟨fun a ha => (by rw [HUU.out] at ha; cases ha), fun _ => ⟨rfl, HBN.out.trans (hB _ (by have := HPR.out; omega))⟩⟩
   · have HAA : Hid (xaskT n1 tx = none) := Lib.hid (by unfold xaskT; rw [if_neg (by rw [HBAA.out]; simp), if_neg htz])
     have hT0 : T.toList ≠ [] := fun h => htz (List.eq_nil_of_length_eq_zero (by rw [← HTL.out, h]; rfl))
     have hTe : (T.toList == []) = false := beq_eq_false_iff_ne.2 hT0
     clear htz hT0
     go_wp2_with fail
     clear hTe
     refine (HHy.out w9).mono ?_
     rintro e wy ⟨rfl, hb⟩
     have HXy := Lib.hid (HX9.out.keepC hb)
     have HKAy := Lib.hid ((hb.block _ (lt_of_block HKA9.out)).trans HKA9.out)
     have HRDy := Lib.hid (HRD9.out.below hb)
     have HRAy := Lib.hid (HRA9.out.below hb)
     clear hb
     have HY : Hid (yT bdYX n1 s4 = ([0, 0, 0, 0], s4)) := Lib.hid (by unfold yT; rw [if_neg (by rw [HBY.out]; simp)])
     have HU := HUN.out _ _ HY.out
     have HUH := Lib.hid HU
     clear HU
     have HRZ := Lib.hid HXy.out.2.1
     have HBN := Lib.hid HXy.out.2.2
     have HUU : Hid (unXM bs = none) := Lib.hid (by rw [HUH.out]; exact if_neg (fun h => by have h2 := h.2.1; rw [HAA.out] at h2; cases h2))
     obtain ⟨W9, h9, k9, hF, hB, hth⟩ := mail_storeS HRZ.out (.int .i64 0) (.int .i64 0) (.slice none 0 0) (.int .i64 0) (.int .i64 0) (.int .i64 0) (.int .i64 0) (.int .i64 0) (.int .i64 0) (.int .i64 0) (.string { data := #[] }) (.slice none 0 0) (.int .i64 0) (.int .i64 0) (.int .i64 0) (.int .i64 0)
     go_wp2_with (refine wpList_store_mid rfl 29 (.tmp 2) (.tmp 90) rfl _ 0 #[.int .i64 0, .int .i64 0, .slice none 0 0, .int .i64 0, .int .i64 0, .int .i64 0, .int .i64 0, .int .i64 0, .int .i64 0, .int .i64 0, .string { data := #[] }, .slice none 0 0, .int .i64 0, .int .i64 0, .int .i64 0, .int .i64 0] rfl rfl hth (by kernel_rfl) (by simp [Value.oneCell']) ?_; rw [h9])
     refine bodyPost_ret (v := .tuple #[.agg #[.int .i64 0, .int .i64 0, .slice none 0 0, .int .i64 0, .int .i64 0, .int .i64 0, .int .i64 0, .int .i64 0, .int .i64 0, .int .i64 0, .string { data := #[] }, .slice none 0 0, .int .i64 0, .int .i64 0, .int .i64 0, .int .i64 0], .bool false]) (mail_results rfl rfl rfl k9) rfl ?_
     exact ⟨fun a ha => (by rw [HUU.out] at ha; cases ha), fun _ => ⟨rfl, HBN.out.trans (hB _ (by have := HPR.out; omega))⟩⟩
 | true =>
  have HBAA := Lib.hid hBAA
  simp only [hBAA] at HHa
  clear hBAA
  go_wp2_with fail
  refine (HHa.out w8).mono ?_
  rintro e w9 ⟨rfl, hb⟩
  have HX9 := Lib.hid (HX8.out.keepC hb)
  have HKA9 := Lib.hid ((hb.block _ (lt_of_block HKA8.out)).trans HKA8.out)
  have HRD9 := Lib.hid (HRD8.out.below hb)
  clear hb a0
  obtain ⟨cb, Wb, hconv, hbs, hbb, hsb⟩ := str_bytes w9 T (by have := HTS.out; unfold maxLen; omega)
  rw [HNT.out] at hbs
  have hts : T.size = tx.length := by rw [← HNT.out, natsOf_length]
  rw [hts] at hconv hbs
  obtain ⟨Ab, cb2, eb, kb1, kb2, kb3⟩ := hbs
  cases eb
  have HBB := Lib.hid hbb
  have HKB1 := Lib.hid (And.intro kb1 (And.intro kb2 kb3))
  clear hbb hsb hts kb1 kb2 kb3
  go_wp2_with fail
  refine (xadec_one _ cb tx Wb HKB1.out.1 HKB1.out.2.1 HKB1.out.2.2 HBT.out (.inr ⟨_, _, rfl⟩)).mono ?_
  rintro e w17 ⟨ak, Ak, ck, isok, rfl, hra, hb, hcase, hbd, hgd⟩
  have HCASE := Lib.hid hcase
  have HBA := Lib.hid hbd
  have HGA := Lib.hid hgd
  have HBW : Hid (Below w9.heap.size w9 w17) := Lib.hid (HBB.out.trans (hb.mono HBB.out.size))
  have HX17 := Lib.hid (HX9.out.keepC HBW.out)
  have HKA17 := Lib.hid ((HBW.out.block _ (lt_of_block HKA9.out)).trans HKA9.out)
  have HRD17 := Lib.hid (HRD9.out.below HBW.out)
  have HAQ : Hid (∀ a, Ak = some a → 0 < ak.items.length → a.block ≠ pr ∧ a.block ≠ pr + 1 ∧ a.block ≠ pa) := Lib.hid (fun a ha hn => by
   obtain ⟨Ap, cp, hpb, _⟩ := HX17.out.1
   exact ⟨fun e => rd_no hra ha hn (e ▸ HX17.out.2.1) (fun j s k h1 h2 => by
    match j, h1, h2 with
    | 0, h1, _ => simp at h1
    | 1, h1, _ => simp at h1
    | 2, h1, _ => simp at h1
    | 3, h1, _ => simp at h1
    | 4, h1, _ => simp at h1
    | 5, h1, _ => simp at h1
    | 6, h1, _ => simp at h1
    | 7, h1, _ => simp at h1
    | 8, h1, _ => simp at h1
    | 9, h1, _ => simp at h1
    | 10, _, h2 => simp at h2
    | 11, h1, _ => simp at h1
    | 12, h1, _ => simp at h1
    | 13, h1, _ => simp at h1
    | 14, h1, _ => simp at h1
    | 15, h1, _ => simp at h1
    | j + 16, h1, _ => simp at h1), fun e => rd_no hra ha hn (e ▸ hpb) (fun j s k h1 h2 => by match j, h1, h2 with
    | 0, h1, _ => simp at h1
    | 1, h1, _ => simp at h1
    | j + 2, h1, _ => simp at h1), fun e => rd_no hra ha hn (e ▸ HKA17.out) (fun j s k h1 h2 => by
    match j, h1, h2 with
    | 0, h1, _ => simp at h1
    | 1, h1, _ => simp at h1
    | 2, h1, _ => simp at h1
    | 3, h1, _ => simp at h1
    | 4, h1, _ => simp at h1
    | 5, h1, _ => simp at h1
    | 6, h1, _ => simp at h1
    | 7, h1, _ => simp at h1
    | 8, h1, _ => simp at h1
    | 9, h1, _ => simp at h1
    | 10, _, h2 => simp at h2
    | 11, h1, _ => simp at h1
    | 12, h1, _ => simp at h1
    | 13, h1, _ => simp at h1
    | 14, h1, _ => simp at h1
    | 15, h1, _ => simp at h1
    | j + 16, h1, _ => simp at h1)⟩)
  have HRA17 := Lib.hid hra
  -- the request's own cell
  have hbz := (Below.refl w17.heap.size w17).alloc (Nat.le_refl _) (.cells #[.int .i64 0, .int .i64 0, .int .i64 0, .int .i64 0, .int .i64 0, .int .i64 0, .int .i64 0, .string { data := #[] }, .slice none 0 0] 24)
  have hkb := block_new w17 (.cells #[.int .i64 0, .int .i64 0, .int .i64 0, .int .i64 0, .int .i64 0, .int .i64 0, .int .i64 0, .string { data := #[] }, .slice none 0 0] 24)
  have hkl := lt_of_block HKA17.out
  have hka := (hbz.block _ hkl).trans HKA17.out
  have p0 := cell_at hkb 0
  have pf0 := frozen_at hkb 0
  have p1 := cell_at hkb 1
  have pf1 := frozen_at hkb 1
  have p2 := cell_at hkb 2
  have pf2 := frozen_at hkb 2
  have p3 := cell_at hkb 3
  have pf3 := frozen_at hkb 3
  have p4 := cell_at hkb 4
  have pf4 := frozen_at hkb 4
  have p5 := cell_at hkb 5
  have pf5 := frozen_at hkb 5
  have p6 := cell_at hkb 6
  have pf6 := frozen_at hkb 6
  have p7 := cell_at hkb 7
  have pf7 := frozen_at hkb 7
  have p8 := cell_at hkb 8
  have pf8 := frozen_at hkb 8
  have z3 := cell_at hka 3
  have f3 := frozen_at hka 3
  have v3 := cell_at HKA17.out 3
  have vf3 := frozen_at HKA17.out 3
  have z4 := cell_at hka 4
  have f4 := frozen_at hka 4
  have v4 := cell_at HKA17.out 4
  have vf4 := frozen_at HKA17.out 4
  have z5 := cell_at hka 5
  have f5 := frozen_at hka 5
  have v5 := cell_at HKA17.out 5
  have vf5 := frozen_at HKA17.out 5
  have z6 := cell_at hka 6
  have f6 := frozen_at hka 6
  have v6 := cell_at HKA17.out 6
  have vf6 := frozen_at HKA17.out 6
  have z7 := cell_at hka 7
  have f7 := frozen_at hka 7
  have v7 := cell_at HKA17.out 7
  have vf7 := frozen_at HKA17.out 7
  have z8 := cell_at hka 8
  have f8 := frozen_at hka 8
  have v8 := cell_at HKA17.out 8
  have vf8 := frozen_at HKA17.out 8
  have z9 := cell_at hka 9
  have f9 := frozen_at hka 9
  have v9 := cell_at HKA17.out 9
  have vf9 := frozen_at HKA17.out 9
  have z10 := cell_at hka 10
  have f10 := frozen_at hka 10
  have v10 := cell_at HKA17.out 10
  have vf10 := frozen_at HKA17.out 10
  have z11 := cell_at hka 11
  have f11 := frozen_at hka 11
  have v11 := cell_at HKA17.out 11
  have vf11 := frozen_at HKA17.out 11
  have z0 := cell_at hka 0
  have v0 := cell_at HKA17.out 0
  obtain ⟨Wd, hWd, kd, hFd, hBd, _⟩ := mail_storeA HKA17.out (.int .i64 ak.client) (.int .i64 ak.number) (.int .i64 ak.kind) (.int .i64 ak.order) (.int .i64 ak.region) (.int .i64 ak.to) (.int .i64 ak.n) (.string ak.good) (.slice Ak ak.items.length ck)
  have hxd := HX17.out.fr hFd (HX17.out.2.2.trans (hBd _ (by have := HPR.out; omega))) (by omega) (fun e => by have := HND.out _ e; omega) (by omega)
  have hrdd := HRD17.out.frame hFd (fun hn a ha => by have := HIQ.out a ha; simp; omega)
  have hrad := HRA17.out.frame hFd (fun hn a ha => by have := HAQ.out a ha hn; simp; omega)
  have hbe := (Below.refl Wd.heap.size Wd).alloc (Nat.le_refl _) (.cells #[.int .i64 ak.client, .int .i64 ak.number, .int .i64 ak.kind, .int .i64 ak.order, .int .i64 ak.region, .int .i64 ak.to, .int .i64 ak.n, .string ak.good, .slice Ak ak.items.length ck] 24)
  have hxe := hxd.keepC hbe
  have hke := (hbe.block _ (lt_of_block kd)).trans kd
  have hrde := hrdd.below hbe
  have hrae := hrad.below hbe
  obtain ⟨We, hWe⟩ : ∃ We, Wd.alloc (.cells #[.int .i64 ak.client, .int .i64 ak.number, .int .i64 ak.kind, .int .i64 ak.order, .int .i64 ak.region, .int .i64 ak.to, .int .i64 ak.n, .string ak.good, .slice Ak ak.items.length ck] 24) = We := ⟨_, rfl⟩
  rw [hWe] at hxe hke hrde hrae
  have HXe := Lib.hid hxe
  have HKAe := Lib.hid hke
  have HRDe := Lib.hid hrde
  have HRAe := Lib.hid hrae
  have HWd := Lib.hid hWd
  have HWe := Lib.hid hWe
  clear hbz hkb hka hxd hrdd hrad hbe hxe hke hrde hrae hWd hWe kd hFd hBd hra hb hcase hbd hgd hconv
  cases OK1
  case false =>
   go_upto_region 13 with fail
   rw [HWd.out]
   rw [HWe.out]
   clear p0 pf0 p1 pf1 p2 pf2 p3 pf3 p4 pf4 p5 pf5 p6 pf6 p7 pf7 p8 pf8 z3 f3 v3 vf3 z4 f4 v4 vf4 z5 f5 v5 vf5 z6 f6 v6 vf6 z7 f7 v7 vf7 z8 f8 v8 vf8 z9 f9 v9 vf9 z10 f10 v10 vf10 z11 f11 v11 vf11 z0 v0 hkl
   have a0 := cell_at HKAe.out 0
   go_wp2_with fail
   refine (HHy.out We).mono ?_
   rintro e wy ⟨rfl, hb⟩
   have HXy := Lib.hid (HXe.out.keepC hb)
   have HKAy := Lib.hid ((hb.block _ (lt_of_block HKAe.out)).trans HKAe.out)
   have HRDy := Lib.hid (HRDe.out.below hb)
   have HRAy := Lib.hid (HRAe.out.below hb)
   clear hb
   have HY : Hid (yT bdYX n1 s4 = ([0, 0, 0, 0], s4)) := Lib.hid (by unfold yT; rw [if_neg (by rw [HBY.out]; simp)])
   have HU := HUN.out _ _ HY.out
   have HUH := Lib.hid HU
   clear HU
   have HRZ := Lib.hid HXy.out.2.1
   have HBN := Lib.hid HXy.out.2.2
   have HUU : Hid (unXM bs = none) := Lib.hid (by rw [HUH.out]; exact if_neg (fun h => by cases h.1))
   obtain ⟨W9, h9, k9, hF, hB, hth⟩ := mail_storeS HRZ.out (.int .i64 0) (.int .i64 0) (.slice none 0 0) (.int .i64 0) (.int .i64 0) (.int .i64 0) (.int .i64 0) (.int .i64 0) (.int .i64 0) (.int .i64 0) (.string { data := #[] }) (.slice none 0 0) (.int .i64 0) (.int .i64 0) (.int .i64 0) (.int .i64 0)
   go_wp2_with (refine wpList_store_mid rfl 29 (.tmp 2) (.tmp 90) rfl _ 0 #[.int .i64 0, .int .i64 0, .slice none 0 0, .int .i64 0, .int .i64 0, .int .i64 0, .int .i64 0, .int .i64 0, .int .i64 0, .int .i64 0, .string { data := #[] }, .slice none 0 0, .int .i64 0, .int .i64 0, .int .i64 0, .int .i64 0] rfl rfl hth (by kernel_rfl) (by simp [Value.oneCell']) ?_; rw [h9])
   refine bodyPost_ret (v := .tuple #[.agg #[.int .i64 0, .int .i64 0, .slice none 0 0, .int .i64 0, .int .i64 0, .int .i64 0, .int .i64 0, .int .i64 0, .int .i64 0, .int .i64 0, .string { data := #[] }, .slice none 0 0, .int .i64 0, .int .i64 0, .int .i64 0, .int .i64 0], .bool false]) (mail_results rfl rfl rfl k9) rfl ?_
   exact ⟨fun a ha => (by rw [HUU.out] at ha; cases ha), fun _ => ⟨rfl, HBN.out.trans (hB _ (by have := HPR.out; omega))⟩⟩
  case true =>
   rcases HCASE.out with ⟨ha, rfl⟩ | ⟨ha, rfl⟩
   · have HAA : Hid (xaskT n1 tx = some ak) := Lib.hid (by unfold xaskT; rw [if_pos HBAA.out]; exact ha)
     have HOK1 : Hid (true = true) := Lib.hid rfl
     clear ha
     go_upto_region 13 with fail
     rw [HWd.out]
     rw [HWe.out]
     clear p0 pf0 p1 pf1 p2 pf2 p3 pf3 p4 pf4 p5 pf5 p6 pf6 p7 pf7 p8 pf8 z3 f3 v3 vf3 z4 f4 v4 vf4 z5 f5 v5 vf5 z6 f6 v6 vf6 z7 f7 v7 vf7 z8 f8 v8 vf8 z9 f9 v9 vf9 z10 f10 v10 vf10 z11 f11 v11 vf11 z0 v0 hkl
     have a0 := cell_at HKAe.out 0
     go_wp2_with fail
     refine (HHy.out We).mono ?_
     rintro e wy ⟨rfl, hb⟩
     have HXy := Lib.hid (HXe.out.keepC hb)
     have HKAy := Lib.hid ((hb.block _ (lt_of_block HKAe.out)).trans HKAe.out)
     have HRDy := Lib.hid (HRDe.out.below hb)
     have HRAy := Lib.hid (HRAe.out.below hb)
     clear hb
     have HY : Hid (yT bdYX n1 s4 = ([0, 0, 0, 0], s4)) := Lib.hid (by unfold yT; rw [if_neg (by rw [HBY.out]; simp)])
     have HU := HUN.out _ _ HY.out
     have HUH := Lib.hid HU
     clear HU
     have HRZ := Lib.hid HXy.out.2.1
     have HBN := Lib.hid HXy.out.2.2
     obtain ⟨⟨b8, bad⟩, hs8⟩ : ∃ x, s4 = x := ⟨_, rfl⟩
     have hX8 := HXy.out
     rw [hs8] at hX8
     have HS8 := Lib.hid hs8
     obtain ⟨⟨Aq, cq, hq, hqc, hqm, _⟩, _⟩ := hX8
     simp only at hq hqc
     have hq0 := cell_at hq 0
     have hq1 := cell_at hq 1
     have hqc2 : b8.length ≤ 9223372036854775807 := by unfold maxLen at hqm; omega
     obtain ⟨nb8, hnb8⟩ : ∃ n, b8.length = n := ⟨_, rfl⟩
     have HNB8 := Lib.hid hnb8
     rw [hnb8] at hq0 hqc2
     clear hs8 hq hqc hqm hnb8
     cases bad
     case true =>
      clear hqc2
      have HUU : Hid (unXM bs = none) := Lib.hid (by rw [HUH.out]; exact if_neg (fun h => by have h3 := h.2.2.1; rw [HS8.out] at h3; cases h3))
      obtain ⟨W9, h9, k9, hF, hB, hth⟩ := mail_storeS HRZ.out (.int .i64 0) (.int .i64 0) (.slice none 0 0) (.int .i64 0) (.int .i64 0) (.int .i64 0) (.int .i64 0) (.int .i64 0) (.int .i64 0) (.int .i64 0) (.string { data := #[] }) (.slice none 0 0) (.int .i64 0) (.int .i64 0) (.int .i64 0) (.int .i64 0)
      go_wp2_with (refine wpList_store_mid rfl 29 (.tmp 2) (.tmp 90) rfl _ 0 #[.int .i64 0, .int .i64 0, .slice none 0 0, .int .i64 0, .int .i64 0, .int .i64 0, .int .i64 0, .int .i64 0, .int .i64 0, .int .i64 0, .string { data := #[] }, .slice none 0 0, .int .i64 0, .int .i64 0, .int .i64 0, .int .i64 0] rfl rfl hth (by kernel_rfl) (by simp [Value.oneCell']) ?_; rw [h9])
      refine bodyPost_ret (v := .tuple #[.agg #[.int .i64 0, .int .i64 0, .slice none 0 0, .int .i64 0, .int .i64 0, .int .i64 0, .int .i64 0, .int .i64 0, .int .i64 0, .int .i64 0, .string { data := #[] }, .slice none 0 0, .int .i64 0, .int .i64 0, .int .i64 0, .int .i64 0], .bool false]) (mail_results rfl rfl rfl k9) rfl ?_
      exact ⟨fun a ha => (by rw [HUU.out] at ha; cases ha), fun _ => ⟨rfl, HBN.out.trans (hB _ (by have := HPR.out; omega))⟩⟩
     case false =>
      by_cases hz : nb8 = 0
      · subst hz
        have HMAY : Hid (Calls Try.prog 15 #[.agg #[.int .i64 n1, .int .i64 n2, .slice Ai L.length ci, .int .i64 ak.client, .int .i64 ak.number, .int .i64 ak.kind, .int .i64 ak.order, .int .i64 ak.region, .int .i64 ak.to, .int .i64 ak.n, .string ak.good, .slice Ak ak.items.length ck, .int .i64 0, .int .i64 0, .int .i64 0, .int .i64 0]] wy fun e W' => e = .returned (.bool (mayM (⟨n1, n2, L, ak, 0, 0, 0, 0⟩ : Ml))) ∧ Below wy.heap.size wy W') := Lib.hid (xmmay_any (⟨n1, n2, L, ak, 0, 0, 0, 0⟩ : Ml) Ai ci Ak ck wy HRDy.out HRAy.out HBD.out HBA.out HGA.out)
        obtain ⟨MA, hMA⟩ : ∃ MA, mayM (⟨n1, n2, L, ak, 0, 0, 0, 0⟩ : Ml) = MA := ⟨_, rfl⟩
        rw [hMA] at HMAY
        have HMA := Lib.hid hMA
        clear hMA
        have a0 := cell_at HKAy.out 0
        have a1 := cell_at HKAy.out 1
        have a2 := cell_at HKAy.out 2
        have a3 := cell_at HKAy.out 3
        have a4 := cell_at HKAy.out 4
        have a5 := cell_at HKAy.out 5
        have a6 := cell_at HKAy.out 6
        have a7 := cell_at HKAy.out 7
        have a8 := cell_at HKAy.out 8
        have a9 := cell_at HKAy.out 9
        have a10 := cell_at HKAy.out 10
        have a11 := cell_at HKAy.out 11
        have a12 := cell_at HKAy.out 12
        have a13 := cell_at HKAy.out 13
        have a14 := cell_at HKAy.out 14
        have a15 := cell_at HKAy.out 15
        go_wp2_with fail
        refine HMAY.out.mono ?_
        rintro e w21 ⟨rfl, hb⟩
        replace HRZ := Lib.hid ((hb.block _ (lt_of_block HRZ.out)).trans HRZ.out)
        have HKX := Lib.hid ((hb.block _ (lt_of_block HKAy.out)).trans HKAy.out)
        have HRDX := Lib.hid (HRDy.out.below hb)
        have HRAX := Lib.hid (HRAy.out.below hb)
        replace HBN := Lib.hid (HBN.out.trans (hb.mono HBN.out.size))
        clear hb a0 a1 a2 a3 a4 a5 a6 a7 a8 a9 a10 a11 a12 a13 a14 a15 hq0 hq1
        cases MA
        case false =>
         have HUU : Hid (unXM bs = none) := Lib.hid (by rw [HUH.out, HAA.out]; exact if_neg (fun h => by have h2 := h.2.2.2; rw [show mayM (mlOf [n1, n2] L ((some ak).getD zeroK) [0, 0, 0, 0]) = false from HMA.out] at h2; cases h2))
         obtain ⟨W9, h9, k9, hF, hB, hth⟩ := mail_storeS HRZ.out (.int .i64 0) (.int .i64 0) (.slice none 0 0) (.int .i64 0) (.int .i64 0) (.int .i64 0) (.int .i64 0) (.int .i64 0) (.int .i64 0) (.int .i64 0) (.string { data := #[] }) (.slice none 0 0) (.int .i64 0) (.int .i64 0) (.int .i64 0) (.int .i64 0)
         go_wp2_with (refine wpList_store_mid rfl 29 (.tmp 2) (.tmp 90) rfl _ 0 #[.int .i64 0, .int .i64 0, .slice none 0 0, .int .i64 0, .int .i64 0, .int .i64 0, .int .i64 0, .int .i64 0, .int .i64 0, .int .i64 0, .string { data := #[] }, .slice none 0 0, .int .i64 0, .int .i64 0, .int .i64 0, .int .i64 0] rfl rfl hth (by kernel_rfl) (by simp [Value.oneCell']) ?_; rw [h9])
         refine bodyPost_ret (v := .tuple #[.agg #[.int .i64 0, .int .i64 0, .slice none 0 0, .int .i64 0, .int .i64 0, .int .i64 0, .int .i64 0, .int .i64 0, .int .i64 0, .int .i64 0, .string { data := #[] }, .slice none 0 0, .int .i64 0, .int .i64 0, .int .i64 0, .int .i64 0], .bool false]) (mail_results rfl rfl rfl k9) rfl ?_
         exact ⟨fun a ha => (by rw [HUU.out] at ha; cases ha), fun _ => ⟨rfl, HBN.out.trans (hB _ (by have := HPR.out; omega))⟩⟩
        case true =>
         have HUU : Hid (unXM bs = some (⟨n1, n2, L, ak, 0, 0, 0, 0⟩ : Ml)) := Lib.hid (by rw [HUH.out, HAA.out]; exact if_pos ⟨HOK1.out, rfl, by rw [HS8.out]; exact Prod.ext (List.eq_nil_of_length_eq_zero HNB8.out) rfl, HMA.out⟩)
         obtain ⟨W9, h9, k9, hF, hB, hth⟩ := mail_storeS HRZ.out (.int .i64 n1) (.int .i64 n2) (.slice Ai L.length ci) (.int .i64 ak.client) (.int .i64 ak.number) (.int .i64 ak.kind) (.int .i64 ak.order) (.int .i64 ak.region) (.int .i64 ak.to) (.int .i64 ak.n) (.string ak.good) (.slice Ak ak.items.length ck) (.int .i64 0) (.int .i64 0) (.int .i64 0) (.int .i64 0)
         go_wp2_with (first | (refine wpList_load_row rfl 29 (.tmp 5) rfl _ rfl 29 #[.int .i64 n1, .int .i64 n2, .slice Ai L.length ci, .int .i64 ak.client, .int .i64 ak.number, .int .i64 ak.kind, .int .i64 ak.order, .int .i64 ak.region, .int .i64 ak.to, .int .i64 ak.n, .string ak.good, .slice Ak ak.items.length ck, .int .i64 0, .int .i64 0, .int .i64 0, .int .i64 0] (0, 0) _ HKX.out Try.underlying29 rfl (by kernel_rfl) ?_) | (refine wpList_store_mid rfl 29 (.tmp 2) (.tmp 91) rfl _ 0 #[.int .i64 n1, .int .i64 n2, .slice Ai L.length ci, .int .i64 ak.client, .int .i64 ak.number, .int .i64 ak.kind, .int .i64 ak.order, .int .i64 ak.region, .int .i64 ak.to, .int .i64 ak.n, .string ak.good, .slice Ak ak.items.length ck, .int .i64 0, .int .i64 0, .int .i64 0, .int .i64 0] rfl rfl hth (by kernel_rfl) (by simp [Value.oneCell']) ?_; rw [h9]))
         refine bodyPost_ret (v := .tuple #[.agg #[.int .i64 n1, .int .i64 n2, .slice Ai L.length ci, .int .i64 ak.client, .int .i64 ak.number, .int .i64 ak.kind, .int .i64 ak.order, .int .i64 ak.region, .int .i64 ak.to, .int .i64 ak.n, .string ak.good, .slice Ak ak.items.length ck, .int .i64 0, .int .i64 0, .int .i64 0, .int .i64 0], .bool true]) (mail_results rfl rfl rfl k9) rfl ?_
         refine ⟨fun m hm => ?_, fun h => by rw [HUU.out] at h; cases h⟩
         rw [HUU.out] at hm
         injection hm with hm
         subst hm
         refine ⟨Ai, ci, Ak, ck, by first | rfl | simp, HRDX.out.frame hF (fun hn a ha => ?_), HRAX.out.frame hF (fun hn a ha => ?_), HBN.out.trans (hB _ (by have := HPR.out; omega))⟩
         · have := HIQ.out a ha
           simp
           omega
         · have := HAQ.out a ha hn
           simp
           omega
      · have hz2 : 0 < nb8 := by omega
        have hz3 : decide (0 < nb8) = true := by simp; omega
        have HUU : Hid (unXM bs = none) := Lib.hid (by rw [HUH.out]; exact if_neg (fun h => by have h3 := h.2.2.1; rw [HS8.out] at h3; injection h3 with h3 _; rw [h3] at HNB8; exact hz HNB8.out.symm))
        obtain ⟨W9, h9, k9, hF, hB, hth⟩ := mail_storeS HRZ.out (.int .i64 0) (.int .i64 0) (.slice none 0 0) (.int .i64 0) (.int .i64 0) (.int .i64 0) (.int .i64 0) (.int .i64 0) (.int .i64 0) (.int .i64 0) (.string { data := #[] }) (.slice none 0 0) (.int .i64 0) (.int .i64 0) (.int .i64 0) (.int .i64 0)
        go_wp2_with (refine wpList_store_mid rfl 29 (.tmp 2) (.tmp 90) rfl _ 0 #[.int .i64 0, .int .i64 0, .slice none 0 0, .int .i64 0, .int .i64 0, .int .i64 0, .int .i64 0, .int .i64 0, .int .i64 0, .int .i64 0, .string { data := #[] }, .slice none 0 0, .int .i64 0, .int .i64 0, .int .i64 0, .int .i64 0] rfl rfl hth (by kernel_rfl) (by simp [Value.oneCell']) ?_; rw [h9])
        refine bodyPost_ret (v := .tuple #[.agg #[.int .i64 0, .int .i64 0, .slice none 0 0, .int .i64 0, .int .i64 0, .int .i64 0, .int .i64 0, .int .i64 0, .int .i64 0, .int .i64 0, .string { data := #[] }, .slice none 0 0, .int .i64 0, .int .i64 0, .int .i64 0, .int .i64 0], .bool false]) (mail_results rfl rfl rfl k9) rfl ?_
        exact ⟨fun a ha => (by rw [HUU.out] at ha; cases ha), fun _ => ⟨rfl, HBN.out.trans (hB _ (by have := HPR.out; omega))⟩⟩
   · have HAA : Hid (xaskT n1 tx = none) := Lib.hid (by unfold xaskT; rw [if_pos HBAA.out]; exact ha)
     clear ha
     go_upto_region 13 with fail
     rw [HWd.out]
     rw [HWe.out]
     clear p0 pf0 p1 pf1 p2 pf2 p3 pf3 p4 pf4 p5 pf5 p6 pf6 p7 pf7 p8 pf8 z3 f3 v3 vf3 z4 f4 v4 vf4 z5 f5 v5 vf5 z6 f6 v6 vf6 z7 f7 v7 vf7 z8 f8 v8 vf8 z9 f9 v9 vf9 z10 f10 v10 vf10 z11 f11 v11 vf11 z0 v0 hkl
     have a0 := cell_at HKAe.out 0
     go_wp2_with fail
     refine (HHy.out We).mono ?_
     rintro e wy ⟨rfl, hb⟩
     have HXy := Lib.hid (HXe.out.keepC hb)
     have HKAy := Lib.hid ((hb.block _ (lt_of_block HKAe.out)).trans HKAe.out)
     have HRDy := Lib.hid (HRDe.out.below hb)
     have HRAy := Lib.hid (HRAe.out.below hb)
     clear hb
     have HY : Hid (yT bdYX n1 s4 = ([0, 0, 0, 0], s4)) := Lib.hid (by unfold yT; rw [if_neg (by rw [HBY.out]; simp)])
     have HU := HUN.out _ _ HY.out
     have HUH := Lib.hid HU
     clear HU
     have HRZ := Lib.hid HXy.out.2.1
     have HBN := Lib.hid HXy.out.2.2
     have HUU : Hid (unXM bs = none) := Lib.hid (by rw [HUH.out]; exact if_neg (fun h => by have h2 := h.2.1; rw [HAA.out] at h2; cases h2))
     obtain ⟨W9, h9, k9, hF, hB, hth⟩ := mail_storeS HRZ.out (.int .i64 0) (.int .i64 0) (.slice none 0 0) (.int .i64 0) (.int .i64 0) (.int .i64 0) (.int .i64 0) (.int .i64 0) (.int .i64 0) (.int .i64 0) (.string { data := #[] }) (.slice none 0 0) (.int .i64 0) (.int .i64 0) (.int .i64 0) (.int .i64 0)
     go_wp2_with (refine wpList_store_mid rfl 29 (.tmp 2) (.tmp 90) rfl _ 0 #[.int .i64 0, .int .i64 0, .slice none 0 0, .int .i64 0, .int .i64 0, .int .i64 0, .int .i64 0, .int .i64 0, .int .i64 0, .int .i64 0, .string { data := #[] }, .slice none 0 0, .int .i64 0, .int .i64 0, .int .i64 0, .int .i64 0] rfl rfl hth (by kernel_rfl) (by simp [Value.oneCell']) ?_; rw [h9])
     refine bodyPost_ret (v := .tuple #[.agg #[.int .i64 0, .int .i64 0, .slice none 0 0, .int .i64 0, .int .i64 0, .int .i64 0, .int .i64 0, .int .i64 0, .int .i64 0, .int .i64 0, .string { data := #[] }, .slice none 0 0, .int .i64 0, .int .i64 0, .int .i64 0, .int .i64 0], .bool false]) (mail_results rfl rfl rfl k9) rfl ?_
     exact ⟨fun a ha => (by rw [HUU.out] at ha; cases ha), fun _ => ⟨rfl, HBN.out.trans (hB _ (by have := HPR.out; omega))⟩⟩
end Go.Proofs.Ytpccbobomppdbaa
