/- The contracts of the reference's digits and Num: the digits of any number, the cell of any number, in new memory. -/
import Derived.Test.YtjgdcdojigcefaaCNum
namespace Go.Proofs.Ytjgdcdojigcefaa
open Go.RowKit

theorem digF_more (f u : Nat) (h : u < 256 ^ f) : digF (f + 1) u = digF f u := by
  induction f generalizing u with
  | zero => simp at h; subst h; simp [digF]
  | succ f ih =>
    by_cases h0 : u = 0
    · subst h0
      rw [digF_zero, digF_zero]
    · have e1 : digF (f + 1 + 1) u = digF (f + 1) (u / 256) ++ [u % 256] := by rw [digF, if_neg h0]
      have e2 : digF (f + 1) u = digF f (u / 256) ++ [u % 256] := by rw [digF, if_neg h0]
      rw [e1, e2, ih (u / 256) (by rw [Nat.div_lt_iff_lt_mul (by omega), ← Nat.pow_succ]; exact h)]
theorem dig_step (u : Nat) (h : u < 18446744073709551616) (h0 : 0 < u) : dig u = dig (u / 256) ++ [u % 256] := by
  unfold dig
  rw [digF, if_neg (by omega), digF_more 7 (u / 256) (by have : (256 : Nat) ^ 7 = 72057594037927936 := by rfl
                                                         omega)]
theorem dig_nil : dig 0 = [] := digF_zero 8
theorem u8_one (bs : List Nat) : ∀ u ∈ bs.map u8v, u.oneCell' = true := by
  intro u hu
  obtain ⟨b, _, rfl⟩ := List.mem_map.1 hu
  rfl
theorem Bs.own_lt {w : World} {B e : Nat} {v : Value} {n : Nat} {bs : List Nat} (h : w.ownsRow B e 1 v n (bs.map u8v)) : Bs w v bs := by
  have : bs.length = n := by simpa using h.1
  subst this
  exact Bs.of_own h

/-- What holds between two rounds of digits. -/
def DigRel (w : World) (U : Nat) (u o : Value) (wr : World) : Prop := ∃ (m : Nat) (bs : List Nat), u = .int .u64 m ∧ m ≤ U ∧ dig U = dig m ++ bs ∧ Bs wr o bs ∧ Below w.heap.size w wr

set_option maxRecDepth 100000 in
set_option maxHeartbeats 2000000 in
theorem digits_any (U : Nat) (w : World) (hU : U < 18446744073709551616) : Calls Try.prog 72 #[.int .u64 U] w (RetB (dig U) w) := by
  obtain ⟨i0, hi0, hz0, hz1, hz2⟩ := info_parts Try.infoByte
  go_enter Try.func72, Try.ntmps72
  go_wp2_with fail
  go_loopw [0, 3] (fun u o wr => DigRel w U u o wr) (fun u _ _ => (intOf u).toNat)
  case atStart => exact ⟨U, [], rfl, Nat.le_refl _, by simp, ⟨none, 0, rfl, Nat.le_refl _, Nat.zero_le _, by simp, fun h => absurd h (by simp)⟩, Below.refl _ _⟩
  case round =>
    obtain ⟨m, bs, rfl, hm, hd, ⟨A, c, rfl, hbc, hcm, hrd⟩, hb⟩ := hrel
    have HC := Lib.hid hcm
    have HD := Lib.hid hd
    have HR := Lib.hid hrd
    have hbl : bs.length ≤ 8 := by
      have h1 := congrArg List.length hd
      have h2 := dig_le U
      simp at h1
      omega
    clear hcm hd hrd
    by_cases h0 : m = 0
    · subst h0
      go_wp2
      go_ret
      refine ⟨_, rfl, ?_, hb⟩
      rw [HD.out, dig_nil, List.nil_append]
      exact ⟨A, c, rfl, hbc, HC.out, HR.out⟩
    · have hpos : 0 < m := by omega
      go_wp2_with (at_builtin
                   refine wpList_append_rd _ rfl (.tmp 9) (.tmp 10) 26 rfl wr.heap.size 5 i0 (.int .u8 0) 1 1 Try.underlying26 hi0 hz0 hz1 hz2 rfl (by decide) (.slice (some ⟨wr.heap.size, 0, none⟩) 1 1) 1 ([m % 256].map u8v) rfl (own_byte wr _ (m % 256) (by omega)) A bs.length c (bs.map u8v) rfl (HR.out.below ((Below.refl _ _).alloc (Nat.le_refl _) _)) (u8_one bs) (by unfold maxLen; omega) (by omega) (by simp) ?_
                   intro v5 w5 hown5 hgrow5 _
                   have HO5 := Lib.hid hown5
                   have HG5 := Lib.hid hgrow5
                   clear hown5 hgrow5)
      go_roundw
      case rel =>
        have f5 : Fr wr.heap.size [5] [] wr w5 := ((Fr.refl wr).alloc _).grown HG5.out (fun j hj => by
          simp [Value.ownBlock] at hj
          subst hj
          exact ⟨Nat.le_refl _, .inr ⟨_, _, _, block_new _ _, by simp⟩⟩)
        refine ⟨m / 256, m % 256 :: bs, by go_num, by omega, ?_, Bs.own_lt (bs := m % 256 :: bs) (by simpa using HO5.out), hb.trans ((f5.below (Nat.le_refl _)).mono hb.size)⟩
        rw [HD.out, dig_step m (by omega) hpos, List.append_assoc]
        rfl
      case measure => simp [intOf]; omega

/-- A call that hands back bytes in new memory that is the caller's own. -/
def RetN (bs : List Nat) (w : World) (e : Ending) (w' : World) : Prop := ∃ v, e = .returned v ∧ w'.ownsRow w.heap.size 5 1 v bs.length (bs.map u8v) ∧ Below w.heap.size w w'
theorem own_base {w : World} {B B' e n : Nat} {v : Value} {bs : List Nat} (h : w.ownsRow B e 1 v n (bs.map u8v)) (hB : B' ≤ B) : w.ownsRow B' e 1 v bs.length (bs.map u8v) := by
  have hl : bs.length = n := by simpa using h.1
  subst hl
  refine ⟨h.1, ?_⟩
  rcases h.2 with h | ⟨g, cap, cur, h1, h2, h3⟩
  · exact .inl h
  · exact .inr ⟨g, cap, cur, h1, Nat.le_trans hB h2, h3⟩

set_option maxRecDepth 100000 in
set_option maxHeartbeats 400000 in
theorem rnum_small (n : Int) (w : World) (h0 : 0 ≤ n) (h1 : n < 128) : Calls Try.prog 63 #[.int .i64 n] w (RetN (numB n) w) := by
  have hn : numB n = [n.toNat] := by unfold numB; rw [if_pos ⟨h0, h1⟩]
  have HN := Lib.hid hn
  clear hn
  go_enter Try.func63, Try.ntmps63
  go_wp2
  go_ret
  refine ⟨_, rfl, ?_, (Below.refl _ _).alloc (Nat.le_refl _) _⟩
  rw [HN.out]
  exact own_byte w n n.toNat (by omega)

set_option maxRecDepth 100000 in
set_option maxHeartbeats 2000000 in
theorem rnum_pos (n : Int) (w : World) (h0 : 128 ≤ n) (h1 : n ≤ 9223372036854775807) : Calls Try.prog 63 #[.int .i64 n] w (RetN (numB n) w) := by
  obtain ⟨i0, hi0, hz0, hz1, hz2⟩ := info_parts Try.infoByte
  have hnum : numB n = (128 + (dig n.toNat).length) :: dig n.toNat := by
    unfold numB
    rw [if_neg (by omega), if_pos (by omega)]
  have HNum := Lib.hid hnum
  clear hnum
  obtain ⟨u, rfl⟩ : ∃ u : Nat, n = u := ⟨n.toNat, by omega⟩
  go_enter Try.func63, Try.ntmps63
  go_wp2_with fail
  refine (digits_any u w (by omega)).mono ?_
  rintro e w1 ⟨v, rfl, ⟨A, c, rfl, hbc, hcm, hrd⟩, hb⟩
  have hd8 := dig_le u
  have HR := Lib.hid hrd
  clear hcm hrd h0 h1
  obtain ⟨d, hdd⟩ : ∃ d, (dig u).length = d := ⟨_, rfl⟩
  have HDD := Lib.hid hdd
  rw [hdd] at hd8 hbc
  simp only [hdd]
  clear hdd
  go_wp2_with (at_builtin
               refine wpList_append_rd _ rfl (.tmp 28) (.tmp 29) 26 rfl w1.heap.size 5 i0 (.int .u8 0) 1 1 Try.underlying26 hi0 hz0 hz1 hz2 rfl (by decide) (.slice (some ⟨w1.heap.size, 0, none⟩) 1 1) 1 ([128 + d].map u8v) rfl (own_byte w1 _ (128 + d) (by omega)) A d c ((dig u).map u8v) rfl ((HDD.out ▸ HR.out : Rd w1 1 A d ((dig u).map u8v)).below ((Below.refl _ _).alloc (Nat.le_refl _) _)) (u8_one _) (by unfold maxLen; omega) (by omega) (by simp) ?_
               intro v5 w5 hown5 hgrow5 _
               have HO5 := Lib.hid hown5
               have HG5 := Lib.hid hgrow5
               clear hown5 hgrow5)
  go_ret
  refine ⟨_, rfl, ?_, ?_⟩
  · rw [HNum.out]
    exact own_base (bs := (128 + (dig u).length) :: dig u) (B := w1.heap.size) (n := 1 + d) (by rw [HDD.out]; simpa using HO5.out) hb.size
  · have f5 : Fr w1.heap.size [5] [] w1 w5 := ((Fr.refl w1).alloc _).grown HG5.out (fun j hj => by
      simp [Value.ownBlock] at hj
      subst hj
      exact ⟨Nat.le_refl _, .inr ⟨_, _, _, block_new _ _, by simp⟩⟩)
    exact hb.trans ((f5.below (Nat.le_refl _)).mono hb.size)

set_option maxRecDepth 100000 in
set_option maxHeartbeats 2000000 in
theorem rnum_neg (n : Int) (w : World) (h0 : n < 0) (h1 : -9223372036854775808 ≤ n) : Calls Try.prog 63 #[.int .i64 n] w (RetN (numB n) w) := by
  obtain ⟨i0, hi0, hz0, hz1, hz2⟩ := info_parts Try.infoByte
  have hnum : numB n = (144 + (dig (-1 - n).toNat).length) :: dig (-1 - n).toNat := by
    unfold numB
    rw [if_neg (by omega), if_neg (by omega)]
  have HNum := Lib.hid hnum
  have hwrap : IntKind.u64.wrap n = ((n + 18446744073709551616).toNat : Int) := by
    simp only [IntKind.wrap, IntKind.bits, IntKind.signed]
    simp
    omega
  have HW := Lib.hid hwrap
  clear hnum hwrap
  have d0 : decide (n < 0) = true := by simpa using h0
  have d1 : decide (0 ≤ n) = false := by simp; omega
  have H0 := Lib.hid h0
  have H1 := Lib.hid h1
  clear h0 h1
  go_enter Try.func63, Try.ntmps63
  go_wp2_with fail
  rw [HW.out]
  have h0 := H0.out
  have h1 := H1.out
  refine (digits_any _ w (by omega)).mono ?_
  rintro e w1 ⟨v, rfl, _, hb1⟩
  obtain ⟨u, hu⟩ : ∃ u : Nat, n = -1 - u := ⟨(-1 - n).toNat, by omega⟩
  subst hu
  clear HW H0 H1 d0 d1
  have HNum' : Hid (numB (-1 - (u : Int)) = (144 + (dig u).length) :: dig u) := by
    have := HNum.out
    rw [show (-1 - (-1 - (u : Int))).toNat = u by omega] at this
    exact this
  clear HNum
  go_wp2_with fail
  rw [show (-1 - (-1 - (u : Int))) = u by omega]
  refine (digits_any u w1 (by omega)).mono ?_
  rintro e w2 ⟨v2, rfl, ⟨A, c, rfl, hbc, hcm, hrd⟩, hb⟩
  have hd8 := dig_le u
  have HR := Lib.hid hrd
  clear hcm hrd h0 h1
  obtain ⟨d, hdd⟩ : ∃ d, (dig u).length = d := ⟨_, rfl⟩
  have HDD := Lib.hid hdd
  rw [hdd] at hd8 hbc
  simp only [hdd]
  clear hdd
  go_wp2_with (at_builtin
               refine wpList_append_rd _ rfl (.tmp 28) (.tmp 29) 26 rfl w2.heap.size 5 i0 (.int .u8 0) 1 1 Try.underlying26 hi0 hz0 hz1 hz2 rfl (by decide) (.slice (some ⟨w2.heap.size, 0, none⟩) 1 1) 1 ([144 + d].map u8v) rfl (own_byte w2 _ (144 + d) (by omega)) A d c ((dig u).map u8v) rfl ((HDD.out ▸ HR.out : Rd w2 1 A d ((dig u).map u8v)).below ((Below.refl _ _).alloc (Nat.le_refl _) _)) (u8_one _) (by unfold maxLen; omega) (by omega) (by simp) ?_
               intro v5 w5 hown5 hgrow5 _
               have HO5 := Lib.hid hown5
               have HG5 := Lib.hid hgrow5
               clear hown5 hgrow5)
  go_ret
  refine ⟨_, rfl, ?_, ?_⟩
  · rw [HNum'.out]
    exact own_base (bs := (144 + (dig u).length) :: dig u) (B := w2.heap.size) (n := 1 + d) (by rw [HDD.out]; simpa using HO5.out) (Nat.le_trans hb1.size hb.size)
  · have f5 : Fr w2.heap.size [5] [] w2 w5 := ((Fr.refl w2).alloc _).grown HG5.out (fun j hj => by
      simp [Value.ownBlock] at hj
      subst hj
      exact ⟨Nat.le_refl _, .inr ⟨_, _, _, block_new _ _, by simp⟩⟩)
    exact hb1.trans ((hb.trans ((f5.below (Nat.le_refl _)).mono hb.size)).mono hb1.size)

theorem rnum_own (n : Int) (w : World) (h : I64 n) : Calls Try.prog 63 #[.int .i64 n] w (RetN (numB n) w) := by
  by_cases h0 : n < 0
  · exact rnum_neg n w h0 h.1
  · by_cases h1 : n < 128
    · exact rnum_small n w (by omega) h1
    · exact rnum_pos n w (by omega) h.2
theorem rnum_any (n : Int) (w : World) (h : I64 n) : Calls Try.prog 63 #[.int .i64 n] w (RetB (numB n) w) :=
  (rnum_own n w h).mono fun _ _ ⟨v, he, ho, hb⟩ => ⟨v, he, Bs.own_lt ho, hb⟩

end Go.Proofs.Ytjgdcdojigcefaa
