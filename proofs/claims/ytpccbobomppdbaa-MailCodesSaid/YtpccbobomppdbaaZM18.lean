/- Joined: The contracts of the reference's digits and Num: the digits of any number, the cell of any number, in new memory. The contracts of the reference's Maker. Text, of makers and takers and of the reference's maker. -/
import Derived.Test.YtpccbobomppdbaaZM3
import Derived.Test.YtpccbobomppdbaaZM17
namespace Go.Proofs.Ytpccbobomppdbaa
open Go.RowKit

theorem digF_more (f u : Nat) (h : u < 256 ^ f) : digF (f + 1) u = digF f u := by
  induction f generalizing u with
  | zero => simp at h; subst h; simp [digF]
  | succ f ih =>
    by_cases h0 : u = 0
    · subst h0
      rw [digF_zero, digF_zero]
    · have e1 : digF (f + 1 + 1) u = digF (f + 1) (u / 256) ++ [u % 256] := by rw [digF, if_neg h0]
      have e2 : digF (f + 1) u = digF f (u / 256) ++ [u % 256] := by rw [digF, if_neg h0]
      rw [e1, e2, ih (u / 256) (by rw [Nat.div_lt_iff_lt_mul (by omega), ← Nat.pow_succ]; exact h)]
theorem dig_step (u : Nat) (h : u < 18446744073709551616) (h0 : 0 < u) : dig u = dig (u / 256) ++ [u % 256] := by
  unfold dig
  rw [digF, if_neg (by omega), digF_more 7 (u / 256) (by have : (256 : Nat) ^ 7 = 72057594037927936 := by rfl
                                                         omega)]
theorem dig_nil : dig 0 = [] := digF_zero 8
theorem u8_one (bs : List Nat) : ∀ u ∈ bs.map u8v, u.oneCell' = true := by
  intro u hu
  obtain ⟨b, _, rfl⟩ := List.mem_map.1 hu
  rfl
theorem Bs.own_lt {w : World} {B e : Nat} {v : Value} {n : Nat} {bs : List Nat} (h : w.ownsRow B e 1 v n (bs.map u8v)) : Bs w v bs := by
  have : bs.length = n := by simpa using h.1
  subst this
  exact Bs.of_own h

/-- What holds between two rounds of digits. -/
def DigRel (w : World) (U : Nat) (u o : Value) (wr : World) : Prop := ∃ (m : Nat) (bs : List Nat), u = .int .u64 m ∧ m ≤ U ∧ dig U = dig m ++ bs ∧ Bs wr o bs ∧ Below w.heap.size w wr

set_option maxRecDepth 100000 in
set_option maxHeartbeats 2000000 in
theorem digits_any (U : Nat) (w : World) (hU : U < 18446744073709551616) : Calls Try.prog 82 #[.int .u64 U] w (RetB (dig U) w) := by
  obtain ⟨i0, hi0, hz0, hz1, hz2⟩ := info_parts Try.infoByte
  go_enter Try.func82, Try.ntmps82
  go_wp2_with fail
  go_loopw [0, 3] (fun u o wr => DigRel w U u o wr) (fun u _ _ => (intOf u).toNat)
  case atStart => exact ⟨U, [], rfl, Nat.le_refl _, by simp, ⟨none, 0, rfl, Nat.le_refl _, Nat.zero_le _, by simp, fun h => absurd h (by simp)⟩, Below.refl _ _⟩
  case round =>
    obtain ⟨m, bs, rfl, hm, hd, ⟨A, c, rfl, hbc, hcm, hrd⟩, hb⟩ := hrel
    have HC := Lib.hid hcm
    have HD := Lib.hid hd
    have HR := Lib.hid hrd
    have hbl : bs.length ≤ 8 := by
      have h1 := congrArg List.length hd
      have h2 := dig_le U
      simp at h1
      omega
    clear hcm hd hrd
    by_cases h0 : m = 0
    · subst h0
      go_wp2
      go_ret
      refine ⟨_, rfl, ?_, hb⟩
      rw [HD.out, dig_nil, List.nil_append]
      exact ⟨A, c, rfl, hbc, HC.out, HR.out⟩
    · have hpos : 0 < m := by omega
      go_wp2_with (at_builtin
                   refine wpList_append_rd _ rfl (.tmp 9) (.tmp 10) 31 rfl wr.heap.size 5 i0 (.int .u8 0) 1 1 Try.underlying31 hi0 hz0 hz1 hz2 rfl (by decide) (.slice (some ⟨wr.heap.size, 0, none⟩) 1 1) 1 ([m % 256].map u8v) rfl (own_byte wr _ (m % 256) (by omega)) A bs.length c (bs.map u8v) rfl (HR.out.below ((Below.refl _ _).alloc (Nat.le_refl _) _)) (u8_one bs) (by unfold maxLen; omega) (by omega) (by simp) ?_
                   intro v5 w5 hown5 hgrow5 _
                   have HO5 := Lib.hid hown5
                   have HG5 := Lib.hid hgrow5
                   clear hown5 hgrow5)
      go_roundw
      case rel =>
        have f5 : Fr wr.heap.size [5] [] wr w5 := ((Fr.refl wr).alloc _).grown HG5.out (fun j hj => by
          simp [Value.ownBlock] at hj
          subst hj
          exact ⟨Nat.le_refl _, .inr ⟨_, _, _, block_new _ _, by simp⟩⟩)
        refine ⟨m / 256, m % 256 :: bs, by go_num, by omega, ?_, Bs.own_lt (bs := m % 256 :: bs) (by simpa using HO5.out), hb.trans ((f5.below (Nat.le_refl _)).mono hb.size)⟩
        rw [HD.out, dig_step m (by omega) hpos, List.append_assoc]
        rfl
      case measure => simp [intOf]; omega

/-- A call that hands back bytes in new memory that is the caller's own. -/
def RetN (bs : List Nat) (w : World) (e : Ending) (w' : World) : Prop := ∃ v, e = .returned v ∧ w'.ownsRow w.heap.size 5 1 v bs.length (bs.map u8v) ∧ Below w.heap.size w w'
theorem own_base {w : World} {B B' e n : Nat} {v : Value} {bs : List Nat} (h : w.ownsRow B e 1 v n (bs.map u8v)) (hB : B' ≤ B) : w.ownsRow B' e 1 v bs.length (bs.map u8v) := by
  have hl : bs.length = n := by simpa using h.1
  subst hl
  refine ⟨h.1, ?_⟩
  rcases h.2 with h | ⟨g, cap, cur, h1, h2, h3⟩
  · exact .inl h
  · exact .inr ⟨g, cap, cur, h1, Nat.le_trans hB h2, h3⟩

set_option maxRecDepth 100000 in
set_option maxHeartbeats 400000 in
theorem rnum_small (n : Int) (w : World) (h0 : 0 ≤ n) (h1 : n < 128) : Calls Try.prog 74 #[.int .i64 n] w (RetN (numB n) w) := by
  have hn : numB n = [n.toNat] := by unfold numB; rw [if_pos ⟨h0, h1⟩]
  have HN := Lib.hid hn
  clear hn
  go_enter Try.func74, Try.ntmps74
  go_wp2
  go_ret
  refine ⟨_, rfl, ?_, (Below.refl _ _).alloc (Nat.le_refl _) _⟩
  rw [HN.out]
  exact own_byte w n n.toNat (by omega)

set_option maxRecDepth 100000 in
set_option maxHeartbeats 2000000 in
theorem rnum_pos (n : Int) (w : World) (h0 : 128 ≤ n) (h1 : n ≤ 9223372036854775807) : Calls Try.prog 74 #[.int .i64 n] w (RetN (numB n) w) := by
  obtain ⟨i0, hi0, hz0, hz1, hz2⟩ := info_parts Try.infoByte
  have hnum : numB n = (128 + (dig n.toNat).length) :: dig n.toNat := by
    unfold numB
    rw [if_neg (by omega), if_pos (by omega)]
  have HNum := Lib.hid hnum
  clear hnum
  obtain ⟨u, rfl⟩ : ∃ u : Nat, n = u := ⟨n.toNat, by omega⟩
  go_enter Try.func74, Try.ntmps74
  go_wp2_with fail
  refine (digits_any u w (by omega)).mono ?_
  rintro e w1 ⟨v, rfl, ⟨A, c, rfl, hbc, hcm, hrd⟩, hb⟩
  have hd8 := dig_le u
  have HR := Lib.hid hrd
  clear hcm hrd h0 h1
  obtain ⟨d, hdd⟩ : ∃ d, (dig u).length = d := ⟨_, rfl⟩
  have HDD := Lib.hid hdd
  rw [hdd] at hd8 hbc
  simp only [hdd]
  clear hdd
  go_wp2_with (at_builtin
               refine wpList_append_rd _ rfl (.tmp 28) (.tmp 29) 31 rfl w1.heap.size 5 i0 (.int .u8 0) 1 1 Try.underlying31 hi0 hz0 hz1 hz2 rfl (by decide) (.slice (some ⟨w1.heap.size, 0, none⟩) 1 1) 1 ([128 + d].map u8v) rfl (own_byte w1 _ (128 + d) (by omega)) A d c ((dig u).map u8v) rfl ((HDD.out ▸ HR.out : Rd w1 1 A d ((dig u).map u8v)).below ((Below.refl _ _).alloc (Nat.le_refl _) _)) (u8_one _) (by unfold maxLen; omega) (by omega) (by simp) ?_
               intro v5 w5 hown5 hgrow5 _
               have HO5 := Lib.hid hown5
               have HG5 := Lib.hid hgrow5
               clear hown5 hgrow5)
  go_ret
  refine ⟨_, rfl, ?_, ?_⟩
  · rw [HNum.out]
    exact own_base (bs := (128 + (dig u).length) :: dig u) (B := w1.heap.size) (n := 1 + d) (by rw [HDD.out]; simpa using HO5.out) hb.size
  · have f5 : Fr w1.heap.size [5] [] w1 w5 := ((Fr.refl w1).alloc _).grown HG5.out (fun j hj => by
      simp [Value.ownBlock] at hj
      subst hj
      exact ⟨Nat.le_refl _, .inr ⟨_, _, _, block_new _ _, by simp⟩⟩)
    exact hb.trans ((f5.below (Nat.le_refl _)).mono hb.size)

set_option maxRecDepth 100000 in
set_option maxHeartbeats 2000000 in
theorem rnum_neg (n : Int) (w : World) (h0 : n < 0) (h1 : -9223372036854775808 ≤ n) : Calls Try.prog 74 #[.int .i64 n] w (RetN (numB n) w) := by
  obtain ⟨i0, hi0, hz0, hz1, hz2⟩ := info_parts Try.infoByte
  have hnum : numB n = (144 + (dig (-1 - n).toNat).length) :: dig (-1 - n).toNat := by
    unfold numB
    rw [if_neg (by omega), if_neg (by omega)]
  have HNum := Lib.hid hnum
  have hwrap : IntKind.u64.wrap n = ((n + 18446744073709551616).toNat : Int) := by
    simp only [IntKind.wrap, IntKind.bits, IntKind.signed]
    simp
    omega
  have HW := Lib.hid hwrap
  clear hnum hwrap
  have d0 : decide (n < 0) = true := by simpa using h0
  have d1 : decide (0 ≤ n) = false := by simp; omega
  have H0 := Lib.hid h0
  have H1 := Lib.hid h1
  clear h0 h1
  go_enter Try.func74, Try.ntmps74
  go_wp2_with fail
  rw [HW.out]
  have h0 := H0.out
  have h1 := H1.out
  refine (digits_any _ w (by omega)).mono ?_
  rintro e w1 ⟨v, rfl, _, hb1⟩
  obtain ⟨u, hu⟩ : ∃ u : Nat, n = -1 - u := ⟨(-1 - n).toNat, by omega⟩
  subst hu
  clear HW H0 H1 d0 d1
  have HNum' : Hid (numB (-1 - (u : Int)) = (144 + (dig u).length) :: dig u) := by
    have := HNum.out
    rw [show (-1 - (-1 - (u : Int))).toNat = u by omega] at this
    exact this
  clear HNum
  go_wp2_with fail
  rw [show (-1 - (-1 - (u : Int))) = u by omega]
  refine (digits_any u w1 (by omega)).mono ?_
  rintro e w2 ⟨v2, rfl, ⟨A, c, rfl, hbc, hcm, hrd⟩, hb⟩
  have hd8 := dig_le u
  have HR := Lib.hid hrd
  clear hcm hrd h0 h1
  obtain ⟨d, hdd⟩ : ∃ d, (dig u).length = d := ⟨_, rfl⟩
  have HDD := Lib.hid hdd
  rw [hdd] at hd8 hbc
  simp only [hdd]
  clear hdd
  go_wp2_with (at_builtin
               refine wpList_append_rd _ rfl (.tmp 28) (.tmp 29) 31 rfl w2.heap.size 5 i0 (.int .u8 0) 1 1 Try.underlying31 hi0 hz0 hz1 hz2 rfl (by decide) (.slice (some ⟨w2.heap.size, 0, none⟩) 1 1) 1 ([144 + d].map u8v) rfl (own_byte w2 _ (144 + d) (by omega)) A d c ((dig u).map u8v) rfl ((HDD.out ▸ HR.out : Rd w2 1 A d ((dig u).map u8v)).below ((Below.refl _ _).alloc (Nat.le_refl _) _)) (u8_one _) (by unfold maxLen; omega) (by omega) (by simp) ?_
               intro v5 w5 hown5 hgrow5 _
               have HO5 := Lib.hid hown5
               have HG5 := Lib.hid hgrow5
               clear hown5 hgrow5)
  go_ret
  refine ⟨_, rfl, ?_, ?_⟩
  · rw [HNum'.out]
    exact own_base (bs := (144 + (dig u).length) :: dig u) (B := w2.heap.size) (n := 1 + d) (by rw [HDD.out]; simpa using HO5.out) (Nat.le_trans hb1.size hb.size)
  · have f5 : Fr w2.heap.size [5] [] w2 w5 := ((Fr.refl w2).alloc _).grown HG5.out (fun j hj => by
      simp [Value.ownBlock] at hj
      subst hj
      exact ⟨Nat.le_refl _, .inr ⟨_, _, _, block_new _ _, by simp⟩⟩)
    exact hb1.trans ((hb.trans ((f5.below (Nat.le_refl _)).mono hb.size)).mono hb1.size)

theorem rnum_own (n : Int) (w : World) (h : I64 n) : Calls Try.prog 74 #[.int .i64 n] w (RetN (numB n) w) := by
  by_cases h0 : n < 0
  · exact rnum_neg n w h0 h.1
  · by_cases h1 : n < 128
    · exact rnum_small n w (by omega) h1
    · exact rnum_pos n w (by omega) h.2
theorem rnum_any (n : Int) (w : World) (h : I64 n) : Calls Try.prog 74 #[.int .i64 n] w (RetB (numB n) w) :=
  (rnum_own n w h).mono fun _ _ ⟨v, he, ho, hb⟩ => ⟨v, he, Bs.own_lt ho, hb⟩

end Go.Proofs.Ytpccbobomppdbaa

namespace Go.Proofs.Ytpccbobomppdbaa
open Go.RowKit

theorem Bs.rd' {w : World} {A : Option Addr} {n c : Nat} {bs : List Nat} (h : Bs w (.slice A n c) bs) : Rd w 1 A n (bs.map u8v) := by
  obtain ⟨A', c', h1, _, _, h4⟩ := h
  injection h1 with e1 e2 e3
  subst e1; subst e2
  exact h4
/-- What a call of the reference's maker leaves. -/
def RetR (q : Nat) (D : Option Nat) (s : List Nat × Bool) (w : World) (e : Ending) (w' : World) : Prop :=
  ∃ D', e = .returned (.tuple #[]) ∧ IsT w' 75 q D' s ∧ D' ≠ some q ∧ (D' = D ∨ ∀ g, D' = some g → w.heap.size ≤ g ∧ g < w'.heap.size) ∧ Fr 0 [] [q] w w'

set_option maxRecDepth 100000 in
set_option maxHeartbeats 1000000 in
theorem rput_over (q : Nat) (D : Option Nat) (s : List Nat × Bool) (v : Value) (bs : List Nat) (w : World) (hT : IsT w 75 q D s) (hD : D ≠ some q) (hv : Bs w v bs) (hl : s.2 = true ∨ 262144 - (s.1.length : Int) < bs.length) :
    Calls Try.prog 73 #[.pointer (some ⟨q, 0, none⟩), v] w (RetR q D (s.1, true) w) := by
  obtain ⟨rs, lg⟩ := s
  obtain ⟨A, c, h1, h2, h3, h4, h5, h6, h7⟩ := hT
  simp only at h1 h2 h3 h4 h5 h6 h7 hl
  have c0 : w.cell? ⟨q, 0, none⟩ = some (.slice A rs.length c) := cell_at h1 0
  have c1 : w.cell? ⟨q, 1, none⟩ = some (.bool lg) := cell_at h1 1
  have c2 := frozen_at h1 1
  have hm : c ≤ 9223372036854775807 := by unfold maxLen at h3; omega
  obtain ⟨Av, cv, rfl, k1, k2, _⟩ := hv
  have km : cv ≤ 9223372036854775807 := by unfold maxLen at k2; omega
  have HF := Lib.hid (IsT.of_set1 h1 h2 h3 h4 h5 hD h6 h7 true)
  have HD := Lib.hid hD
  clear h1 h3 h4 h5 h6 h7 hD k2
  cases lg
  · have hl' : 262144 - (rs.length : Int) < bs.length := by simpa using hl
    clear hl
    go_enter Try.func73, Try.ntmps73
    go_wp2
    go_end0
    exact ⟨D, rfl, HF.out.1, HD.out, .inl rfl, HF.out.2⟩
  · clear hl
    go_enter Try.func73, Try.ntmps73
    go_wp2
    go_end0
    exact ⟨D, rfl, HF.out.1, HD.out, .inl rfl, HF.out.2⟩

set_option maxRecDepth 100000 in
set_option maxHeartbeats 2000000 in
theorem rput_room (q : Nat) (D : Option Nat) (rs : List Nat) (v : Value) (bs : List Nat) (w : World) (hT : IsT w 75 q D (rs, false)) (hv : Bs w v bs) (hb : ∀ b ∈ bs, b < 256) (hl : ¬ 262144 - (rs.length : Int) < bs.length) :
    Calls Try.prog 73 #[.pointer (some ⟨q, 0, none⟩), v] w (RetR q D (rs ++ bs, false) w) := by
  obtain ⟨i0, hi0, hz0, hz1, hz2⟩ := info_parts Try.infoByte
  obtain ⟨A, c, h1, h2, h3, h4, h5, h6, h7⟩ := hT
  simp only at h1 h2 h3 h4 h5 h6 h7 hl
  have c0 : w.cell? ⟨q, 0, none⟩ = some (.slice A rs.length c) := cell_at h1 0
  have c1 : w.cell? ⟨q, 1, none⟩ = some (.bool false) := cell_at h1 1
  have HV := Lib.hid hv
  obtain ⟨Av, cv, rfl, k1, k2, _⟩ := hv
  have hdec : decide (262144 - (rs.length : Int) < (bs.length : Int)) = false := by simpa using hl
  have hsum : rs.length + bs.length ≤ 262144 := by omega
  have H1 := Lib.hid h1
  have H4 := Lib.hid h4
  have H6 := Lib.hid (And.intro h6 hb)
  have HOwn := Lib.hid (own_of_cells w #[] 0 (Nat.zero_le _) rfl)
  have hq := lt_of_block h1
  have b0 : Below w.heap.size w (w.alloc (.cells #[] 5)) := (Below.refl _ _).alloc (Nat.le_refl _) _
  have HB0 := Lib.hid b0
  have e1 := cell_at ((b0.block q hq).trans h1) 0
  clear h1 h3 h4 h5 h6 h7 k2 hb b0
  go_enter Try.func73, Try.ntmps73
  go_wp2_with (first
    | (at_builtin
       refine wpList_append_rd _ rfl (.tmp 23) (.tmp 27) 31 rfl w.heap.size 5 i0 (.int .u8 0) 1 1 Try.underlying31 hi0 hz0 hz1 hz2 rfl (by decide) (.slice (some ⟨w.heap.size, 0, none⟩) 0 0) 0 [] rfl HOwn.out A rs.length c (rs.map u8v) rfl (H4.out.below HB0.out) (u8_one' _) (by unfold maxLen; omega) (by omega) (by simp) ?_
       intro v2 w2 hown2 hgrow2 _
       have HO2 := Lib.hid hown2
       have hG2 := Fr.grown (B := w.heap.size) (T := [5]) (S := []) ((Fr.refl w).alloc (.cells #[] 5)) hgrow2 (fun j hj => by
         simp [Value.ownBlock] at hj
         subst hj
         exact ⟨Nat.le_refl _, .inr ⟨_, _, _, block_new _ _, by simp⟩⟩)
       have HB2 := Lib.hid (hG2.below (Nat.le_refl _))
       have hs2 : w.heap.size ≤ w2.heap.size := hG2.size
       clear hown2 hgrow2 hG2)
    | (at_builtin
       refine wpList_append_rd _ rfl (.tmp 28) (.tmp 29) 31 rfl w.heap.size 5 i0 (.int .u8 0) 1 1 Try.underlying31 hi0 hz0 hz1 hz2 rfl (by decide) _ _ _ rfl HO2.out Av bs.length cv (bs.map u8v) rfl (HV.out.rd'.below HB2.out) (u8_one' _) (by unfold maxLen; omega) (by omega) hs2 ?_
       intro v3 w3 hown3 hgrow3 _
       obtain ⟨A3, c3, rfl, g1, g2, g3, g4⟩ := own_slice hown3
       have f3 : Fr w.heap.size [5] [] w2 w3 := (Fr.refl w2).grown hgrow3 (fun j hj => by
         obtain ⟨hb, cs, hc⟩ := own_block HO2.out hj
         exact ⟨hb, .inr ⟨cs, _, _, hc, by simp⟩⟩)
       have HB3 := Lib.hid (HB2.out.trans (f3.below hs2) : Below w.heap.size w w3)
       have hq3 := (HB3.out.block q hq).trans H1.out
       have d0 : w3.cell? ⟨q, 0, none⟩ = some (.slice A rs.length c) := cell_at hq3 0
       have d2 := frozen_at hq3 0
       have HQ3 := Lib.hid hq3
       have HO3 := Lib.hid hown3
       have HG := Lib.hid (And.intro g2 (And.intro g3 g4))
       clear hown3 hgrow3 g2 g3 g4 f3 hq3))
  go_end0
  have hlen : 0 + rs.length + bs.length = (rs ++ bs).length := by simp
  obtain ⟨g2, g3, g4⟩ := HG.out
  have hfresh : ∀ d, (Value.slice A3 (0 + rs.length + bs.length) c3).ownBlock = some d → w.heap.size ≤ d ∧ d < w3.heap.size := fun d hd => by
    obtain ⟨h, cs, hc⟩ := own_block HO3.out hd
    exact ⟨h, lt_of_block hc⟩
  have hne : (Value.slice A3 (0 + rs.length + bs.length) c3).ownBlock ≠ some q := fun h => by have := hfresh q h; omega
  have hfin := IsT.of_set0 (T := 75) (D := (Value.slice A3 (0 + rs.length + bs.length) c3).ownBlock) (bs := rs ++ bs) (A := A3) (c := c3) HQ3.out (by rw [← hlen]; exact g1) g2 (by
    rw [← hlen, List.map_append]
    simpa using g3) (fun _ a ha => (g4 a ha).1) hne (fun b hb => by
    rcases List.mem_append.1 hb with h | h
    · exact H6.out.1 b h
    · exact H6.out.2 b h) (SlA.of_own HO3.out)
  rw [← hlen] at hfin
  simp only [Nat.zero_add] at hfin hne hfresh
  exact ⟨_, rfl, hfin.1, hne, .inr (fun g hg => ⟨(hfresh g hg).1, by have := (hfresh g hg).2; simpa [World.setCell] using this⟩), (Fr.of_below HB3.out).trans hfin.2⟩

theorem rput_any (q : Nat) (D : Option Nat) (s : List Nat × Bool) (v : Value) (bs : List Nat) (w : World) (hT : IsT w 75 q D s) (hD : D ≠ some q) (hv : Bs w v bs) (hb : ∀ b ∈ bs, b < 256) :
    Calls Try.prog 73 #[.pointer (some ⟨q, 0, none⟩), v] w (RetR q D (putS s bs) w) := by
  by_cases h1 : s.2 = true
  · rw [putS_long h1]; exact rput_over q D s v bs w hT hD hv (.inl h1)
  · by_cases h2 : 262144 - (s.1.length : Int) < bs.length
    · rw [putS_over h2]; exact rput_over q D s v bs w hT hD hv (.inr h2)
    · have h3 : s.2 = false := by simpa using h1
      rw [putS_fits h3 h2]
      obtain ⟨rs, lg⟩ := s
      simp only at h3
      subst h3
      exact rput_room q D rs v bs w hT hv hb h2

theorem RetR.then {q : Nat} {D : Option Nat} {s : List Nat × Bool} {w w1 w' : World} {e : Ending} (hb : Below w.heap.size w w1) (h : RetR q D s w1 e w') : RetR q D s w e w' := by
  obtain ⟨D', he, hT, hD, hg, hf⟩ := h
  refine ⟨D', he, hT, hD, ?_, (Fr.of_below hb).trans hf⟩
  rcases hg with h | h
  · exact .inl h
  · exact .inr fun g hg => ⟨Nat.le_trans hb.size (h g hg).1, (h g hg).2⟩

set_option maxHeartbeats 400000 in
theorem rmnum_any (q : Nat) (D : Option Nat) (s : List Nat × Bool) (n : Int) (w : World) (hT : IsT w 75 q D s) (hD : D ≠ some q) (hn : I64 n) :
    Calls Try.prog 44 #[.pointer (some ⟨q, 0, none⟩), .int .i64 n] w (RetR q D (putS s (numB n)) w) := by
  have HT := Lib.hid hT
  have HD := Lib.hid hD
  clear hT hD
  go_enter Try.func44, Try.ntmps44
  go_wp2_with fail
  refine (rnum_any n _ hn).mono ?_
  rintro e w1 ⟨v, rfl, hv, hb⟩
  have HV := Lib.hid hv
  have HB := Lib.hid hb
  clear hv hb
  go_wp2_with fail
  refine (rput_any q D s v (numB n) _ (HT.out.below HB.out) HD.out HV.out (numB_lt n)).mono ?_
  intro e w2 hr
  have HR := Lib.hid (RetR.then HB.out hr)
  obtain ⟨D', rfl, _⟩ := hr
  go_wp2
  go_end0
  exact HR.out

end Go.Proofs.Ytpccbobomppdbaa

namespace Go.Proofs.Ytpccbobomppdbaa
open Go.RowKit

set_option maxRecDepth 100000 in
set_option maxHeartbeats 400000 in
theorem mtext_any (p : Nat) (G : Option Nat) (s : List Nat × Bool) (t : ByteArray) (w : World) (hM : IsM w p G s) (ht : t.size ≤ 140737488351232) :
    Calls Try.prog 22 #[.pointer (some ⟨p, 0, none⟩), .string t] w (RetM p G (putS s (textB (natsOf t))) w) := by
  have HM := Lib.hid hM
  clear hM
  go_enter Try.func22, Try.ntmps22
  go_wp2_with fail
  refine (num_any _ _ ⟨by omega, by omega⟩).mono ?_
  rintro e w1 ⟨v, rfl, hv, hb⟩
  obtain ⟨k, W, hrun, hbs, hbW, hWs⟩ := str_bytes w1 t (by unfold maxLen; omega)
  have HV := Lib.hid hv
  have HB := Lib.hid hb
  have HS := Lib.hid hbs
  have HW := Lib.hid hbW
  obtain ⟨A, c, rfl, _, _, _⟩ := hv
  clear hb hbs hbW hWs
  go_wp2_with fail
  have b1 : Below w.heap.size w W := HB.out.trans (HW.out.mono HB.out.size)
  have hb2 := b1.alloc b1.size (.cells #[.slice A (numB t.size).length c, .slice (some ⟨w1.heap.size, 0, none⟩) t.size k] 31)
  have hlen := (numB_length t.size).2
  refine (put_any p G s _ [numB t.size, natsOf t] _ (HM.out.below hb2) (Bss.two (HV.out.below HW.out) HS.out) (by simp [natsOf_length]; omega)).mono ?_
  rintro e w2 ⟨G', rfl, hM2, hf, hG⟩
  have HM2 := Lib.hid hM2
  have HF := Lib.hid hf
  have HG := Lib.hid hG
  have HB2 := Lib.hid hb2
  clear hM2 hf hG hb2 b1
  go_wp2
  go_ret
  refine ⟨G', rfl, ?_, (Fr.of_below HB2.out).trans HF.out, ?_⟩
  · have := HM2.out
    simpa [textB, natsOf_length] using this
  · rcases HG.out with h | ⟨g, h, hg⟩
    · exact .inl h
    · exact .inr ⟨g, h, Nat.le_trans HB2.out.size hg⟩

set_option maxRecDepth 100000 in
set_option maxHeartbeats 400000 in
theorem mtext_nil (t : ByteArray) (w : World) (ht : t.size ≤ 140737488351232) :
    Calls Try.prog 22 #[.pointer none, .string t] w fun e w' => e = .returned (.pointer none) ∧ Below w.heap.size w w' := by
  go_enter Try.func22, Try.ntmps22
  go_wp2_with fail
  refine (num_any _ _ ⟨by omega, by omega⟩).mono ?_
  rintro e w1 ⟨v, rfl, ⟨A, c, rfl, _, _, _⟩, hb⟩
  obtain ⟨k, W, hrun, _, hbW, _⟩ := str_bytes w1 t (by unfold maxLen; omega)
  have HB := Lib.hid hb
  have HW := Lib.hid hbW
  clear hb hbW
  go_wp2_with fail
  refine (put_nil _ _).mono ?_
  rintro e w2 ⟨rfl, rfl⟩
  go_wp2
  go_ret
  have b1 : Below w.heap.size w W := HB.out.trans (HW.out.mono HB.out.size)
  exact ⟨rfl, b1.alloc b1.size _⟩

theorem textT_of (s : List Nat × Bool) (most : Int) {n : Int} {bs : List Nat} {bad : Bool} (h : numT s 0 most = (n, (bs, bad))) :
    textT s most = if bad = true then ([], (bs, bad)) else if (bs.length : Int) < n then ([], (bs, true)) else (bs.take n.toNat, (bs.drop n.toNat, false)) := by
  unfold textT; rw [h]

set_option maxHeartbeats 400000 in
theorem ttext_nil (b : Int) (w : World) : Calls Try.prog 40 #[.pointer none, .int .i64 b] w fun e w' => e = .returned (.string (strOf [])) ∧ w = w' := by
  go_enter Try.func40, Try.ntmps40
  go_wp2_with fail
  refine (tnum_nil _ _ _).mono ?_
  rintro e w' ⟨rfl, rfl⟩
  go_wp2_with (go_at_call 69; refine (may_nil _).mono ?_; rintro e w' ⟨rfl, rfl⟩)
  go_ret
  exact ⟨rfl, rfl⟩

set_option maxRecDepth 100000 in
set_option maxHeartbeats 1000000 in
theorem ttext_bad (p : Nat) (D : Option Nat) (s : List Nat × Bool) (b n : Int) (bs : List Nat) (w : World) (hT : IsT w 98 p D s) (hp : D ≠ some p) (hr : numT s 0 b = (n, (bs, true))) :
    Calls Try.prog 40 #[.pointer (some ⟨p, 0, none⟩), .int .i64 b] w (RetT 98 p D (.string (strOf [])) (bs, true) w) := by
  have HT := Lib.hid hT
  have HD := Lib.hid hp
  have HR := Lib.hid hr
  clear hT hp hr
  go_enter Try.func40, Try.ntmps40
  go_wp2_with fail
  refine (tnum_any p D s 0 b w HT.out HD.out).mono ?_
  rintro e w1 ⟨rfl, h1, hf⟩
  rw [HR.out] at h1 ⊢
  have H1 := Lib.hid h1
  have HF := Lib.hid hf
  clear h1 hf
  go_wp2_with (go_at_call 69; refine (may_any p D (bs, true) _ H1.out).mono ?_; rintro e w' ⟨rfl, rfl⟩)
  go_ret
  exact ⟨rfl, H1.out, HF.out⟩

set_option maxRecDepth 100000 in
set_option maxHeartbeats 1000000 in
theorem ttext_over (p : Nat) (D : Option Nat) (s : List Nat × Bool) (b n : Int) (bs : List Nat) (w : World) (hT : IsT w 98 p D s) (hp : D ≠ some p) (hr : numT s 0 b = (n, (bs, false))) (hn : (bs.length : Int) < n) :
    Calls Try.prog 40 #[.pointer (some ⟨p, 0, none⟩), .int .i64 b] w (RetT 98 p D (.string (strOf [])) (bs, true) w) := by
  have HT := Lib.hid hT
  have HD := Lib.hid hp
  have HR := Lib.hid hr
  clear hT hp hr
  go_enter Try.func40, Try.ntmps40
  go_wp2_with fail
  refine (tnum_any p D s 0 b w HT.out HD.out).mono ?_
  rintro e w1 ⟨rfl, h1, hf⟩
  rw [HR.out] at h1 ⊢
  have H1 := Lib.hid h1
  obtain ⟨A, c, k1, k2, k3, k4, k5, k6, k7⟩ := h1
  have c0 : w1.cell? ⟨p, 0, none⟩ = some (.slice A bs.length c) := cell_at k1 0
  have HF := Lib.hid hf
  clear k1 k2 k3 k4 k5 k6 k7 hf
  go_wp2_with (go_at_call 69; refine (may_any p D (bs, false) _ H1.out).mono ?_; rintro e w' ⟨rfl, rfl⟩)
  refine (fault_any p D (bs, false) _ H1.out HD.out).mono ?_
  rintro e w2 ⟨rfl, h2, hf2⟩
  have H2 := Lib.hid h2
  have HF2 := Lib.hid hf2
  clear h2 hf2
  go_wp2
  go_ret
  exact ⟨rfl, H2.out, (HF.out.mono (Nat.le_refl _) (by simp) (by simp)).trans HF2.out⟩

set_option maxRecDepth 100000 in
set_option maxHeartbeats 1000000 in
theorem ttext_in (p : Nat) (D : Option Nat) (s : List Nat × Bool) (b : Int) (n : Nat) (bs : List Nat) (w : World) (hT : IsT w 98 p D s) (hp : D ≠ some p) (hr : numT s 0 b = ((n : Int), (bs, false))) (hn : n ≤ bs.length) :
    Calls Try.prog 40 #[.pointer (some ⟨p, 0, none⟩), .int .i64 b] w (RetT 98 p D (.string (strOf (bs.take n))) (bs.drop n, false) w) := by
  have HT := Lib.hid hT
  have HD := Lib.hid hp
  have HR := Lib.hid hr
  clear hT hp hr
  have hdl : (bs.drop n).length = bs.length - n := by simp
  have HDL := Lib.hid hdl
  have hmd : (bs.drop n).map u8v = (bs.map u8v).drop (n * 1) := by simp
  have HMD := Lib.hid hmd
  have hmt : (bs.take n).map u8v = (bs.map u8v).take (n * 1) := by simp
  have HMT := Lib.hid hmt
  clear hdl hmd hmt
  go_enter Try.func40, Try.ntmps40
  go_wp2_with fail
  refine (tnum_any p D s 0 b w HT.out HD.out).mono ?_
  rintro e w1 ⟨rfl, h1, hf⟩
  rw [HR.out] at h1 ⊢
  have H1 := Lib.hid h1
  obtain ⟨A, c, k1, k2, k3, k4, k5, k6, k7⟩ := h1
  simp only at k1 k2 k3 k4 k5 k6 k7
  have c0 : w1.cell? ⟨p, 0, none⟩ = some (.slice A bs.length c) := cell_at k1 0
  have c1 := frozen_at k1 0
  have hm : c ≤ 9223372036854775807 := by unfold maxLen at k3; omega
  have hs0 := run_str w1 A n c (bs.take n) (by rw [HMT.out]; exact k4.take hn) (fun x hx => k6 x (List.mem_of_mem_take hx))
  have HF := Lib.hid hf
  have K1 := Lib.hid k1
  have K4 := Lib.hid k4
  have K5 := Lib.hid k5
  have K3 := Lib.hid k3
  have HB6 := Lib.hid (fun x hx => k6 x (List.mem_of_mem_drop (i := n) hx))
  clear k1 k3 k4 k5 k6 hf
  rcases k7 with rfl | ⟨g, o, rfl⟩
  · obtain rfl : n = 0 := by omega
    have hb0 : bs.length ≤ 0 := k2
    have hn : (bs.drop 0).length = 0 := by rw [HDL.out]; omega
    have hfin := IsT.of_set0 (D := D) (bs := bs.drop 0) (A := A) (c := 0) K1.out (by omega) (Nat.zero_le _) (by rw [List.eq_nil_of_length_eq_zero hn]; exact Rd.nil) (by omega) HD.out HB6.out (.inl rfl)
    rw [hn] at hfin
    have HFin := Lib.hid hfin
    clear hfin hn
    cases A
    all_goals
      go_wp2_with (go_at_call 69; refine (may_any p D (bs, false) _ H1.out).mono ?_; rintro e w' ⟨rfl, rfl⟩)
      go_ret
      exact ⟨rfl, HFin.out.1, (HF.out.mono (Nat.le_refl _) (by simp) (by simp)).trans HFin.out.2⟩
  · by_cases hnc : c = n
    · subst hnc
      go_wp2_with (go_at_call 69; refine (may_any p D (bs, false) _ H1.out).mono ?_; rintro e w' ⟨rfl, rfl⟩)
      go_ret
      have hn : (bs.drop c).length = 0 := by rw [HDL.out]; omega
      have e : bs.length - c = 0 := by omega
      have := IsT.of_set0 (D := D) (bs := bs.drop c) (A := some ⟨g, o, none⟩) (c := 0) K1.out (by omega) (Nat.zero_le _) (by rw [List.eq_nil_of_length_eq_zero hn]; exact Rd.nil) (by omega) HD.out HB6.out (.inr ⟨_, _, rfl⟩)
      rw [hn] at this
      try rw [e]
      exact ⟨rfl, this.1, (HF.out.mono (Nat.le_refl _) (by simp) (by simp)).trans this.2⟩
    · have hck : n < c := by omega
      clear hnc
      go_wp2_with (go_at_call 69; refine (may_any p D (bs, false) _ H1.out).mono ?_; rintro e w' ⟨rfl, rfl⟩)
      go_ret
      have := IsT.of_set0 (D := D) (bs := bs.drop n) (A := some ⟨g, o + n, none⟩) (c := c - n) K1.out (by rw [HDL.out]; omega) (by have := K3.out; omega) (by rw [HMD.out, HDL.out]; exact K4.out.drop hn (fun _ => by simp)) (fun hn a ha => by
        cases ha
        rw [HDL.out] at hn
        exact K5.out (by omega) ⟨g, o, none⟩ rfl) HD.out HB6.out (.inr ⟨_, _, rfl⟩)
      rw [HDL.out] at this
      exact ⟨rfl, this.1, (HF.out.mono (Nat.le_refl _) (by simp) (by simp)).trans this.2⟩

theorem ttext_any (p : Nat) (D : Option Nat) (s : List Nat × Bool) (b : Int) (w : World) (hT : IsT w 98 p D s) (hp : D ≠ some p) :
    Calls Try.prog 40 #[.pointer (some ⟨p, 0, none⟩), .int .i64 b] w (RetT 98 p D (.string (strOf (textT s b).1)) (textT s b).2 w) := by
  obtain ⟨n, bs, bad, hr⟩ : ∃ n bs bad, numT s 0 b = (n, (bs, bad)) := ⟨_, _, _, rfl⟩
  rw [textT_of s b hr]
  cases bad with
  | true => exact ttext_bad p D s b n bs w hT hp hr
  | false =>
    have h6 : ∀ x ∈ s.1, x < 256 := by
      obtain ⟨A, c, h1, h2, h3, h4, h5, h6, h7⟩ := hT
      exact h6
    have hg := numT_good h6 (a := 0) (b := b) (by rw [hr])
    rw [hr] at hg
    obtain ⟨_, k, _, h0, _⟩ := hg
    by_cases hn : (bs.length : Int) < n
    · rw [if_neg (by simp), if_pos hn]
      exact ttext_over p D s b n bs w hT hp hr hn
    · rw [if_neg (by simp), if_neg hn]
      obtain ⟨m, rfl⟩ : ∃ m : Nat, n = m := ⟨n.toNat, by simp only at h0; omega⟩
      rw [show (m : Int).toNat = m from by omega]
      exact ttext_in p D s b m bs w hT hp hr (by omega)
theorem mk_text {w W : World} {p : Nat} {s : List Nat × Bool} (h : Mk w p s W) (t : ByteArray) (ht : t.size ≤ 140737488351232) : Calls Try.prog 22 #[.pointer (some ⟨p, 0, none⟩), .string t] W fun e W' => e = .returned (.pointer (some ⟨p, 0, none⟩)) ∧ Mk w p (putS s (textB (natsOf t))) W' :=
  h.ret fun G hM => mtext_any p G s t W hM ht

theorem tk_text {w W : World} {p : Nat} {s : List Nat × Bool} (h : Tk w p s W) (b : Int) : Calls Try.prog 40 #[.pointer (some ⟨p, 0, none⟩), .int .i64 b] W fun e W' => e = .returned (.string (strOf (textT s b).1)) ∧ Tk w p (textT s b).2 W' :=
  h.ret fun D hT hD => ttext_any p D s b W hT hD
set_option maxRecDepth 100000 in
set_option maxHeartbeats 1000000 in
theorem rmtext_any (q : Nat) (D : Option Nat) (s : List Nat × Bool) (t : ByteArray) (w : World) (hT : IsT w 75 q D s) (hD : D ≠ some q) (ht : t.size ≤ 140737488351232) :
    Calls Try.prog 46 #[.pointer (some ⟨q, 0, none⟩), .string t] w (RetR q D (putS s (textB (natsOf t))) w) := by
  obtain ⟨i0, hi0, hz0, hz1, hz2⟩ := info_parts Try.infoByte
  have HT := Lib.hid hT
  have HD := Lib.hid hD
  clear hT hD
  go_enter Try.func46, Try.ntmps46
  go_wp2_with fail
  refine (rnum_own _ _ ⟨by omega, by omega⟩).mono ?_
  rintro e w1 ⟨v, rfl, ho, hb⟩
  have HO := Lib.hid ho
  have HB := Lib.hid hb
  have hl9 := (numB_length t.size).2
  obtain ⟨A, c, rfl, _, _, _, _⟩ := own_slice ho
  have hs1 : w.heap.size ≤ w1.heap.size := hb.size
  clear ho hb
  go_wp2_with (at_builtin
               refine Lib.wpList_append_own_string _ rfl (.tmp 7) (.tmp 8) 31 9 rfl w.heap.size 5 i0 Try.underlying31 Try.underlying9 hi0 hz0 hz1 hz2 _ _ _ rfl HO.out t rfl (by unfold maxLen; omega) (by omega) hs1 ?_
               intro v2 w2 hown2 hgrow2 _
               have f2 : Fr w.heap.size [5] [] w1 w2 := (Fr.refl w1).grown hgrow2 (fun j hj => by
                 obtain ⟨hb, cs, hc⟩ := own_block HO.out hj
                 exact ⟨hb, .inr ⟨cs, _, _, hc, by simp⟩⟩)
               have HB2 := Lib.hid (HB.out.trans (f2.below hs1) : Below w.heap.size w w2)
               have HO2 := Lib.hid hown2
               clear hown2 hgrow2 f2)
  have hbs : Bs w2 v2 (textB (natsOf t)) := by
    have h := HO2.out
    have e : (numB t.size).map u8v ++ Lib.strCells t = (textB (natsOf t)).map u8v := by
      unfold textB
      rw [List.map_append, natsOf_length]
      congr 1
      simp [Lib.strCells, natsOf]
      exact fun _ _ => rfl
    rw [e] at h
    exact Bs.own_n h
  refine (rput_any q D s v2 (textB (natsOf t)) _ (HT.out.below HB2.out) HD.out hbs (fun b hb => by
    unfold textB at hb
    rcases List.mem_append.1 hb with h | h
    · exact numB_lt _ b h
    · exact natsOf_lt t b h)).mono ?_
  intro e w3 hr
  have HR := Lib.hid (RetR.then HB2.out hr)
  obtain ⟨D', rfl, _⟩ := hr
  go_wp2
  go_end0
  exact HR.out
end Go.Proofs.Ytpccbobomppdbaa
