/- The contract of the reference's Taker's Text. -/
import Derived.Test.YtnmbblkfaoihfaaCRT
namespace Go.Proofs.Ytnmbblkfaoihfaa
open Go.RowKit

/-- The bound that the reference's Text hands on. -/
def rmost (l : Nat) (most : Int) : Int := if (l : Int) < most then l else most
theorem rtextT_of (s : List Nat × Bool) (most : Int) {n : Int} {bs : List Nat} {bad : Bool} (h : numT s 0 (rmost s.1.length most) = (n, (bs, bad))) :
    rtextT s most = if bad = true ∨ (bs.length : Int) < n then ([], (bs, true)) else (bs.take n.toNat, (bs.drop n.toNat, false)) := by
  unfold rtextT
  unfold rmost at h
  rw [h]

set_option maxRecDepth 100000 in
set_option maxHeartbeats 2000000 in
theorem rttext_bad (p : Nat) (D : Option Nat) (s : List Nat × Bool) (b n : Int) (bs : List Nat) (bad : Bool) (w : World) (hT : IsT w 103 p D s) (hp : D ≠ some p) (hr : numT s 0 (rmost s.1.length b) = (n, (bs, bad))) (hn : bad = true ∨ (bs.length : Int) < n) :
    Calls Try.prog 56 #[.pointer (some ⟨p, 0, none⟩), .int .i64 b] w (RetT 103 p D (.string (strOf [])) (bs, true) w) := by
  have HT := Lib.hid hT
  have HD := Lib.hid hp
  have HR := Lib.hid hr
  obtain ⟨A0, c0, z1, _⟩ := hT
  have x0 : w.cell? ⟨p, 0, none⟩ = some (.slice A0 s.1.length c0) := cell_at z1 0
  clear hp hr z1
  by_cases hb : (s.1.length : Int) < b
  all_goals
    have HM : Hid (rmost s.1.length b = _) := Lib.hid (by unfold rmost; first | exact if_pos hb | exact if_neg hb)
    go_enter Try.func56, Try.ntmps56
    go_wp2_with fail
    refine (rtnum_any p D s 0 _ w HT.out HD.out).mono ?_
    rintro e w1 ⟨rfl, h1, hf⟩
    rw [← HM.out, HR.out] at h1 ⊢
    have H1 := Lib.hid h1
    obtain ⟨A, c, k1, k2, k3, k4, k5, k6, k7⟩ := h1
    simp only at k1 k2 k3 k4 k5 k6 k7
    have y0 : w1.cell? ⟨p, 0, none⟩ = some (.slice A bs.length c) := cell_at k1 0
    have y1 : w1.cell? ⟨p, 1, none⟩ = some (.bool bad) := cell_at k1 1
    have y2 := frozen_at k1 1
    have hm : c ≤ 9223372036854775807 := by unfold maxLen at k3; omega
    have HF := Lib.hid hf
    have HS := Lib.hid (IsT.of_set1 k1 k2 k3 k4 k5 HD.out k6 k7 true)
    clear k1 k3 k4 k5 k6 k7 hf x0
    cases bad
    · have hn' : (bs.length : Int) < n := by simpa using hn
      clear hn
      go_wp2_with fail
      go_ret
      exact ⟨rfl, HS.out.1, HF.out.trans HS.out.2⟩
    · clear hn
      go_wp2_with fail
      go_ret
      exact ⟨rfl, HS.out.1, HF.out.trans HS.out.2⟩

set_option maxRecDepth 100000 in
set_option maxHeartbeats 2000000 in
theorem rttext_in (p : Nat) (D : Option Nat) (s : List Nat × Bool) (b : Int) (n : Nat) (bs : List Nat) (w : World) (hT : IsT w 103 p D s) (hp : D ≠ some p) (hr : numT s 0 (rmost s.1.length b) = ((n : Int), (bs, false))) (hn : n ≤ bs.length) :
    Calls Try.prog 56 #[.pointer (some ⟨p, 0, none⟩), .int .i64 b] w (RetT 103 p D (.string (strOf (bs.take n))) (bs.drop n, false) w) := by
  have HT := Lib.hid hT
  have HD := Lib.hid hp
  have HR := Lib.hid hr
  obtain ⟨A0, c0, z1, _⟩ := hT
  have x0 : w.cell? ⟨p, 0, none⟩ = some (.slice A0 s.1.length c0) := cell_at z1 0
  have hdl : (bs.drop n).length = bs.length - n := by simp
  have HDL := Lib.hid hdl
  have hmd : (bs.drop n).map u8v = (bs.map u8v).drop (n * 1) := by simp
  have HMD := Lib.hid hmd
  have hmt : (bs.take n).map u8v = (bs.map u8v).take (n * 1) := by simp
  have HMT := Lib.hid hmt
  clear hp hr z1 hdl hmd hmt
  by_cases hb : (s.1.length : Int) < b
  all_goals
    have HM : Hid (rmost s.1.length b = _) := Lib.hid (by unfold rmost; first | exact if_pos hb | exact if_neg hb)
    go_enter Try.func56, Try.ntmps56
    go_wp2_with fail
    refine (rtnum_any p D s 0 _ w HT.out HD.out).mono ?_
    rintro e w1 ⟨rfl, h1, hf⟩
    rw [← HM.out, HR.out] at h1 ⊢
    obtain ⟨A, c, k1, k2, k3, k4, k5, k6, k7⟩ := h1
    simp only at k1 k2 k3 k4 k5 k6 k7
    have y0 : w1.cell? ⟨p, 0, none⟩ = some (.slice A bs.length c) := cell_at k1 0
    have y1 : w1.cell? ⟨p, 1, none⟩ = some (.bool false) := cell_at k1 1
    have y2 := frozen_at k1 0
    have hm : c ≤ 9223372036854775807 := by unfold maxLen at k3; omega
    have hs0 := run_str w1 A n c (bs.take n) (by rw [HMT.out]; exact k4.take hn) (fun x hx => k6 x (List.mem_of_mem_take hx))
    have HF := Lib.hid hf
    have K1 := Lib.hid k1
    have K4 := Lib.hid k4
    have K5 := Lib.hid k5
    have K3 := Lib.hid k3
    have HB6 := Lib.hid (fun x hx => k6 x (List.mem_of_mem_drop (i := n) hx))
    clear k1 k3 k4 k5 k6 hf x0
    rcases k7 with rfl | ⟨g, o, rfl⟩
    · obtain rfl : n = 0 := by omega
      have hb0 : bs.length ≤ 0 := k2
      have hn : (bs.drop 0).length = 0 := by rw [HDL.out]; omega
      have hfin := IsT.of_set0 (D := D) (bs := bs.drop 0) (A := A) (c := 0) K1.out (by omega) (Nat.zero_le _) (by rw [List.eq_nil_of_length_eq_zero hn]; exact Rd.nil) (by omega) HD.out HB6.out (.inl rfl)
      rw [hn] at hfin
      have HFin := Lib.hid hfin
      clear hfin hn
      cases A
      all_goals
        go_wp2_with fail
        go_ret
        exact ⟨rfl, HFin.out.1, HF.out.trans HFin.out.2⟩
    · by_cases hnc : c = n
      · subst hnc
        go_wp2_with fail
        go_ret
        have hn : (bs.drop c).length = 0 := by rw [HDL.out]; omega
        have e : bs.length - c = 0 := by omega
        have := IsT.of_set0 (D := D) (bs := bs.drop c) (A := some ⟨g, o, none⟩) (c := 0) K1.out (by omega) (Nat.zero_le _) (by rw [List.eq_nil_of_length_eq_zero hn]; exact Rd.nil) (by omega) HD.out HB6.out (.inr ⟨_, _, rfl⟩)
        rw [hn] at this
        try rw [e]
        exact ⟨rfl, this.1, HF.out.trans this.2⟩
      · have hck : n < c := by omega
        clear hnc
        go_wp2_with fail
        go_ret
        have := IsT.of_set0 (D := D) (bs := bs.drop n) (A := some ⟨g, o + n, none⟩) (c := c - n) K1.out (by rw [HDL.out]; omega) (by have := K3.out; omega) (by rw [HMD.out, HDL.out]; exact K4.out.drop hn (fun _ => by simp)) (fun hn a ha => by
          cases ha
          rw [HDL.out] at hn
          exact K5.out (by omega) ⟨g, o, none⟩ rfl) HD.out HB6.out (.inr ⟨_, _, rfl⟩)
        rw [HDL.out] at this
        exact ⟨rfl, this.1, HF.out.trans this.2⟩

theorem rttext_any (p : Nat) (D : Option Nat) (s : List Nat × Bool) (b : Int) (w : World) (hT : IsT w 103 p D s) (hp : D ≠ some p) :
    Calls Try.prog 56 #[.pointer (some ⟨p, 0, none⟩), .int .i64 b] w (RetT 103 p D (.string (strOf (rtextT s b).1)) (rtextT s b).2 w) := by
  obtain ⟨n, bs, bad, hr⟩ : ∃ n bs bad, numT s 0 (rmost s.1.length b) = (n, (bs, bad)) := ⟨_, _, _, rfl⟩
  rw [rtextT_of s b hr]
  by_cases hn : bad = true ∨ (bs.length : Int) < n
  · rw [if_pos hn]
    exact rttext_bad p D s b n bs bad w hT hp hr hn
  · rw [if_neg hn]
    have hbad : bad = false := by
      cases bad with
      | false => rfl
      | true => exact absurd (.inl rfl) hn
    subst hbad
    have h6 : ∀ x ∈ s.1, x < 256 := by
      obtain ⟨A, c, h1, h2, h3, h4, h5, h6, h7⟩ := hT
      exact h6
    have hg := numT_good h6 (a := 0) (b := rmost s.1.length b) (by rw [hr])
    rw [hr] at hg
    obtain ⟨_, k, _, h0, _⟩ := hg
    obtain ⟨m, rfl⟩ : ∃ m : Nat, n = m := ⟨n.toNat, by simp only at h0; omega⟩
    rw [show (m : Int).toNat = m from by omega]
    exact rttext_in p D s b m bs w hT hp hr (by have := fun h => hn (.inr h); omega)
end Go.Proofs.Ytnmbblkfaoihfaa
