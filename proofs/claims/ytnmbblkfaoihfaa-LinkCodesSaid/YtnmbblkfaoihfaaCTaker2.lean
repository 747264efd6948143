/- The contract of cells.Taker's Text. -/
import Derived.Test.YtnmbblkfaoihfaaCTaker
namespace Go.Proofs.Ytnmbblkfaoihfaa
open Go.RowKit

theorem textT_of (s : List Nat × Bool) (most : Int) {n : Int} {bs : List Nat} {bad : Bool} (h : numT s 0 most = (n, (bs, bad))) :
    textT s most = if bad = true then ([], (bs, bad)) else if (bs.length : Int) < n then ([], (bs, true)) else (bs.take n.toNat, (bs.drop n.toNat, false)) := by
  unfold textT; rw [h]

set_option maxHeartbeats 400000 in
theorem ttext_nil (b : Int) (w : World) : Calls Try.prog 53 #[.pointer none, .int .i64 b] w fun e w' => e = .returned (.string (strOf [])) ∧ w = w' := by
  go_enter Try.func53, Try.ntmps53
  go_wp2_with fail
  refine (tnum_nil _ _ _).mono ?_
  rintro e w' ⟨rfl, rfl⟩
  go_wp2_with (go_at_call 64; refine (may_nil _).mono ?_; rintro e w' ⟨rfl, rfl⟩)
  go_ret
  exact ⟨rfl, rfl⟩

set_option maxRecDepth 100000 in
set_option maxHeartbeats 1000000 in
theorem ttext_bad (p : Nat) (D : Option Nat) (s : List Nat × Bool) (b n : Int) (bs : List Nat) (w : World) (hT : IsT w 116 p D s) (hp : D ≠ some p) (hr : numT s 0 b = (n, (bs, true))) :
    Calls Try.prog 53 #[.pointer (some ⟨p, 0, none⟩), .int .i64 b] w (RetT 116 p D (.string (strOf [])) (bs, true) w) := by
  have HT := Lib.hid hT
  have HD := Lib.hid hp
  have HR := Lib.hid hr
  clear hT hp hr
  go_enter Try.func53, Try.ntmps53
  go_wp2_with fail
  refine (tnum_any p D s 0 b w HT.out HD.out).mono ?_
  rintro e w1 ⟨rfl, h1, hf⟩
  rw [HR.out] at h1 ⊢
  have H1 := Lib.hid h1
  have HF := Lib.hid hf
  clear h1 hf
  go_wp2_with (go_at_call 64; refine (may_any p D (bs, true) _ H1.out).mono ?_; rintro e w' ⟨rfl, rfl⟩)
  go_ret
  exact ⟨rfl, H1.out, HF.out⟩

set_option maxRecDepth 100000 in
set_option maxHeartbeats 1000000 in
theorem ttext_over (p : Nat) (D : Option Nat) (s : List Nat × Bool) (b n : Int) (bs : List Nat) (w : World) (hT : IsT w 116 p D s) (hp : D ≠ some p) (hr : numT s 0 b = (n, (bs, false))) (hn : (bs.length : Int) < n) :
    Calls Try.prog 53 #[.pointer (some ⟨p, 0, none⟩), .int .i64 b] w (RetT 116 p D (.string (strOf [])) (bs, true) w) := by
  have HT := Lib.hid hT
  have HD := Lib.hid hp
  have HR := Lib.hid hr
  clear hT hp hr
  go_enter Try.func53, Try.ntmps53
  go_wp2_with fail
  refine (tnum_any p D s 0 b w HT.out HD.out).mono ?_
  rintro e w1 ⟨rfl, h1, hf⟩
  rw [HR.out] at h1 ⊢
  have H1 := Lib.hid h1
  obtain ⟨A, c, k1, k2, k3, k4, k5, k6, k7⟩ := h1
  have c0 : w1.cell? ⟨p, 0, none⟩ = some (.slice A bs.length c) := cell_at k1 0
  have HF := Lib.hid hf
  clear k1 k2 k3 k4 k5 k6 k7 hf
  go_wp2_with (go_at_call 64; refine (may_any p D (bs, false) _ H1.out).mono ?_; rintro e w' ⟨rfl, rfl⟩)
  refine (fault_any p D (bs, false) _ H1.out HD.out).mono ?_
  rintro e w2 ⟨rfl, h2, hf2⟩
  have H2 := Lib.hid h2
  have HF2 := Lib.hid hf2
  clear h2 hf2
  go_wp2
  go_ret
  exact ⟨rfl, H2.out, (HF.out.mono (Nat.le_refl _) (by simp) (by simp)).trans HF2.out⟩

set_option maxRecDepth 100000 in
set_option maxHeartbeats 1000000 in
theorem ttext_in (p : Nat) (D : Option Nat) (s : List Nat × Bool) (b : Int) (n : Nat) (bs : List Nat) (w : World) (hT : IsT w 116 p D s) (hp : D ≠ some p) (hr : numT s 0 b = ((n : Int), (bs, false))) (hn : n ≤ bs.length) :
    Calls Try.prog 53 #[.pointer (some ⟨p, 0, none⟩), .int .i64 b] w (RetT 116 p D (.string (strOf (bs.take n))) (bs.drop n, false) w) := by
  have HT := Lib.hid hT
  have HD := Lib.hid hp
  have HR := Lib.hid hr
  clear hT hp hr
  have hdl : (bs.drop n).length = bs.length - n := by simp
  have HDL := Lib.hid hdl
  have hmd : (bs.drop n).map u8v = (bs.map u8v).drop (n * 1) := by simp
  have HMD := Lib.hid hmd
  have hmt : (bs.take n).map u8v = (bs.map u8v).take (n * 1) := by simp
  have HMT := Lib.hid hmt
  clear hdl hmd hmt
  go_enter Try.func53, Try.ntmps53
  go_wp2_with fail
  refine (tnum_any p D s 0 b w HT.out HD.out).mono ?_
  rintro e w1 ⟨rfl, h1, hf⟩
  rw [HR.out] at h1 ⊢
  have H1 := Lib.hid h1
  obtain ⟨A, c, k1, k2, k3, k4, k5, k6, k7⟩ := h1
  simp only at k1 k2 k3 k4 k5 k6 k7
  have c0 : w1.cell? ⟨p, 0, none⟩ = some (.slice A bs.length c) := cell_at k1 0
  have c1 := frozen_at k1 0
  have hm : c ≤ 9223372036854775807 := by unfold maxLen at k3; omega
  have hs0 := run_str w1 A n c (bs.take n) (by rw [HMT.out]; exact k4.take hn) (fun x hx => k6 x (List.mem_of_mem_take hx))
  have HF := Lib.hid hf
  have K1 := Lib.hid k1
  have K4 := Lib.hid k4
  have K5 := Lib.hid k5
  have K3 := Lib.hid k3
  have HB6 := Lib.hid (fun x hx => k6 x (List.mem_of_mem_drop (i := n) hx))
  clear k1 k3 k4 k5 k6 hf
  rcases k7 with rfl | ⟨g, o, rfl⟩
  · obtain rfl : n = 0 := by omega
    have hb0 : bs.length ≤ 0 := k2
    have hn : (bs.drop 0).length = 0 := by rw [HDL.out]; omega
    have hfin := IsT.of_set0 (D := D) (bs := bs.drop 0) (A := A) (c := 0) K1.out (by omega) (Nat.zero_le _) (by rw [List.eq_nil_of_length_eq_zero hn]; exact Rd.nil) (by omega) HD.out HB6.out (.inl rfl)
    rw [hn] at hfin
    have HFin := Lib.hid hfin
    clear hfin hn
    cases A
    all_goals
      go_wp2_with (go_at_call 64; refine (may_any p D (bs, false) _ H1.out).mono ?_; rintro e w' ⟨rfl, rfl⟩)
      go_ret
      exact ⟨rfl, HFin.out.1, (HF.out.mono (Nat.le_refl _) (by simp) (by simp)).trans HFin.out.2⟩
  · by_cases hnc : c = n
    · subst hnc
      go_wp2_with (go_at_call 64; refine (may_any p D (bs, false) _ H1.out).mono ?_; rintro e w' ⟨rfl, rfl⟩)
      go_ret
      have hn : (bs.drop c).length = 0 := by rw [HDL.out]; omega
      have e : bs.length - c = 0 := by omega
      have := IsT.of_set0 (D := D) (bs := bs.drop c) (A := some ⟨g, o, none⟩) (c := 0) K1.out (by omega) (Nat.zero_le _) (by rw [List.eq_nil_of_length_eq_zero hn]; exact Rd.nil) (by omega) HD.out HB6.out (.inr ⟨_, _, rfl⟩)
      rw [hn] at this
      try rw [e]
      exact ⟨rfl, this.1, (HF.out.mono (Nat.le_refl _) (by simp) (by simp)).trans this.2⟩
    · have hck : n < c := by omega
      clear hnc
      go_wp2_with (go_at_call 64; refine (may_any p D (bs, false) _ H1.out).mono ?_; rintro e w' ⟨rfl, rfl⟩)
      go_ret
      have := IsT.of_set0 (D := D) (bs := bs.drop n) (A := some ⟨g, o + n, none⟩) (c := c - n) K1.out (by rw [HDL.out]; omega) (by have := K3.out; omega) (by rw [HMD.out, HDL.out]; exact K4.out.drop hn (fun _ => by simp)) (fun hn a ha => by
        cases ha
        rw [HDL.out] at hn
        exact K5.out (by omega) ⟨g, o, none⟩ rfl) HD.out HB6.out (.inr ⟨_, _, rfl⟩)
      rw [HDL.out] at this
      exact ⟨rfl, this.1, (HF.out.mono (Nat.le_refl _) (by simp) (by simp)).trans this.2⟩

theorem ttext_any (p : Nat) (D : Option Nat) (s : List Nat × Bool) (b : Int) (w : World) (hT : IsT w 116 p D s) (hp : D ≠ some p) :
    Calls Try.prog 53 #[.pointer (some ⟨p, 0, none⟩), .int .i64 b] w (RetT 116 p D (.string (strOf (textT s b).1)) (textT s b).2 w) := by
  obtain ⟨n, bs, bad, hr⟩ : ∃ n bs bad, numT s 0 b = (n, (bs, bad)) := ⟨_, _, _, rfl⟩
  rw [textT_of s b hr]
  cases bad with
  | true => exact ttext_bad p D s b n bs w hT hp hr
  | false =>
    have h6 : ∀ x ∈ s.1, x < 256 := by
      obtain ⟨A, c, h1, h2, h3, h4, h5, h6, h7⟩ := hT
      exact h6
    have hg := numT_good h6 (a := 0) (b := b) (by rw [hr])
    rw [hr] at hg
    obtain ⟨_, k, _, h0, _⟩ := hg
    by_cases hn : (bs.length : Int) < n
    · rw [if_neg (by simp), if_pos hn]
      exact ttext_over p D s b n bs w hT hp hr hn
    · rw [if_neg (by simp), if_neg hn]
      obtain ⟨m, rfl⟩ : ∃ m : Nat, n = m := ⟨n.toNat, by simp only at h0; omega⟩
      rw [show (m : Int).toNat = m from by omega]
      exact ttext_in p D s b m bs w hT hp hr (by omega)
end Go.Proofs.Ytnmbblkfaoihfaa
