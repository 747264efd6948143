/- The reference's ahead. -/
import Derived.Test.YtlcnkicmepcppaaXPSplit
import Derived.Test.YtlcnkicmepcppaaPOnes
namespace Go.Proofs.Ytlcnkicmepcppaa
open Go.RowKit

set_option maxRecDepth 100000 in
set_option maxHeartbeats 1000000 in
theorem xahead_any (A : Option Addr) (c : Nat) (a : List Int) (B : Option Addr) (d : Nat) (b : List Int) (w : World) (hr : Rd w 1 A a.length (a.map i64v)) (hs : Rd w 1 B b.length (b.map i64v)) (hm : a.length ≤ 1000000) (he : a.length = b.length) :
    Calls Try.prog 34 #[.slice A a.length c, .slice B b.length d] w fun e w' => e = .returned (.bool (decide (cmpL a b < 0))) ∧ Below w.heap.size w w' := by
  obtain ⟨m, hm2⟩ : ∃ m, a.length = m := ⟨_, rfl⟩
  have hn2 : b.length = m := by omega
  have HM := Lib.hid hm2
  have HN := Lib.hid hn2
  have HR := Lib.hid hr
  have HS := Lib.hid hs
  rw [hm2] at hm ⊢
  rw [hn2] at ⊢
  clear hr hs hm2 hn2 he
  go_enter Try.func34, Try.ntmps34
  go_wp2_with fail
  go_loopw [5] (fun iv wr => Below w.heap.size w wr ∧ ∃ k : Nat, k ≤ m ∧ iv = .int .i64 k ∧ cmpL (a.drop k) (b.drop k) = cmpL a b) (fun iv => fun _ => m - (intOf iv).toNat)
  case atStart => exact ⟨Below.refl _ _, 0, Nat.zero_le _, rfl, rfl⟩
  case round =>
    obtain ⟨hbw, k, hk, rfl, hc⟩ := hrel
    have HBW := Lib.hid hbw
    have HC := Lib.hid hc
    clear hc hbw
    by_cases hlt : k < m
    · have hka : k < a.length := by have := HM.out; omega
      have hkb : k < b.length := by have := HN.out; omega
      obtain ⟨g, o, rfl, hg, hcell⟩ := HR.out.2 (by omega)
      have c0 : wr.cell? ⟨g, o + k, none⟩ = some (.int .i64 a[k]) := (HBW.out.cell (p := ⟨g, o + k, none⟩) hg).trans (hcell k _ (by simp [hka, i64v]))
      clear hcell hg
      obtain ⟨g2, o2, rfl, hg2, hcell⟩ := HS.out.2 (by omega)
      have c1 : wr.cell? ⟨g2, o2 + k, none⟩ = some (.int .i64 b[k]) := (HBW.out.cell (p := ⟨g2, o2 + k, none⟩) hg2).trans (hcell k _ (by simp [hkb, i64v]))
      have hdr := cmpL_drop hka hkb
      have HDR := Lib.hid (hdr.symm.trans HC.out)
      obtain ⟨x, hx⟩ : ∃ x, a[k] = x := ⟨_, rfl⟩
      obtain ⟨y, hy⟩ : ∃ y, b[k] = y := ⟨_, rfl⟩
      rw [hx] at c0
      rw [hy] at c1
      have HDR2 : Hid ((if cmpI x y ≠ 0 then cmpI x y else cmpL (a.drop (k + 1)) (b.drop (k + 1))) = cmpL a b) := Lib.hid (by
        have := HDR.out
        rw [hx, hy] at this
        exact this)
      have hlt' : decide ((k : Int) < (m : Int)) = true := by simp; omega
      have hltI : (k : Int) < (m : Int) := by omega
      clear hcell hdr hx hy HDR hg2
      rcases Int.lt_trichotomy x y with h | h | h
      · have hne : (x != y) = true := by simp; omega
        have hdl : decide (x < y) = true := by simpa using h
        have HV : Hid (decide (cmpL a b < 0) = true) := Lib.hid (by
          have := HDR2.out
          have e : cmpI x y = -1 := by unfold cmpI; rw [if_pos h]
          rw [e, if_pos (by omega)] at this
          rw [← this]; rfl)
        clear h
        go_wp2_with fail
        go_region
        go_wp2_with fail
        go_region
        go_wp2
        go_ret
        exact ⟨ret_bool HV.out.symm, HBW.out.drew.drew⟩
      · subst h
        have hne : (x != x) = false := by simp
        have HV : Hid (cmpL (a.drop (k + 1)) (b.drop (k + 1)) = cmpL a b) := Lib.hid (by
          have := HDR2.out
          have e : cmpI x x = 0 := by unfold cmpI; simp
          rw [e, if_neg (by omega)] at this
          exact this)
        go_wp2_with fail
        go_region
        go_wp2_with fail
        go_roundw
        case rel => exact ⟨HBW.out.drew, k + 1, hlt, by go_num, HV.out⟩
        case measure => simp [intOf]; omega
      · have hne : (x != y) = true := by simp; omega
        have hdl : decide (x < y) = false := by simp; omega
        have HV : Hid (decide (cmpL a b < 0) = false) := Lib.hid (by
          have := HDR2.out
          have e : cmpI x y = 1 := by unfold cmpI; rw [if_neg (by omega), if_pos h]
          rw [e, if_pos (by omega)] at this
          rw [← this]; rfl)
        clear h
        go_wp2_with fail
        go_region
        go_wp2_with fail
        go_region
        go_wp2
        go_ret
        exact ⟨ret_bool HV.out.symm, HBW.out.drew.drew⟩
    · have hlt' : decide ((k : Int) < (m : Int)) = false := by simp; omega
      have HV : Hid (decide (cmpL a b < 0) = false) := Lib.hid (by
        rw [← HC.out, List.drop_eq_nil_of_le (by have := HM.out; omega), List.drop_eq_nil_of_le (by have := HN.out; omega)]; rfl)
      go_wp2
      go_ret
      exact ⟨ret_bool HV.out.symm, HBW.out⟩
end Go.Proofs.Ytlcnkicmepcppaa
