/- The walks of AskOwners and AskHomes. -/
import Derived.Test.YtjgdcdojigcefaaALives
namespace Go.Proofs.Ytjgdcdojigcefaa
open Go.RowKit

set_option maxRecDepth 100000 in
theorem owners_any (o : Int) (w : World) (ho : -9223372036854775808 ≤ o ∧ o ≤ 9223372036854775807) :
    Calls Try.prog 7 #[.int .i64 o] w fun e W => e = .returned (.bool true) ∧ Below w.heap.size w W := by
  have HL := Lib.hid (alives_any w)
  by_cases h : o < 1
  · have HO : Hid (ownA o = 0) := Lib.hid (by unfold ownA; rw [if_pos h])
    go_enter Try.func7, Try.ntmps7
    go_wp2_with fail
    refine HL.out.mono ?_
    rintro e w1 ⟨rfl, hb⟩
    have HB := Lib.hid hb
    clear hb
    go_wp2_with fail
    refine (owner_any o w1).mono ?_
    rintro e w2 ⟨rfl, rfl⟩
    rw [HO.out]
    go_wp2
    go_ret
    exact ⟨rfl, HB.out⟩
  · have HO : Hid (ownA o = o % 64) := Lib.hid (by unfold ownA; rw [if_neg h])
    have h0 : 0 ≤ o := by omega
    go_enter Try.func7, Try.ntmps7
    go_wp2_with fail
    refine HL.out.mono ?_
    rintro e w1 ⟨rfl, hb⟩
    have HB := Lib.hid hb
    clear hb
    go_wp2_with fail
    refine (owner_any o w1).mono ?_
    rintro e w2 ⟨rfl, rfl⟩
    rw [HO.out]
    go_wp2
    go_ret
    exact ⟨ret_bool (by first | simp | (simp [Int.tmod_eq_emod_of_nonneg h0])), HB.out⟩
set_option maxRecDepth 100000 in
theorem homes_any (c r : Int) (w : World) (hc : -9223372036854775808 ≤ c ∧ c ≤ 9223372036854775807) (hr : -9223372036854775808 ≤ r ∧ r ≤ 9223372036854775807) :
    Calls Try.prog 8 #[.int .i64 c, .int .i64 r] w fun e W => e = .returned (.bool true) ∧ Below w.heap.size w W := by
  have HL := Lib.hid (alives_any w)
  have HH := Lib.hid (home_any c r w)
  have HZ : Hid ((c < 0 ∨ r < 1) → homeA c r = 0) := Lib.hid (fun h => by unfold homeA; rw [if_pos h])
  by_cases h : c < 0
  · rw [HZ.out (.inl h)] at HH
    go_enter Try.func8, Try.ntmps8
    go_wp2_with fail
    refine HH.out.mono ?_
    rintro e w2 ⟨rfl, rfl⟩
    go_wp2_with fail
    refine HL.out.mono ?_
    rintro e w1 ⟨rfl, hb⟩
    have HB := Lib.hid hb
    clear hb
    go_wp2
    go_ret
    exact ⟨rfl, HB.out⟩
  by_cases h2 : r < 1
  · rw [HZ.out (.inr h2)] at HH
    go_enter Try.func8, Try.ntmps8
    go_wp2_with fail
    refine HH.out.mono ?_
    rintro e w2 ⟨rfl, rfl⟩
    go_wp2_with fail
    refine HL.out.mono ?_
    rintro e w1 ⟨rfl, hb⟩
    have HB := Lib.hid hb
    clear hb
    go_wp2
    go_ret
    exact ⟨rfl, HB.out⟩
  have HO : Hid (homeA c r = c % r) := Lib.hid (by unfold homeA; rw [if_neg (by omega)])
  have h0 : ¬ r = 0 := by omega
  have h1 : (r == 0) = false := by simp; omega
  have hc0 : 0 ≤ c := by omega
  have g1 : 0 ≤ c % r := Int.emod_nonneg _ h0
  have g2 : c % r < r := Int.emod_lt_of_pos _ (by omega)
  have g4 : c < r → c % r = c := fun h => Int.emod_eq_of_lt hc0 h
  have g5 : c.tmod r = c % r := Int.tmod_eq_emod_of_nonneg hc0
  have hmr : ¬ r = -1 := by omega
  obtain ⟨H0, hH⟩ : ∃ H0, c % r = H0 := ⟨_, rfl⟩
  rw [HO.out] at HH
  rw [hH] at g1 g2 g4 HH g5
  have HQ := Lib.hid (show ¬ ((H0 : Int) < 0) by omega)
  by_cases h9 : c < r
  · have q := g4 h9
    subst q
    go_enter Try.func8, Try.ntmps8
    go_wp2_with fail
    refine HH.out.mono ?_
    rintro e w2 ⟨rfl, rfl⟩
    go_wp2_with fail
    refine HL.out.mono ?_
    rintro e w1 ⟨rfl, hb⟩
    have HB := Lib.hid hb
    clear hb
    go_wp2
    go_ret
    exact ⟨ret_bool (by simp), HB.out⟩
  · go_enter Try.func8, Try.ntmps8
    go_wp2_with fail
    refine HH.out.mono ?_
    rintro e w2 ⟨rfl, rfl⟩
    go_wp2_with fail
    refine HL.out.mono ?_
    rintro e w1 ⟨rfl, hb⟩
    have HB := Lib.hid hb
    clear hb
    go_wp2
    go_ret
    exact ⟨ret_bool (by simp), HB.out⟩
end Go.Proofs.Ytjgdcdojigcefaa
