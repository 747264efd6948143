/- Package count: May, none; the reference's May. -/
import Derived.Test.YtochhjdjfgiaeaaRows
import Derived.Test.YtochhjdjfgiaeaaMem3
import Derived.Lib.Hide
namespace Go.Proofs.Ytochhjdjfgiaeaa
open Go.RowKit

/-- May it be a count? -/
def mayN (n : Int) : Bool := decide (0 ≤ n) && decide (n ≤ 1099511627776)
def i64v (n : Int) : Value := .int .i64 n
theorem mayN_iff {n : Int} : mayN n = true ↔ 0 ≤ n ∧ n ≤ 1099511627776 := by simp [mayN]

theorem may_any (n : Int) (w : World) : Calls Try.prog 13 #[.int .i64 n] w fun e w' => e = .returned (.bool (mayN n)) ∧ w = w' := by
  go_enter Try.func13, Try.ntmps13
  by_cases h0 : 0 ≤ n
  · by_cases h1 : n ≤ 1099511627776
    all_goals
      go_wp2
      go_ret
      exact ⟨ret_bool (by simp [mayN]; omega), rfl⟩
  · go_wp2
    go_ret
    exact ⟨ret_bool (by simp [mayN]; omega), rfl⟩
theorem xmay_any (n : Int) (w : World) : Calls Try.prog 14 #[.int .i64 n] w fun e w' => e = .returned (.bool (mayN n)) ∧ w = w' := by
  go_enter Try.func14, Try.ntmps14
  by_cases h0 : 0 ≤ n
  · by_cases h1 : n ≤ 1099511627776
    all_goals
      go_wp2
      go_ret
      exact ⟨ret_bool (by simp [mayN]; omega), rfl⟩
  · go_wp2
    go_ret
    exact ⟨ret_bool (by simp [mayN]; omega), rfl⟩
theorem none1_any (n : Int) (w : World) : Calls Try.prog 42 #[.int .i64 n] w fun e w' => e = .returned (.bool (!mayN n)) ∧ w = w' := by
  go_enter Try.func42, Try.ntmps42
  go_wp2_with fail
  refine (may_any n w).mono ?_
  rintro e w1 ⟨rfl, rfl⟩
  go_wp2
  go_ret
  exact ⟨rfl, rfl⟩

/-- Is one of these no count? -/
def noneN (xs : List Int) : Bool := xs.any fun n => !mayN n

set_option maxHeartbeats 1000000 in
theorem nidx_any (A : Option Addr) (c : Nat) (xs : List Int) (w : World) (hm : xs.length ≤ 9223372036854775807) (hr : Rd w 1 A xs.length (xs.map i64v)) :
    Calls Try.prog 51 #[.slice A xs.length c, .func (.func 42) #[] #[]] w fun e w' => ∃ i : Int, e = .returned (.int .i64 i) ∧ decide (0 ≤ i) = noneN xs ∧ w = w' := by
  have HM := Lib.hid hm
  have HR := Lib.hid hr
  go_enter Try.func51, Try.ntmps51
  clear hr
  go_wp2
  go_loopw [8] (fun i wr => ∃ k : Nat, k ≤ xs.length ∧ i = .int .i64 k ∧ w = wr ∧ ∀ j (hj : j < xs.length), j < k → mayN xs[j] = true) (fun i _ => xs.length - (intOf i).toNat)
  case atStart => exact ⟨0, Nat.zero_le _, rfl, rfl, fun j hj hk => absurd hk (by omega)⟩
  case round =>
    obtain ⟨k, hk, rfl, rfl, hq⟩ := hrel
    have HQ := Lib.hid hq
    clear hq
    by_cases hlt : k < xs.length
    · obtain ⟨g, o, rfl, hg, hcell⟩ := HR.out.2 (by simpa using (by omega : 0 < xs.length))
      have c0 : w.cell? ⟨g, o + k, none⟩ = some (.int .i64 xs[k]) := hcell k _ (by simp [hlt, i64v])
      clear hcell
      cases hv : mayN xs[k]
      · have HV := Lib.hid hv
        clear hv
        go_wp2_with fail
        refine (none1_any _ _).mono ?_
        rintro e w1 ⟨rfl, rfl⟩
        rw [HV.out]
        go_wp2
        go_ret
        refine ⟨_, rfl, ?_, rfl⟩
        rw [show noneN xs = true from List.any_eq_true.2 ⟨xs[k], List.getElem_mem hlt, by rw [HV.out]; rfl⟩]
        simp
      · have HV := Lib.hid hv
        clear hv
        go_wp2_with fail
        refine (none1_any _ _).mono ?_
        rintro e w1 ⟨rfl, rfl⟩
        rw [HV.out]
        go_wp2
        go_roundw
        case rel =>
          refine ⟨k + 1, by omega, by go_num, trivial, fun j hj hk => ?_⟩
          rcases Nat.lt_or_ge j k with h | h
          · exact HQ.out j hj h
          · obtain rfl : j = k := by omega
            exact HV.out
        case measure => simp [intOf]; omega
    · go_wp2
      go_ret
      refine ⟨_, rfl, ?_, rfl⟩
      rw [show noneN xs = false from by
        unfold noneN
        rw [List.any_eq_false]
        intro x hx
        obtain ⟨j, hj, rfl⟩ := List.getElem_of_mem hx
        rw [HQ.out j hj (by omega)]
        simp]
      simp
theorem ncont_any (A : Option Addr) (c : Nat) (xs : List Int) (w : World) (hm : xs.length ≤ 9223372036854775807) (hr : Rd w 1 A xs.length (xs.map i64v)) :
    Calls Try.prog 41 #[.slice A xs.length c, .func (.func 42) #[] #[]] w fun e w' => e = .returned (.bool (noneN xs)) ∧ w = w' := by
  go_enter Try.func41, Try.ntmps41
  go_wp2_with fail
  refine (nidx_any A c xs w hm hr).mono ?_
  rintro e w1 ⟨i, rfl, hi, rfl⟩
  have HI := Lib.hid hi
  clear hi hm hr
  go_wp2
  go_ret
  exact ⟨ret_bool HI.out, rfl⟩
theorem none_any (A : Option Addr) (c : Nat) (xs : List Int) (w : World) (hm : xs.length ≤ 9223372036854775807) (hr : Rd w 1 A xs.length (xs.map i64v)) :
    Calls Try.prog 27 #[.slice A xs.length c] w fun e w' => e = .returned (.bool (noneN xs)) ∧ w = w' := by
  go_enter Try.func27, Try.ntmps27
  go_wp2_with fail
  refine (ncont_any A c xs w hm hr).mono ?_
  rintro e w1 ⟨rfl, rfl⟩
  clear hm hr
  go_wp2
  go_ret
  exact ⟨rfl, rfl⟩
end Go.Proofs.Ytochhjdjfgiaeaa
