/- The law's small, the reference's May. -/
import Derived.Test.YtlcnkicmepcppaaXSame
import Derived.Test.YtlcnkicmepcppaaIXMay
namespace Go.Proofs.Ytlcnkicmepcppaa
open Go.RowKit

/-- May this be asked? -/
def smallP (want : List It) (offers : List (List It)) : Bool := decide (want.length ≤ 100) && decide (offers.length ≤ 50) && offers.all (fun o => decide (o.length ≤ 100))
set_option maxRecDepth 100000 in
set_option maxHeartbeats 1000000 in
theorem psmall_any (v1 v2 : Value) (want : List It) (offers : List (List It)) (w : World) (h1 : RdI w v1 want) (h2 : RdII w v2 offers) :
    Calls Try.prog 10 #[v1, v2] w fun e W => e = .returned (.bool (smallP want offers)) ∧ w = W := by
  obtain ⟨A1, c1, rfl, _⟩ := h1
  obtain ⟨A2, c2, hs, rfl, _, _, hr, hi⟩ := h2
  have HR := Lib.hid hr
  have HI := Lib.hid hi
  obtain ⟨m, hm2⟩ : ∃ m, offers.length = m := ⟨_, rfl⟩
  obtain ⟨n, hn2⟩ : ∃ n, want.length = n := ⟨_, rfl⟩
  have HSP : Hid (smallP want offers = (decide (n ≤ 100) && decide (m ≤ 50) && offers.all (fun o => decide (o.length ≤ 100)))) := Lib.hid (by unfold smallP; rw [hm2, hn2])
  have HM := Lib.hid hm2
  rw [hm2, hn2]
  clear hr hi hm2 hn2
  go_enter Try.func10, Try.ntmps10
  by_cases hn : n ≤ 100
  · have d1 : decide ((100 : Int) < (n : Int)) = false := by simp; omega
    by_cases hm : m ≤ 50
    · have d2 : decide ((50 : Int) < (m : Int)) = false := by simp; omega
      have HSP2 : Hid (smallP want offers = offers.all (fun o => decide (o.length ≤ 100))) := Lib.hid (by rw [HSP.out, decide_eq_true hn, decide_eq_true hm]; simp)
      clear HSP
      go_wp2_with fail
      go_loopw [5] (fun iv wr => w = wr ∧ ∃ k : Nat, k ≤ m ∧ iv = .int .i64 k ∧ ∀ j (hj : j < offers.length), j < k → offers[j].length ≤ 100) (fun iv => fun _ => m - (intOf iv).toNat)
      case atStart => exact ⟨rfl, 0, Nat.zero_le _, rfl, fun j hj h => absurd h (by omega)⟩
      case round =>
        obtain ⟨rfl, k, hk, rfl, hq⟩ := hrel
        have HQ := Lib.hid hq
        clear hq
        by_cases hlt : k < m
        · have hkl : k < offers.length := by have := HM.out; omega
          obtain ⟨g, o, rfl, hg, hcell⟩ := HR.out.2 (by omega)
          obtain ⟨u, hu, hru⟩ := HI.out k hkl
          have c0 : w.cell? ⟨g, o + k, none⟩ = some u := hcell k u hu
          obtain ⟨Au, cu, rfl, _⟩ := hru
          obtain ⟨nu, hnu⟩ : ∃ nu, offers[k].length = nu := ⟨_, rfl⟩
          rw [hnu] at c0
          have HNU := Lib.hid hnu
          have hkm : decide ((k : Int) < (m : Int)) = true := by simp; omega
          clear hcell hu hnu hg
          by_cases hu1 : nu ≤ 100
          · have d3 : decide ((100 : Int) < (nu : Int)) = false := by simp; omega
            go_wp2_with fail
            go_roundw
            case rel =>
              refine ⟨trivial, k + 1, hlt, by go_num, fun j hj hjk => ?_⟩
              rcases Nat.lt_or_ge j k with h | h
              · exact HQ.out j hj h
              · obtain rfl : j = k := by omega
                rw [HNU.out]; exact hu1
            case measure => simp [intOf]; omega
          · have d3 : decide ((100 : Int) < (nu : Int)) = true := by simp; omega
            have HALL : Hid (offers.all (fun o => decide (o.length ≤ 100)) = false) := Lib.hid (List.all_eq_false.2 ⟨_, List.getElem_mem hkl, by simp only [decide_eq_true_eq]; rw [HNU.out]; exact hu1⟩)
            go_wp2
            go_ret
            exact ⟨ret_bool (by rw [HSP2.out, HALL.out]), rfl⟩
        · have HALL : Hid (offers.all (fun o => decide (o.length ≤ 100)) = true) := Lib.hid (List.all_eq_true.2 fun x hx => by
            obtain ⟨j, hj, rfl⟩ := List.getElem_of_mem hx
            exact decide_eq_true (HQ.out j hj (by have := HM.out; omega)))
          have ekm : k = m := by omega
          have hkm : decide ((k : Int) < (m : Int)) = false := by simp; omega
          subst ekm
          go_wp2
          go_ret
          exact ⟨ret_bool (by rw [HSP2.out, HALL.out]), rfl⟩
    · have d2 : decide ((50 : Int) < (m : Int)) = true := by simp; omega
      have HSP2 : Hid (smallP want offers = false) := Lib.hid (by rw [HSP.out, decide_eq_false hm]; simp)
      go_wp2
      go_ret
      exact ⟨ret_bool HSP2.out.symm, rfl⟩
  · have d1 : decide ((100 : Int) < (n : Int)) = true := by simp; omega
    have HSP2 : Hid (smallP want offers = false) := Lib.hid (by rw [HSP.out, decide_eq_false hn]; simp)
    go_wp2
    go_ret
    exact ⟨ret_bool HSP2.out.symm, rfl⟩
end Go.Proofs.Ytlcnkicmepcppaa
