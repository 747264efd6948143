/- The reference's May of chapter 14. -/
import Derived.Test.YtlcnkicmepcppaaPSmall
namespace Go.Proofs.Ytlcnkicmepcppaa
open Go.RowKit

theorem xmay_v (v : Value) (l : List It) (w : World) (h : RdI w v l) (hb : BdL l) : Calls Try.prog 25 #[v] w fun e w' => e = .returned (.bool (mayI l)) ∧ Below w.heap.size w w' := by
  obtain ⟨A, c, rfl, _, _, h3⟩ := h
  exact xmayI_any A c l w h3 hb.1 hb.2
set_option maxRecDepth 100000 in
set_option maxHeartbeats 1000000 in
theorem xpmay_any (v1 v2 : Value) (want : List It) (offers : List (List It)) (w : World) (h1 : RdI w v1 want) (h2 : RdII w v2 offers) (hb1 : BdL want) (hb2 : ∀ l ∈ offers, BdL l) :
    Calls Try.prog 13 #[v1, v2] w fun e W => e = .returned (.bool (mayP want offers)) ∧ Below w.heap.size w W := by
  have HC1 := Lib.hid (xmay_v v1 want w h1 hb1)
  obtain ⟨A1, c1, rfl, _⟩ := h1
  obtain ⟨A2, c2, hs, rfl, _, _, hr, hi⟩ := h2
  have HR := Lib.hid hr
  have HI := Lib.hid hi
  have HB := Lib.hid hb2
  obtain ⟨m, hm2⟩ : ∃ m, offers.length = m := ⟨_, rfl⟩
  obtain ⟨n, hn2⟩ : ∃ n, want.length = n := ⟨_, rfl⟩
  obtain ⟨MW, hMW⟩ : ∃ MW, mayI want = MW := ⟨_, rfl⟩
  have HSP : Hid (mayP want offers = (MW && decide (m ≤ 8) && offers.all mayI)) := Lib.hid (by unfold mayP; rw [hm2, hMW])
  have HM := Lib.hid hm2
  rw [hm2]
  rw [hn2] at HC1 ⊢
  rw [hMW] at HC1
  clear hr hi hm2 hn2 hMW hb1 hb2
  go_enter Try.func13, Try.ntmps13
  go_wp2_with fail
  refine HC1.out.mono ?_
  rintro e w1 ⟨rfl, hb⟩
  have HB1 := Lib.hid hb
  clear hb HC1
  cases MW
  · go_wp2
    go_ret
    exact ⟨ret_bool HSP.out.symm, HB1.out⟩
  · by_cases hm : m ≤ 8
    · have d2 : decide ((8 : Int) < (m : Int)) = false := by simp; omega
      have HSP2 : Hid (mayP want offers = offers.all mayI) := Lib.hid (by rw [HSP.out, decide_eq_true hm]; simp)
      clear HSP
      go_wp2_with fail
      go_loopw [5] (fun iv wr => ∃ k : Nat, k ≤ m ∧ iv = .int .i64 k ∧ Below w.heap.size w wr ∧ ∀ j (hj : j < offers.length), j < k → mayI offers[j] = true) (fun iv => fun _ => m - (intOf iv).toNat)
      case atStart => exact ⟨0, Nat.zero_le _, rfl, HB1.out, fun j hj h => absurd h (by omega)⟩
      case round =>
        obtain ⟨k, hk, rfl, hbw, hq⟩ := hrel
        have HQ := Lib.hid hq
        have HBW := Lib.hid hbw
        clear hq hbw
        by_cases hlt : k < m
        · have hkl : k < offers.length := by have := HM.out; omega
          obtain ⟨g, o, rfl, hg, hcell⟩ := HR.out.2 (by omega)
          obtain ⟨u, hu, hru⟩ := HI.out k hkl
          have c0 : wr.cell? ⟨g, o + k, none⟩ = some u := (HBW.out.cell (p := ⟨g, o + k, none⟩) hg).trans (hcell k u hu)
          have HCC := Lib.hid (xmay_v u offers[k] wr (hru.below HBW.out) (HB.out _ (List.getElem_mem hkl)))
          obtain ⟨Au, cu, rfl, _⟩ := hru
          obtain ⟨nu, hnu⟩ : ∃ nu, offers[k].length = nu := ⟨_, rfl⟩
          obtain ⟨T, hT⟩ : ∃ T, mayI offers[k] = T := ⟨_, rfl⟩
          rw [hnu] at c0 HCC
          rw [hT] at HCC
          have HT := Lib.hid hT
          have hkm : decide ((k : Int) < (m : Int)) = true := by simp; omega
          clear hcell hu hnu hg hT
          go_wp2_with fail
          refine HCC.out.mono ?_
          rintro e w2 ⟨rfl, hb⟩
          have HBW2 := Lib.hid (HBW.out.trans (hb.mono HBW.out.size))
          clear hb c0
          cases T
          · have HALL : Hid (offers.all mayI = false) := Lib.hid (List.all_eq_false.2 ⟨_, List.getElem_mem hkl, by rw [HT.out]; simp⟩)
            go_wp2
            go_ret
            exact ⟨ret_bool (by rw [HSP2.out, HALL.out]), HBW2.out⟩
          · go_wp2_with fail
            go_roundw
            case rel =>
              refine ⟨k + 1, hlt, by go_num, HBW2.out, fun j hj hjk => ?_⟩
              rcases Nat.lt_or_ge j k with h | h
              · exact HQ.out j hj h
              · obtain rfl : j = k := by omega
                exact HT.out
            case measure => simp [intOf]; omega
        · have HALL : Hid (offers.all mayI = true) := Lib.hid (List.all_eq_true.2 fun x hx => by
            obtain ⟨j, hj, rfl⟩ := List.getElem_of_mem hx
            exact HQ.out j hj (by have := HM.out; omega))
          have ekm : k = m := by omega
          have hkm : decide ((k : Int) < (m : Int)) = false := by simp; omega
          subst ekm
          go_wp2
          go_ret
          exact ⟨ret_bool (by rw [HSP2.out, HALL.out]), HBW.out⟩
    · have d2 : decide ((8 : Int) < (m : Int)) = true := by simp; omega
      have HSP2 : Hid (mayP want offers = false) := Lib.hid (by rw [HSP.out, decide_eq_false hm]; simp)
      go_wp2
      go_ret
      exact ⟨ret_bool HSP2.out.symm, HB1.out⟩
end Go.Proofs.Ytlcnkicmepcppaa
