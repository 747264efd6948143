/- plan.may. -/
import Derived.Test.YtlcnkicmepcppaaPPure
namespace Go.Proofs.Ytlcnkicmepcppaa
open Go.RowKit

theorem RdI.bd {W : World} {v : Value} {l : List It} (h : RdI W v l) : ∃ A c, v = .slice A l.length c ∧ Rd W 2 A l.length (l.flatMap encI) := by
  obtain ⟨A, c, e, _, _, h3⟩ := h
  exact ⟨A, c, e, h3⟩
theorem imay_v (v : Value) (l : List It) (w : World) (h : RdI w v l) (hb : BdL l) : Calls Try.prog 35 #[v] w fun e w' => e = .returned (.bool (mayI l)) ∧ Below w.heap.size w w' := by
  obtain ⟨A, c, rfl, _, _, h3⟩ := h
  exact imay_any A c l w h3 hb.1 hb.2
theorem pm1_any (v : Value) (l : List It) (w : World) (h : RdI w v l) (hb : BdL l) : Calls Try.prog 37 #[v] w fun e w' => e = .returned (.bool (!mayI l)) ∧ Below w.heap.size w w' := by
  have H := Lib.hid (imay_v v l w h hb)
  clear h hb
  go_enter Try.func37, Try.ntmps37
  go_wp2_with fail
  refine H.out.mono ?_
  rintro e w1 ⟨rfl, hb⟩
  have HB := Lib.hid hb
  clear hb
  go_wp2
  go_ret
  exact ⟨rfl, HB.out⟩

set_option maxRecDepth 100000 in
set_option maxHeartbeats 1000000 in
theorem pidx_any (A : Option Addr) (c : Nat) (ls : List (List It)) (hs : List Value) (w : World) (hm : ls.length ≤ 4611686018427387903) (hr : Rd w 1 A ls.length hs) (hi : ∀ (j : Nat) (h : j < ls.length), ∃ u, hs[j]? = some u ∧ RdI w u ls[j]) (hb : ∀ l ∈ ls, BdL l) :
    Calls Try.prog 48 #[.slice A ls.length c, .func (.func 37) #[] #[]] w fun e w' => ∃ i : Int, e = .returned (.int .i64 i) ∧ decide (0 ≤ i) = !ls.all mayI ∧ Below w.heap.size w w' := by
  obtain ⟨m, hm2⟩ : ∃ m, ls.length = m := ⟨_, rfl⟩
  have HM := Lib.hid hm2
  have HR := Lib.hid hr
  have HI := Lib.hid hi
  have HB := Lib.hid hb
  rw [hm2] at hm ⊢
  clear hr hi hb hm2
  go_enter Try.func48, Try.ntmps48
  go_wp2
  go_loopw [8] (fun i wr => ∃ k : Nat, k ≤ m ∧ i = .int .i64 k ∧ Below w.heap.size w wr ∧ ∀ j (hj : j < ls.length), j < k → mayI ls[j] = true) (fun i _ => m - (intOf i).toNat)
  case atStart => exact ⟨0, Nat.zero_le _, rfl, Below.refl _ _, fun j hj hk => absurd hk (by omega)⟩
  case round =>
    obtain ⟨k, hk, rfl, hbw, hq⟩ := hrel
    have HQ := Lib.hid hq
    have HBW := Lib.hid hbw
    clear hq hbw
    by_cases hlt : k < m
    · have hkl : k < ls.length := by have := HM.out; omega
      obtain ⟨g, o, rfl, hg, hcell⟩ := HR.out.2 (by omega)
      obtain ⟨u, hu, hru⟩ := HI.out k hkl
      have c0 : wr.cell? ⟨g, o + k, none⟩ = some u := (HBW.out.cell (p := ⟨g, o + k, none⟩) hg).trans (hcell k u hu)
      have HC := Lib.hid (pm1_any u ls[k] wr (hru.below HBW.out) (HB.out _ (List.getElem_mem hkl)))
      obtain ⟨Au, cu, hue, _⟩ := hru
      obtain ⟨nu, hnu⟩ : ∃ nu, ls[k].length = nu := ⟨_, rfl⟩
      rw [hnu] at hue
      rw [hue] at c0 HC
      obtain ⟨V, hV⟩ : ∃ V, mayI ls[k] = V := ⟨_, rfl⟩
      rw [hV] at HC
      have HV := Lib.hid hV
      clear hcell hu hue hV hnu
      cases V
      · go_wp2_with fail
        refine HC.out.mono ?_
        rintro e w1 ⟨rfl, hb1⟩
        have HB1 := Lib.hid (HBW.out.trans (hb1.mono HBW.out.size))
        have HALL : Hid (ls.all mayI = false) := Lib.hid (List.all_eq_false.2 ⟨_, List.getElem_mem hkl, by rw [HV.out]; simp⟩)
        clear hb1 c0
        go_wp2
        go_ret
        exact ⟨_, rfl, by rw [HALL.out]; simp, HB1.out⟩
      · go_wp2_with fail
        refine HC.out.mono ?_
        rintro e w1 ⟨rfl, hb1⟩
        have HB1 := Lib.hid (HBW.out.trans (hb1.mono HBW.out.size))
        clear hb1 c0
        go_wp2
        go_roundw
        case rel =>
          refine ⟨k + 1, by omega, by go_num, HB1.out, fun j hj hk => ?_⟩
          rcases Nat.lt_or_ge j k with h | h
          · exact HQ.out j hj h
          · obtain rfl : j = k := by omega
            exact HV.out
        case measure => simp [intOf]; omega
    · have HALL : Hid (ls.all mayI = true) := Lib.hid (List.all_eq_true.2 fun x hx => by
        obtain ⟨j, hj, rfl⟩ := List.getElem_of_mem hx
        exact HQ.out j hj (by have := HM.out; omega))
      go_wp2
      go_ret
      exact ⟨_, rfl, by rw [HALL.out]; simp, HBW.out⟩
theorem pcont_any (A : Option Addr) (c : Nat) (ls : List (List It)) (hs : List Value) (w : World) (hm : ls.length ≤ 4611686018427387903) (hr : Rd w 1 A ls.length hs) (hi : ∀ (j : Nat) (h : j < ls.length), ∃ u, hs[j]? = some u ∧ RdI w u ls[j]) (hb : ∀ l ∈ ls, BdL l) :
    Calls Try.prog 36 #[.slice A ls.length c, .func (.func 37) #[] #[]] w fun e w' => e = .returned (.bool (!ls.all mayI)) ∧ Below w.heap.size w w' := by
  have H := Lib.hid (pidx_any A c ls hs w hm hr hi hb)
  clear hm hr hi hb
  go_enter Try.func36, Try.ntmps36
  go_wp2_with fail
  refine H.out.mono ?_
  rintro e w1 ⟨i, rfl, hi, hb⟩
  have HI := Lib.hid hi
  have HB := Lib.hid hb
  clear hi hb
  go_wp2
  go_ret
  exact ⟨ret_bool HI.out, HB.out⟩

set_option maxRecDepth 100000 in
set_option maxHeartbeats 1000000 in
theorem pmay_any (v1 v2 : Value) (want : List It) (offers : List (List It)) (w : World) (h1 : RdI w v1 want) (h2 : RdII w v2 offers) (hb1 : BdL want) (hb2 : ∀ l ∈ offers, BdL l) (hm : offers.length ≤ 4611686018427387903) :
    Calls Try.prog 21 #[v1, v2] w fun e w' => e = .returned (.bool (mayP want offers)) ∧ Below w.heap.size w w' := by
  obtain ⟨A2, c2, hs, rfl, hc1, hc2, hr, hi⟩ := h2
  have H1 := Lib.hid (imay_v v1 want w h1 hb1)
  have HR := Lib.hid hr
  have HI := Lib.hid hi
  have HB := Lib.hid hb2
  obtain ⟨m, hm2⟩ : ∃ m, offers.length = m := ⟨_, rfl⟩
  have HM := Lib.hid hm2
  obtain ⟨A1, c1, rfl, _⟩ := h1
  obtain ⟨n1, hn1⟩ : ∃ n1, want.length = n1 := ⟨_, rfl⟩
  have HMP : Hid (mayP want offers = (mayI want && decide (m ≤ 8) && offers.all mayI)) := Lib.hid (by unfold mayP; rw [hm2])
  obtain ⟨MW, hMW⟩ : ∃ MW, mayI want = MW := ⟨_, rfl⟩
  obtain ⟨MA, hMA⟩ : ∃ MA, offers.all mayI = MA := ⟨_, rfl⟩
  have HC : Hid (∀ W, Below w.heap.size w W → Calls Try.prog 36 #[.slice A2 m c2, .func (.func 37) #[] #[]] W fun e w' => e = .returned (.bool (!MA)) ∧ Below W.heap.size W w') := Lib.hid (fun W hW => by
    have := pcont_any A2 c2 offers hs W hm (HR.out.below hW) (fun j hj => by obtain ⟨u, k1, k2⟩ := HI.out j hj; exact ⟨u, k1, k2.below hW⟩) HB.out
    rw [hMA, hm2] at this
    exact this)
  rw [hMW] at H1
  rw [hMW, hMA] at HMP
  rw [hn1] at H1 ⊢
  rw [hm2] at ⊢ hm
  clear hr hi hb2 hb1 hm2 hn1 hMW hMA hc1 hc2
  go_enter Try.func21, Try.ntmps21
  go_wp2_with fail
  refine H1.out.mono ?_
  rintro e w1 ⟨rfl, hb⟩
  have HBW := Lib.hid hb
  clear hb
  cases MW
  · go_wp2
    go_ret
    exact ⟨ret_bool HMP.out.symm, HBW.out⟩
  · by_cases h8 : m ≤ 8
    · have h8' : decide ((m : Int) ≤ 8) = true := by simp; omega
      have HMP2 : Hid (mayP want offers = MA) := Lib.hid (by rw [HMP.out, decide_eq_true h8]; simp)
      go_wp2_with fail
      refine (HC.out w1 HBW.out).mono ?_
      rintro e w2 ⟨rfl, hb⟩
      have HB2 := Lib.hid (HBW.out.trans (hb.mono HBW.out.size))
      clear hb
      go_wp2
      go_ret
      exact ⟨ret_bool (by rw [HMP2.out]), HB2.out⟩
    · have h8' : decide ((m : Int) ≤ 8) = false := by simp; omega
      have HMP2 : Hid (mayP want offers = false) := Lib.hid (by rw [HMP.out, decide_eq_false h8]; rfl)
      go_wp2
      go_ret
      exact ⟨ret_bool HMP2.out.symm, HBW.out⟩
end Go.Proofs.Ytlcnkicmepcppaa
