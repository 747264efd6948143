/- The walk of the law PlanFewest. -/
import Derived.Test.YtlcnkicmepcppaaXFew
import Derived.Test.YtlcnkicmepcppaaPLives
namespace Go.Proofs.Ytlcnkicmepcppaa
open Go.RowKit

set_option maxRecDepth 100000 in
set_option maxHeartbeats 1000000 in
theorem xfew_none (v1 v2 : Value) (offers : List (List It)) (w : World) (h1 : RdI w v1 []) (h2 : RdII w v2 offers) :
    Calls Try.prog 19 #[v1, v2] w (RetR w []) := by
  obtain ⟨A1, c1, rfl, _, _, _⟩ := h1
  obtain ⟨A2, c2, hs2, rfl, _, _, _, _⟩ := h2
  obtain ⟨m, hm2⟩ : ∃ m, offers.length = m := ⟨_, rfl⟩
  rw [hm2, List.length_nil]
  clear hm2
  go_enter Try.func19, Try.ntmps19
  go_wp2
  go_ret
  exact ⟨_, rfl, RdN.nil _, Below.refl _ _⟩
theorem xfew_all (v1 v2 : Value) (want : List It) (offers : List (List It)) (w : World) (h1 : RdI w v1 want) (h2 : RdII w v2 offers) (hmp : mayP want offers = true) :
    Calls Try.prog 19 #[v1, v2] w (RetR w (intsN (fewP want offers))) := by
  by_cases hw : want = []
  · subst hw
    have e : fewP [] offers = [] := by unfold fewP; rw [if_pos (.inl rfl)]
    rw [e]
    exact xfew_none v1 v2 offers w h1 h2
  · rw [← few_same hw hmp]
    exact xfewest_any v1 v2 want offers w h1 h2 hmp hw
set_option maxRecDepth 100000 in
set_option maxHeartbeats 1000000 in
theorem pfew_any (v1 v2 : Value) (want : List It) (offers : List (List It)) (w : World) (h1 : RdI w v1 want) (h2 : RdII w v2 offers) (hb1 : BdL want) (hb2 : ∀ l ∈ offers, BdL l) (hm : offers.length ≤ 4611686018427387903) :
    Calls Try.prog 5 #[v1, v2] w fun e W => e = .returned (.bool true) ∧ Below w.heap.size w W := by
  have HS := Lib.hid (psmall_any v1 v2 want offers w h1 h2)
  have HF := Lib.hid (fewest_any v1 v2 want offers w h1 h2 hb1 hb2 hm)
  have H1 := Lib.hid h1
  have H2 := Lib.hid h2
  obtain ⟨A1, c1, rfl, _, _, _⟩ := h1
  obtain ⟨A2, c2, hs2, rfl, _, _, _, _⟩ := h2
  obtain ⟨m, hm2⟩ : ∃ m, offers.length = m := ⟨_, rfl⟩
  obtain ⟨n1, hn1⟩ : ∃ n1, want.length = n1 := ⟨_, rfl⟩
  obtain ⟨SP, hSP⟩ : ∃ SP, smallP want offers = SP := ⟨_, rfl⟩
  rw [hSP] at HS
  rw [hm2] at HS HF H2 ⊢
  rw [hn1] at HS HF H1 ⊢
  clear hn1 hm2 hSP hm
  go_enter Try.func5, Try.ntmps5
  go_wp2_with fail
  refine HS.out.mono ?_
  rintro e w1 ⟨rfl, rfl⟩
  cases SP
  · go_wp2_with fail
    refine (plives_any w).mono ?_
    rintro e w1 ⟨rfl, hb⟩
    go_wp2
    go_ret
    exact ⟨rfl, hb⟩
  · go_wp2_with fail
    refine HF.out.mono ?_
    rintro e w1 ⟨u, rfl, hx, hb⟩
    obtain ⟨l, hl⟩ : ∃ l, intsN (fewP want offers) = l := ⟨_, rfl⟩
    have HL := Lib.hid hl
    rw [hl] at hx
    obtain ⟨Ax, cx, rfl, hrx⟩ := hx
    have HRX := Lib.hid hrx
    have HB1 := Lib.hid hb
    obtain ⟨n, hn⟩ : ∃ n, l.length = n := ⟨_, rfl⟩
    have hn8 : n ≤ 8 := by
      rw [← hn, ← HL.out, intsN_len]
      unfold fewP
      split
      · simp
      · exact fewK_len _ _ _
    have HN := Lib.hid hn
    rw [hn]
    clear hl hrx hb hn HF HS
    go_wp2_with fail
    refine (plives_any w1).mono ?_
    rintro e w2 ⟨rfl, hb⟩
    have HRX2 := Lib.hid (HRX.out.below hb)
    have HB2 := Lib.hid (HB1.out.trans (hb.mono HB1.out.size))
    clear hb
    go_wp2_with fail
    refine (xpmay_any _ _ want offers w2 (H1.out.below HB2.out) (H2.out.below HB2.out) hb1 hb2).mono ?_
    rintro e w3 ⟨rfl, hb⟩
    have HRX3 := Lib.hid (HRX2.out.below hb)
    have HB3 := Lib.hid (HB2.out.trans (hb.mono HB2.out.size))
    clear hb
    obtain ⟨MP, hMP⟩ : ∃ MP, mayP want offers = MP := ⟨_, rfl⟩
    rw [hMP]
    have HMP := Lib.hid hMP
    clear hMP
    cases MP
    · have hn0 : n = 0 := by
        rw [← HN.out, ← HL.out, intsN_len]
        unfold fewP
        rw [if_pos (.inr (by unfold enoughR; rw [HMP.out]; rfl))]
        rfl
      subst hn0
      go_wp2
      go_ret
      exact ⟨by simp, HB3.out⟩
    · go_wp2_with fail
      refine (xfew_all _ _ want offers w3 (H1.out.below HB3.out) (H2.out.below HB3.out) HMP.out).mono ?_
      rintro e w4 ⟨u, rfl, hy, hb⟩
      rw [HL.out] at hy
      obtain ⟨Ay, cy, rfl, hry⟩ := hy
      have HRY := Lib.hid hry
      have HRX4 := Lib.hid (HRX3.out.below hb)
      have HB4 := Lib.hid (HB3.out.trans (hb.mono HB3.out.size))
      rw [HN.out]
      clear hry hb
      go_wp2_with fail
      go_loopw [7] (fun iv wr => Below w4.heap.size w4 wr ∧ ∃ k : Nat, k ≤ n ∧ iv = .int .i64 k) (fun iv => fun _ => n - (intOf iv).toNat)
      case atStart => exact ⟨Below.refl _ _, 0, Nat.zero_le _, rfl⟩
      case round =>
        obtain ⟨hbr, k, hk, rfl⟩ := hrel
        have HBR := Lib.hid hbr
        clear hbr
        by_cases hlt : k < n
        · have hkl : k < l.length := by have := HN.out; omega
          obtain ⟨g, o, rfl, hg, hcell⟩ := HRX4.out.2 (by omega)
          have c0 : wr.cell? ⟨g, o + k, none⟩ = some (.int .i64 l[k]) := (HBR.out.cell (p := ⟨g, o + k, none⟩) hg).trans (hcell k _ (by simp [hkl, i64v]))
          clear hcell hg
          obtain ⟨g2, o2, rfl, hg2, hcell⟩ := HRY.out.2 (by omega)
          have c1 : wr.cell? ⟨g2, o2 + k, none⟩ = some (.int .i64 l[k]) := (HBR.out.cell (p := ⟨g2, o2 + k, none⟩) hg2).trans (hcell k _ (by simp [hkl, i64v]))
          obtain ⟨x, hx⟩ : ∃ x, l[k] = x := ⟨_, rfl⟩
          rw [hx] at c0 c1
          have hlt' : decide ((k : Int) < (n : Int)) = true := by simp; omega
          have hltI : (k : Int) < (n : Int) := by omega
          clear hcell hg2 hx
          go_wp2_with fail
          go_region
          go_wp2_with fail
          go_roundw
          case rel => exact ⟨HBR.out.drew, k + 1, hlt, by go_num⟩
          case measure => simp [intOf]; omega
        · have ekm : k = n := by omega
          have hlt' : decide ((k : Int) < (n : Int)) = false := by simp; omega
          subst ekm
          go_wp2
          go_ret
          exact ⟨by simp, HB4.out.trans (HBR.out.mono HB4.out.size)⟩
end Go.Proofs.Ytlcnkicmepcppaa
