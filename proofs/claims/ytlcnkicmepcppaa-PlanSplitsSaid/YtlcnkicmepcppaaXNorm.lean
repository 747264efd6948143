/- The reference's Norm, of good items whose sums are in range. -/
import Derived.Test.YtlcnkicmepcppaaXPut
namespace Go.Proofs.Ytlcnkicmepcppaa
open Go.RowKit

theorem good_size {s : ByteArray} (h : goodS s = true) : s.size ≤ 9223372036854775807 := by
  unfold goodS at h
  simp only [Bool.and_eq_true, decide_eq_true_eq] at h
  omega
theorem mayC_of {n : Int} (h1 : 1 ≤ n) (h2 : n ≤ 1099511627776) : mayC n = true := by
  unfold mayC
  simp
  omega
/-- What Norm leaves. -/
def RetNm (w : World) (l : List It) (e : Ending) (W : World) : Prop := ∃ u, e = .returned (.tuple #[u, .int .i64 0]) ∧ RdI W u l ∧ Below w.heap.size w W
set_option maxRecDepth 100000 in
set_option maxHeartbeats 2000000 in
theorem xnorm_any (A : Option Addr) (c : Nat) (L : List It) (w : World) (hr : Rd w 2 A L.length (L.flatMap encI)) (hok : ∀ x ∈ L, okItem x = true) (hsum : ∀ g, ofI L g ≤ 1099511627776) (hlen : ∀ k, k ≤ L.length → (normK L k).length ≤ 16) (hm : L.length ≤ 1000) :
    Calls Try.prog 17 #[.slice A L.length c] w (RetNm w (normK L L.length)) := by
  have HOK := Lib.hid hok
  have HPOS : Hid (∀ x ∈ L, 1 ≤ x.n ∧ x.n ≤ 1099511627776) := Lib.hid (fun x hx => (okItem_iff.1 (hok x hx)).2)
  have HSUM := Lib.hid hsum
  have HLEN := Lib.hid hlen
  have HR := Lib.hid hr
  obtain ⟨m, hm2⟩ : ∃ m, L.length = m := ⟨_, rfl⟩
  have HM := Lib.hid hm2
  rw [hm2] at hm ⊢
  clear hr hok hsum hlen hm2
  go_enter Try.func17, Try.ntmps17
  go_wp2_with fail
  go_loop [4] (fun iv => ∃ k : Nat, k ≤ m ∧ iv = .int .i64 k) (fun iv => m - (intOf iv).toNat)
  case atStart => exact ⟨0, Nat.zero_le _, rfl⟩
  case round =>
    obtain ⟨k, hk, rfl⟩ := hrel
    by_cases hlt : k < m
    · have hkl : k < L.length := by have := HM.out; omega
      obtain ⟨g, o, rfl, hg, c0, c1⟩ := rdi_at HR.out hkl
      obtain ⟨q1, q2, q3⟩ := okItem_iff.1 (HOK.out _ (List.getElem_mem hkl))
      obtain ⟨z, hz⟩ : ∃ z, L[k] = z := ⟨_, rfl⟩
      rw [hz] at c0 c1 q1 q2 q3
      obtain ⟨gd, n⟩ := z
      simp only at c0 c1 q1 q2 q3
      have hlt' : decide ((k : Int) < (m : Int)) = true := by simp; omega
      have hltI : (k : Int) < (m : Int) := by omega
      have H1 := Lib.hid (xgood_any gd w (good_size q1))
      have H2 := Lib.hid (xcmay_any n w)
      rw [q1] at H1
      rw [mayC_of q2 q3] at H2
      clear hz hg q1 q2 q3
      go_wp2_with fail
      refine H1.out.mono ?_
      rintro e w1 ⟨rfl, rfl⟩
      go_wp2_with fail
      refine H2.out.mono ?_
      rintro e w1 ⟨rfl, rfl⟩
      go_wp2_with fail
      go_round
      case rel => exact ⟨k + 1, by omega, by go_num⟩
      case measure => simp [intOf]; omega
    · have ekm : k = m := by omega
      have hlt' : decide ((k : Int) < (m : Int)) = false := by simp; omega
      go_wp2_with fail
      clear hlt hlt' ekm hk
      go_loopw [5, 6] (fun ov iv wr => ∃ k : Nat, k ≤ m ∧ iv = .int .i64 k ∧ wr.ownsRow w.heap.size 40 2 ov (normK L k).length ((normK L k).flatMap encI) ∧ Below w.heap.size w wr) (fun _ iv => fun _ => m - (intOf iv).toNat)
      case atStart => exact ⟨0, Nat.zero_le _, rfl, World.ownsRow_nil _ _ _ _, Below.refl _ _⟩
      case round =>
        obtain ⟨k, hk, rfl, ho, hbw⟩ := hrel
        have HO := Lib.hid ho
        have HBW := Lib.hid hbw
        have hl16 := HLEN.out k (by have := HM.out; omega)
        obtain ⟨nk, hnk⟩ : ∃ nk, (normK L k).length = nk := ⟨_, rfl⟩
        have HNK := Lib.hid hnk
        rw [hnk] at HO hl16
        clear ho hbw hnk
        by_cases hlt : k < m
        · have hkl : k < L.length := by have := HM.out; omega
          obtain ⟨g, o, rfl, hg, c0, c1⟩ := rdi_at (HR.out.below HBW.out) hkl
          have hns := normK_succ hkl
          have hpk := HPOS.out _ (List.getElem_mem hkl)
          obtain ⟨gd, hgd⟩ : ∃ gd, L[k].good = gd := ⟨_, rfl⟩
          obtain ⟨xn, hxn⟩ : ∃ xn, L[k].n = xn := ⟨_, rfl⟩
          have hmem := List.getElem_mem hkl
          have hof1 : 1 ≤ ofI L gd := by
            have h1 := (ofI_take_le (L := L) (fun x hx => (HPOS.out x hx).1) gd (k + 1)).2
            rw [ofI_take hkl gd, hgd] at h1
            have h2 := (ofI_take_le (L := L) (fun x hx => (HPOS.out x hx).1) gd k).1
            simp only [beq_self_eq_true, if_true] at h1
            omega
          rw [hgd] at c0 hns
          rw [hxn] at c1 hpk
          have HNS := Lib.hid hns
          have HOF := Lib.hid hof1
          have HC0 := Lib.hid c0
          have HG := Lib.hid hg
          have hlt' : decide ((k : Int) < (m : Int)) = true := by simp; omega
          have hltI : (k : Int) < (m : Int) := by omega
          have HHK : Hid (k < m) := Lib.hid hlt
          clear hgd hxn hmem hof1 hns c0 c1 hg hpk hlt
          go_wp2_with fail
          obtain ⟨w3, hw3⟩ : ∃ w3, w3 = wr := ⟨_, rfl⟩
          subst hw3
          go_loopw [7, 8] (fun nv jv wr => ∃ j : Nat, j ≤ m ∧ jv = .int .i64 j ∧ nv = .int .i64 (ofI (L.take j) gd) ∧ Below w3.heap.size w3 wr) (fun _ jv => fun _ => m - (intOf jv).toNat)
          case atStart => exact ⟨0, Nat.zero_le _, rfl, rfl, Below.refl _ _⟩
          case round =>
            obtain ⟨j, hj, rfl, rfl, hbj⟩ := hrel
            have HBJ := Lib.hid hbj
            have HC2 : Hid (wr.cell? ⟨g, o + k * 2, none⟩ = some (.string gd)) := Lib.hid ((hbj.cell (p := ⟨g, o + k * 2, none⟩) HG.out).trans HC0.out)
            clear hbj
            by_cases hlj : j < m
            · have hjl : j < L.length := by have := HM.out; omega
              obtain ⟨g', o', e', hg', d0, d1⟩ := rdi_at ((HR.out.below HBW.out).below HBJ.out) hjl
              cases e'
              have c0 := HC2.out
              have htk := ofI_take hjl gd
              have hlo := ofI_take_le (L := L) (fun x hx => (HPOS.out x hx).1) gd j
              have hlo2 := (ofI_take_le (L := L) (fun x hx => (HPOS.out x hx).1) gd (j + 1)).2
              have hsu := HSUM.out gd
              have hpj := HPOS.out _ (List.getElem_mem hjl)
              obtain ⟨s, hs⟩ : ∃ s, ofI (L.take j) gd = s := ⟨_, rfl⟩
              obtain ⟨z, hz⟩ : ∃ z, L[j] = z := ⟨_, rfl⟩
              rw [hz] at d0 d1 htk hpj
              obtain ⟨zg, zn⟩ := z
              simp only at d0 d1 htk hpj
              obtain ⟨S2, hS2⟩ : ∃ S2, ofI (L.take (j + 1)) gd = S2 := ⟨_, rfl⟩
              rw [hs] at hlo htk ⊢
              rw [hS2] at hlo2 htk
              obtain ⟨T, hT⟩ : ∃ T, (zg.toList == gd.toList) = T := ⟨_, rfl⟩
              rw [hT] at htk
              have hS0 : 0 ≤ s ∧ s ≤ 1099511627776 := by omega
              have hS1 : S2 ≤ 1099511627776 := by omega
              have HS2 := Lib.hid hS2
              have hltJ : decide ((j : Int) < (m : Int)) = true := by simp; omega
              have hltJI : (j : Int) < (m : Int) := by omega
              clear hs hz hS2 hlo hlo2 hsu hg'
              cases T
              · have htk2 : S2 = s := htk
                have HTK := Lib.hid htk2
                clear htk htk2
                go_wp2_with fail
                go_region
                go_wp2_with fail
                go_roundw
                case rel => exact ⟨j + 1, hlj, by go_num, by rw [HS2.out, HTK.out], HBJ.out.drew⟩
                case measure => simp [intOf]; omega
              · have htk2 : S2 = s + zn := htk
                have HTK := Lib.hid htk2
                have hsz : s + zn ≤ 1099511627776 := by omega
                clear htk htk2
                go_wp2_with fail
                go_region
                go_wp2_with fail
                go_roundw
                case rel => exact ⟨j + 1, hlj, by go_num, by rw [HS2.out, HTK.out], HBJ.out.drew⟩
                case measure => simp [intOf]; omega
            · have hall : ofI (L.take j) gd = ofI L gd := by rw [List.take_of_length_le (by have := HM.out; omega)]
              rw [hall]
              obtain ⟨s, hs⟩ : ∃ s, ofI L gd = s := ⟨_, rfl⟩
              rw [hs] at HNS HOF ⊢
              have hs0 : 0 < s := by have := HOF.out; omega
              have c0 := HC2.out
              have hltJ : decide ((j : Int) < (m : Int)) = false := by simp; omega
              have HO3 := Lib.hid ((Fr.of_below (B := 0) (T := []) (S := []) HBJ.out).own HO.out (by simp) (by simp))
              have h3 := HO3.out
              rw [← HNK.out] at h3
              have HPUT := Lib.hid (xput_any w.heap.size _ (normK L k) gd s wr h3 (by rw [HNK.out]; exact hl16))
              obtain ⟨Ao, co, rfl, _, _, _, _⟩ := own_slice HO3.out
              clear hs hall h3
              go_wp2_with fail
              refine HPUT.out.mono ?_
              rintro e w5 ⟨v5, rfl, ho5, hb5⟩
              have HO5 := Lib.hid ho5
              have HB5 := Lib.hid (HBW.out.trans ((HBJ.out.trans (hb5.mono HBJ.out.size)).mono HBW.out.size))
              have HZ5 : Hid (w.heap.size ≤ wr.heap.size) := Lib.hid (Nat.le_trans HBW.out.size HBJ.out.size)
              clear ho5 hb5
              go_wp2_with fail
              go_roundw
              case rel => exact ⟨k + 1, HHK.out, by go_num, by rw [HNS.out]; exact ownI_low HO5.out HZ5.out, HB5.out⟩
              case measure => simp [intOf]; have := HHK.out; omega
        · have ekm : k = m := by omega
          subst ekm
          obtain ⟨Ao, co, rfl, hnc, hcm, hr, _⟩ := own_slice HO.out
          have hlt' : decide ((k : Int) < (k : Int)) = false := by simp
          have d16 : decide ((16 : Int) < (nk : Int)) = false := by simp; omega
          have HRD : Hid (RdI wr (.slice Ao nk co) (normK L k)) := Lib.hid ⟨Ao, co, by rw [HNK.out], by rw [HNK.out]; exact hnc, hcm, by rw [HNK.out]; exact hr⟩
          clear hr hnc hcm
          go_wp2
          go_ret2
          exact ⟨_, rfl, HRD.out, HBW.out⟩
end Go.Proofs.Ytlcnkicmepcppaa
