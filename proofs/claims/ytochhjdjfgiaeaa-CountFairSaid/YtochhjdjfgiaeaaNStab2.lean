/- slices.stableCmpFunc and SortStableFunc on up to 64 parts. -/
import Derived.Test.YtochhjdjfgiaeaaNMerge
namespace Go.Proofs.Ytochhjdjfgiaeaa
open Go.RowKit

/-- Where the merging stands, at a size of blocks. -/
def Bs (n : Nat) (rs l : List (Nat × Nat)) (x : Value) : Prop := (x = .int .i64 20 ∧ SymP.K n 0 rs l) ∨ (x = .int .i64 40 ∧ SymP.L n rs l) ∨ (x = .int .i64 80 ∧ 40 < n ∧ l.Perm rs ∧ SymP.Srt l 0 n)

set_option maxRecDepth 100000 in
set_option maxHeartbeats 4000000 in
theorem stab_any (base g c : Nat) (rs : List (Nat × Nat)) (w : World) (h0 : 0 < rs.length) (hm : rs.length ≤ 64) (hinc : SymP.Inc rs 0 rs.length)
    (hown : w.ownsRow base 56 2 (.slice (some ⟨g, 0, none⟩) rs.length c) rs.length (rs.flatMap encQ)) :
    Calls Try.prog 44 #[.slice (some ⟨g, 0, none⟩) rs.length c, .int .i64 (rs.length : Int), .func (.func 31) #[] #[]] w fun e w' => e = .returned (.tuple #[]) ∧ w'.ownsRow base 56 2 (.slice (some ⟨g, 0, none⟩) rs.length c) rs.length ((insN 0 (rs.length - 1) rs).flatMap encQ) ∧ Fr base [56] [] w w' := by
  have HOWN := Lib.hid hown
  have HJ := Lib.hid (SymP.J.start rfl hinc)
  have HEND : Hid (∀ l, l.length = rs.length → l.Perm rs → SymP.Srt l 0 rs.length → l = insN 0 (rs.length - 1) rs) := Lib.hid fun l hl hp hs => by
    have h := SymP.insN_of (a := 0) (b := rs.length) h0 (Nat.le_refl _) rfl hinc
    exact SymP.Srt.one hl h.2.len hs h.1 (hp.trans h.2.perm.symm)
  obtain ⟨n, hn⟩ : ∃ n, rs.length = n := ⟨_, rfl⟩
  rw [hn] at HOWN HJ HEND h0 hm ⊢
  have HN := Lib.hid hn
  clear hown hinc hn
  go_enter Try.func44, Try.ntmps44
  go_wp2_with fail
  go_loopw [7, 8] (fun x y wr => ∃ (k : Nat) (l : List (Nat × Nat)), 20 * k ≤ n ∧ x = .int .i64 ((20 * k : Nat) : Int) ∧ y = .int .i64 ((20 * k + 20 : Nat) : Int) ∧ SymP.J n k rs l ∧ wr.ownsRow base 56 2 (.slice (some ⟨g, 0, none⟩) n c) n (l.flatMap encQ) ∧ Fr base [56] [] w wr) (fun x _ _ => n - (intOf x).toNat)
  case atStart => exact ⟨0, rs, Nat.zero_le _, rfl, rfl, HJ.out, HOWN.out, Fr.refl w⟩
  case round =>
    obtain ⟨k, l, hk, rfl, rfl, hj, ho, hf⟩ := hrel
    have hll := hj.len
    have HJ1 := Lib.hid hj
    have HF := Lib.hid hf
    have hins := fun b (hb : b ≤ n) => ins_any (20 * k) b base g c l wr (by rw [hll]; exact hb) (by omega) (by omega) (by rw [hll]; exact ho)
    rw [hll] at hins
    obtain ⟨a, ha⟩ : ∃ a, 20 * k = a := ⟨_, rfl⟩
    rw [ha] at hins hk ⊢
    have HA := Lib.hid ha
    by_cases hb : a + 20 ≤ n
    · have HINS := Lib.hid (hins (a + 20) hb)
      clear hins hj ho hf hll ha
      go_wp2_with fail
      refine HINS.out.mono ?_
      rintro e w1 ⟨rfl, ho1, hf1⟩
      have HO1 := Lib.hid ho1
      have HF1 := Lib.hid hf1
      clear ho1 hf1
      go_wp2_with fail
      go_roundw
      case rel =>
        have haa := HA.out
        have hst := HJ1.out.step (by omega)
        rw [haa] at hst
        refine ⟨k + 1, _, by omega, by go_num, by go_num, hst, HO1.out, HF.out.trans HF1.out⟩
      case measure => have := HA.out; simp [intOf]; omega
    · have HINS := Lib.hid (hins n (Nat.le_refl _))
      clear hins hj ho hf hll ha
      go_wp2_with fail
      refine HINS.out.mono ?_
      rintro e w1 ⟨rfl, ho1, hf1⟩
      have HO1 := Lib.hid ho1
      have HF1 := Lib.hid (HF.out.trans hf1)
      have HK : Hid (SymP.K n 0 rs (insN a (n - a - 1) l)) := Lib.hid (by
        have := HJ1.out.last (by have := HA.out; omega) (by have := HA.out; omega)
        rwa [HA.out] at this)
      clear ho1 hf1
      go_wp2_with fail
      go_loopw [6] (fun x wr => ∃ l, Bs n rs l x ∧ wr.ownsRow base 56 2 (.slice (some ⟨g, 0, none⟩) n c) n (l.flatMap encQ) ∧ Fr base [56] [] w wr) (fun x _ => 80 - (intOf x).toNat)
      case atStart => exact ⟨_, .inl ⟨rfl, HK.out⟩, HO1.out, HF1.out⟩
      case round =>
        obtain ⟨l2, hbs, ho, hf⟩ := hrel
        have HO2 := Lib.hid ho
        have HF2 := Lib.hid hf
        clear ho hf
        rcases hbs with ⟨rfl, hK⟩ | ⟨rfl, hL⟩ | ⟨rfl, h40, hp, hs⟩
        · have HK2 := Lib.hid hK
          have hkl := hK.len
          have HKL := Lib.hid hkl
          clear hK hkl
          by_cases h20 : 20 < n
          · have x20 : (20 : Int) < (n : Int) := by omega
            go_wp2_with fail
            go_loopw [7, 8] (fun x y wr => ∃ (j : Nat) (l : List (Nat × Nat)), 40 * j ≤ n ∧ x = .int .i64 ((40 * j : Nat) : Int) ∧ y = .int .i64 ((40 * j + 40 : Nat) : Int) ∧ SymP.K n j rs l ∧ wr.ownsRow base 56 2 (.slice (some ⟨g, 0, none⟩) n c) n (l.flatMap encQ) ∧ Fr base [56] [] w wr) (fun x _ _ => n - (intOf x).toNat)
            case atStart => exact ⟨0, l2, Nat.zero_le _, rfl, rfl, HK2.out, HO2.out, HF2.out⟩
            case round =>
              obtain ⟨j, l3, hj, rfl, rfl, hk3, ho3, hf3⟩ := hrel
              have HO3 := Lib.hid ho3
              have HF3 := Lib.hid hf3
              have HK3 := Lib.hid hk3
              obtain ⟨a, ha⟩ : ∃ a, 40 * j = a := ⟨_, rfl⟩
              rw [ha] at hj ⊢
              have HA := Lib.hid ha
              have ha64 : a ≤ 64 := by omega
              obtain ⟨m, hm20⟩ : ∃ m, a + 20 = m := ⟨_, rfl⟩
              obtain ⟨b, hb40⟩ : ∃ b, a + 40 = b := ⟨_, rfl⟩
              have sm : (a : Int) + 20 = (m : Int) := by omega
              have wm : IntKind.i64.wrap (m : Int) = (m : Int) := IntWalk.i64_in _ (by omega)
              have wb : IntKind.i64.wrap ((b : Int) + 40) = (b : Int) + 40 := IntWalk.i64_in _ (by omega)
              rw [hb40]
              have HM20 := Lib.hid hm20
              have HB40 := Lib.hid hb40
              by_cases hb : b ≤ n
              · have hbi : (b : Int) ≤ (n : Int) := by omega
                have hask := hk3.ask (b := b) (by omega) (by omega)
                rw [ha, hm20] at hask
                have HM := Lib.hid (sym_any n base g c (by omega) (b - a) a m b l3 wr (Nat.le_refl _) (by omega) (by omega) hb hk3.len hask.1 hask.2.1 hask.2.2 ho3)
                clear ho3 hf3 hk3 hask ha hm20 hb40
                go_wp2_with fail
                refine HM.out.mono ?_
                rintro e w4 ⟨rfl, ⟨l4, hr4, hs4, ho4⟩, hf4⟩
                have HO4 := Lib.hid ho4
                have HF4 := Lib.hid (HF3.out.trans hf4)
                have HR4 := Lib.hid hr4
                have HS4 := Lib.hid hs4
                clear ho4 hf4 hr4 hs4
                go_wp2_with fail
                go_roundw
                case rel =>
                  have haa := HA.out
                  have hm20 := HM20.out
                  have hb40 := HB40.out
                  refine ⟨j + 1, l4, by omega, by go_num, by go_num, HK3.out.step (b := b) (by omega) (by omega) (by rw [haa]; exact HR4.out) (by rw [haa]; exact HS4.out) (by omega), HO4.out, HF4.out⟩
                case measure => have := HA.out; have := HB40.out; simp [intOf]; omega
              · have hbi : ¬ (b : Int) ≤ (n : Int) := by omega
                by_cases hm2 : m < n
                · have hmi : (m : Int) < (n : Int) := by omega
                  have hask := hk3.ask (b := n) (by omega) (by omega)
                  rw [ha, hm20] at hask
                  have HM := Lib.hid (sym_any n base g c (by omega) (n - a) a m n l3 wr (Nat.le_refl _) (by omega) (by omega) (Nat.le_refl _) hk3.len hask.1 hask.2.1 hask.2.2 ho3)
                  clear ho3 hf3 hk3 hask ha hm20 hb40
                  go_wp2_with fail
                  refine HM.out.mono ?_
                  rintro e w4 ⟨rfl, ⟨l4, hr4, hs4, ho4⟩, hf4⟩
                  have HO4 := Lib.hid ho4
                  have HF4 := Lib.hid (HF3.out.trans hf4)
                  have HR4 := Lib.hid hr4
                  have HS4 := Lib.hid hs4
                  clear ho4 hf4 hr4 hs4
                  go_wp2_with fail
                  go_roundw
                  case rel =>
                    have haa := HA.out
                    have hm20 := HM20.out
                    have hb40 := HB40.out
                    exact ⟨l4, .inr (.inl ⟨by go_num, HK3.out.last (by omega) (by omega) (by rw [haa]; exact HR4.out) (by rw [haa]; exact HS4.out)⟩), HO4.out, HF4.out⟩
                  case measure => simp [intOf]
                · have hmi : ¬ (m : Int) < (n : Int) := by omega
                  clear ho3 hf3 hk3 ha hm20 hb40
                  go_wp2_with fail
                  go_roundw
                  case rel =>
                    have haa := HA.out
                    have hm20 := HM20.out
                    have hb40 := HB40.out
                    exact ⟨l3, .inr (.inl ⟨by go_num, HK3.out.none (by omega) (by omega)⟩), HO3.out, HF3.out⟩
                  case measure => simp [intOf]
          · have x20 : ¬ (20 : Int) < (n : Int) := by omega
            have hL := HK2.out.none (by omega) (by omega)
            have HE := Lib.hid (HEND.out l2 (by rw [← HN.out]; exact hL.perm.length_eq) hL.perm (hL.small (by omega)) ▸ HO2.out)
            clear hL
            go_wp2_with fail
            go_end0
            exact ⟨rfl, HE.out, HF2.out⟩
        · have HL2 := Lib.hid hL
          by_cases h40 : 40 < n
          · have x40 : (40 : Int) < (n : Int) := by omega
            have hask := hL.ask h40 (by omega)
            have HM := Lib.hid (sym_any n base g c (by omega) (n - 0) 0 40 n l2 wr (Nat.le_refl _) (by omega) h40 (Nat.le_refl _) hL.len hask.1 hask.2.1 hask.2.2 HO2.out)
            have x80 : ¬ (80 : Int) ≤ (n : Int) := by omega
            clear hask hL
            go_wp2_with fail
            go_loopw [7, 8] (fun x y w4 => x = .int .i64 0 ∧ y = .int .i64 80 ∧ wr = w4) (fun _ _ _ => 0)
            case atStart => exact ⟨rfl, rfl, rfl⟩
            case round =>
              obtain ⟨rfl, rfl, rfl⟩ := hrel
              go_wp2_with fail
              refine HM.out.mono ?_
              rintro e w4 ⟨rfl, ⟨l4, hr4, hs4, ho4⟩, hf4⟩
              have HO4 := Lib.hid ho4
              have HF4 := Lib.hid (HF2.out.trans hf4)
              have HR4 := Lib.hid hr4
              have HS4 := Lib.hid hs4
              clear ho4 hf4 hr4 hs4
              go_wp2_with fail
              go_roundw
              case rel => exact ⟨l4, .inr (.inr ⟨by go_num, h40, HR4.out.perm.trans HL2.out.perm, HS4.out⟩), HO4.out, HF4.out⟩
              case measure => simp [intOf]
          · have x40 : ¬ (40 : Int) < (n : Int) := by omega
            have HE := Lib.hid (HEND.out l2 (by rw [← HN.out]; exact hL.perm.length_eq) hL.perm (hL.small (by omega)) ▸ HO2.out)
            clear hL
            go_wp2_with fail
            go_end0
            exact ⟨rfl, HE.out, HF2.out⟩
        · have x80 : ¬ (80 : Int) < (n : Int) := by omega
          have HE := Lib.hid (HEND.out l2 (by rw [← HN.out]; exact hp.length_eq) hp hs ▸ HO2.out)
          clear hp hs
          go_wp2_with fail
          go_end0
          exact ⟨rfl, HE.out, HF2.out⟩
theorem sort_any (base g c : Nat) (rs : List (Nat × Nat)) (w : World) (h0 : 0 < rs.length) (hm : rs.length ≤ 64) (hinc : SymP.Inc rs 0 rs.length)
    (hown : w.ownsRow base 56 2 (.slice (some ⟨g, 0, none⟩) rs.length c) rs.length (rs.flatMap encQ)) :
    Calls Try.prog 30 #[.slice (some ⟨g, 0, none⟩) rs.length c, .func (.func 31) #[] #[]] w fun e w' => e = .returned (.tuple #[]) ∧ w'.ownsRow base 56 2 (.slice (some ⟨g, 0, none⟩) rs.length c) rs.length ((insN 0 (rs.length - 1) rs).flatMap encQ) ∧ Fr base [56] [] w w' := by
  have HS := Lib.hid (stab_any base g c rs w h0 hm hinc hown)
  clear hown h0 hinc
  go_enter Try.func30, Try.ntmps30
  go_wp2_with fail
  refine HS.out.mono ?_
  rintro e w1 ⟨rfl, hown1, hf1⟩
  have HO1 := Lib.hid hown1
  have HF1 := Lib.hid hf1
  clear hown1 hf1
  go_wp2_with fail
  go_end0
  exact ⟨rfl, HO1.out, HF1.out⟩
end Go.Proofs.Ytochhjdjfgiaeaa
