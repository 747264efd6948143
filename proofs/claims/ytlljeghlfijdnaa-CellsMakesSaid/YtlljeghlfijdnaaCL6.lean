/- The law CellsMakes: any cells, one behind the other. The walk. -/
import Derived.Test.YtlljeghlfijdnaaCTwo
import Derived.Test.YtlljeghlfijdnaaCOps
namespace Go.Proofs.Ytlljeghlfijdnaa
open Go.RowKit

set_option maxRecDepth 100000 in
set_option maxHeartbeats 8000000 in
theorem makes_any (A : Option Addr) (c : Nat) (zs : List Op1) (w : World) (hz : IsOps w A c zs) :
    Calls Try.prog 6 #[.slice A zs.length c] w fun e w' => e = .returned (.bool true) ∧ Below w.heap.size w w' := by
  have HZ := Lib.hid hz
  have hcm := hz.2.1
  have hzc := hz.1
  have hzm : c ≤ 9223372036854775807 := by unfold maxLen at hcm; omega
  clear hz hcm
  go_enter Try.func6, Try.ntmps6
  go_wp2_with fail
  refine (new_any w).mono ?_
  rintro e w1 ⟨rfl, hm1, hb1⟩
  have hx := block_new w1 (.cells #[.slice none 0 0, .bool false] 38)
  have hbx : Below w1.heap.size w1 (w1.alloc (.cells #[.slice none 0 0, .bool false] 38)) := (Below.refl _ _).alloc (Nat.le_refl _) _
  have hlt := hm1.lt
  have HH : Hid (Half w w.heap.size w1.heap.size ([], false) ([], false) (w1.alloc (.cells #[.slice none 0 0, .bool false] 38))) := Lib.hid ⟨none, none, hm1.below hbx, ⟨none, 0, hx, Nat.le_refl _, Nat.zero_le _, Rd.nil, fun h => absurd h (by simp), by simp, .inl rfl⟩, by omega, Nat.le_refl _, by omega, by simp, by simp, by simp, by simp, by simp, hb1.trans (hbx.mono hb1.size)⟩
  obtain ⟨q, hq⟩ : ∃ q, w1.heap.size = q := ⟨_, rfl⟩
  clear hm1 hb1 hx hbx hlt
  go_wp2_with fail
  rw [hq] at HH
  refine (lives_any _).mono ?_
  rintro e w2 ⟨rfl, hb2⟩
  have HH2 := Lib.hid (HH.out.keep hb2)
  clear hb2 HH hq
  go_wp2_with fail
  go_loopw [3, 5] (fun m i wr => m = .pointer (some ⟨w.heap.size, 0, none⟩) ∧ ∃ (k : Nat) (s : List Nat × Bool), k ≤ zs.length ∧ i = .int .i64 k ∧ s.1.length ≤ 262144 ∧ Half w w.heap.size q s s wr) (fun _ i _ => (zs.length - (intOf i).toNat))
  case atStart => exact ⟨rfl, 0, ([], false), Nat.zero_le _, rfl, by simp, HH2.out⟩
  case round =>
    obtain ⟨rfl, k, s, hk, rfl, hsl, hh⟩ := hrel
    have HH := Lib.hid hh
    clear hh HH2
    by_cases hlt : k < zs.length
    · obtain ⟨g, o, rfl, hg, hcell⟩ := HZ.out.at_ (by omega)
      obtain ⟨q0, q1, q2, q3, q4⟩ := hcell k hlt
      have hW := HH.out.below
      have r0 := (hW.cell (p := ⟨g, o + k * 5, none⟩) hg).trans q0
      have r1 := (hW.cell (p := ⟨g, o + k * 5 + 1, none⟩) hg).trans q1
      have r2 := (hW.cell (p := ⟨g, o + k * 5 + 2, none⟩) hg).trans q2
      have r3 := (hW.cell (p := ⟨g, o + k * 5 + 3, none⟩) hg).trans q3
      have r4 := (hW.cell (p := ⟨g, o + k * 5 + 4, none⟩) hg).trans q4
      have HOK := Lib.hid (HZ.out.2.2.2 zs[k] (List.getElem_mem hlt))
      obtain ⟨z, hzk⟩ : ∃ z, zs[k] = z := ⟨_, rfl⟩
      rw [hzk] at HOK r0 r1 r2 r3 r4
      clear hcell q0 q1 q2 q3 q4 hzk hW
      obtain ⟨K, N, t, L, M⟩ := z
      simp only at r0 r1 r2 r3 r4
      have hI : I64 N := HOK.out.1
      have hT : t.size ≤ 140737488351232 := HOK.out.2
      have HI := Lib.hid hI
      have hb0 : Below wr.heap.size wr (wr.alloc (.cells #[.int .i64 K, .int .i64 N, .string t, .int .i64 L, .int .i64 M] 40)) := (Below.refl _ _).alloc (Nat.le_refl _) _
      have HH0 := Lib.hid (HH.out.keep hb0)
      have HO0 := Lib.hid (block_new wr (.cells #[.int .i64 K, .int .i64 N, .string t, .int .i64 L, .int .i64 M] 40))
      clear hI hb0 HOK
      by_cases e1 : K = 1
      · subst e1
        go_wp2_with fail
        refine (HH0.out.m (fun G hM => mnum_any _ G s N _ hM HI.out)).mono ?_
        rintro e w5 ⟨rfl, hh5, hr5⟩
        have HH5 := Lib.hid hh5
        have ho5 := hr5 _ (by decide) (by decide) (by decide) _ _ _ HO0.out
        have p1 : w5.cell? ⟨wr.heap.size, 1, none⟩ = some (.int .i64 N) := cell_at ho5 1
        clear hh5 hr5 ho5
        go_wp2_with fail
        refine (HH5.out.r (fun D hT' hD' => rmnum_any q D s N _ hT' hD' HI.out)).mono ?_
        rintro e w6 ⟨rfl, hh6, _⟩
        have HH6 := Lib.hid hh6
        clear hh6
        go_wp2
        go_roundw
        case rel => exact ⟨rfl, k + 1, _, hlt, by go_num, putS_len hsl _, HH6.out⟩
        case measure => simp [intOf]; omega
      by_cases e2 : K = 2
      · subst e2
        go_wp2_with fail
        refine (HH0.out.m (fun G hM => mtext_any _ G s t _ hM hT)).mono ?_
        rintro e w5 ⟨rfl, hh5, hr5⟩
        have HH5 := Lib.hid hh5
        have ho5 := hr5 _ (by decide) (by decide) (by decide) _ _ _ HO0.out
        have p2 : w5.cell? ⟨wr.heap.size, 2, none⟩ = some (.string t) := cell_at ho5 2
        clear hh5 hr5 ho5
        go_wp2_with fail
        refine (HH5.out.r (fun D hT' hD' => rmtext_any q D s t _ hT' hD' hT)).mono ?_
        rintro e w6 ⟨rfl, hh6, _⟩
        have HH6 := Lib.hid hh6
        clear hh6
        go_wp2
        go_roundw
        case rel => exact ⟨rfl, k + 1, _, hlt, by go_num, putS_len hsl _, HH6.out⟩
        case measure => simp [intOf]; omega
      by_cases e3 : K = 3
      · subst e3
        go_wp2_with fail
        refine (HH0.out.m (fun G hM => mflag_any _ G s (N == 1) _ hM)).mono ?_
        rintro e w5 ⟨rfl, hh5, hr5⟩
        have HH5 := Lib.hid hh5
        have ho5 := hr5 _ (by decide) (by decide) (by decide) _ _ _ HO0.out
        have p1 : w5.cell? ⟨wr.heap.size, 1, none⟩ = some (.int .i64 N) := cell_at ho5 1
        clear hh5 hr5 ho5
        go_wp2_with fail
        refine (HH5.out.r (fun D hT' hD' => rmflag_any q D s (N == 1) _ hT' hD')).mono ?_
        rintro e w6 ⟨rfl, hh6, _⟩
        have HH6 := Lib.hid hh6
        clear hh6
        go_wp2
        go_roundw
        case rel => exact ⟨rfl, k + 1, _, hlt, by go_num, putS_len hsl _, HH6.out⟩
        case measure => simp [intOf]; omega
      have f1 : (K == 1) = false := by simpa using e1
      have f2 : (K == 2) = false := by simpa using e2
      have f3 : (K == 3) = false := by simpa using e3
      clear e1 e2 e3
      go_wp2
      go_roundw
      case rel => exact ⟨rfl, k + 1, s, hlt, by go_num, hsl, HH0.out⟩
      case measure => simp [intOf]; omega
    · go_wp2_with fail
      refine (half_done HH.out hsl).mono ?_
      rintro e w3 ⟨v, rfl, hv, hh3⟩
      have HH3 := Lib.hid hh3
      obtain ⟨G, D, _, ⟨A3, c3, hq3, hn3, hm3, hr3, _, hb3, _⟩, _, _, _, _, _, _, _, _, hbel⟩ := hh3
      obtain ⟨bs, lg⟩ := s
      simp only at hv hq3 hn3 hr3 hb3 ⊢
      have x0 : w3.cell? ⟨q, 0, none⟩ = some (.slice A3 bs.length c3) := cell_at hq3 0
      have x1 : w3.cell? ⟨q, 1, none⟩ = some (.bool lg) := cell_at hq3 1
      have HR3 := Lib.hid hr3
      have HB3 := Lib.hid hb3
      have HBel := Lib.hid hbel
      have HQ3 := Lib.hid hq3
      clear hq3 hr3 hb3 hbel hm3
      cases lg with
      | true =>
        simp only [if_true] at hv ⊢
        obtain ⟨Av, cv, rfl, _, _, _⟩ := hv
        go_wp2
        go_ret
        exact ⟨rfl, HBel.out⟩
      | false =>
        simp only [Bool.false_eq_true, if_false] at hv ⊢
        obtain ⟨Av, cv, rfl, _, _, hvr⟩ := hv
        have HV := Lib.hid hvr
        clear hvr
        obtain ⟨S, hS⟩ : ∃ S, strOf bs = S := ⟨_, rfl⟩
        have HS := Lib.hid hS
        clear hS
        go_wp2_with fail
        refine wp_region_flow (fun W => Below w3.heap.size w3 W) [0, 1, 2, 3, 4, 5, 6, 7, 8, 9, 10, 11, 12] (by kernel_rfl) (by kernel_rfl) (by kernel_rfl) ((Below.refl _ w3).drew) ?_
        refine flow_val ?_ rfl (by kernel_rfl) (by rfl) (fun W hW => ?_) ?_
        rotate_left 1
        · go_simp <;> with_reducible rfl
        simp only [Act.put, List.setIfInBounds_toArray, List.set_cons_succ, List.set_cons_zero]
        refine flow_val ?_ rfl (by kernel_rfl) (by rfl) (fun W hW => ?_) ?_
        rotate_left 1
        · have hs := HS.out ▸ run_str W Av bs.length cv bs (HV.out.below hW) HB3.out; go_simp <;> with_reducible rfl
        simp only [Act.put, List.setIfInBounds_toArray, List.set_cons_succ, List.set_cons_zero]
        refine flow_val ?_ rfl (by kernel_rfl) (by rfl) (fun W hW => ?_) ?_
        rotate_left 1
        · go_simp <;> with_reducible rfl
        simp only [Act.put, List.setIfInBounds_toArray, List.set_cons_succ, List.set_cons_zero]
        refine flow_val ?_ rfl (by kernel_rfl) (by rfl) (fun W hW => ?_) ?_
        rotate_left 1
        · go_simp <;> with_reducible rfl
        simp only [Act.put, List.setIfInBounds_toArray, List.set_cons_succ, List.set_cons_zero]
        refine flow_val ?_ rfl (by kernel_rfl) (by rfl) (fun W hW => ?_) ?_
        rotate_left 1
        · go_simp <;> with_reducible rfl
        simp only [Act.put, List.setIfInBounds_toArray, List.set_cons_succ, List.set_cons_zero]
        refine flow_val ?_ rfl (by kernel_rfl) (by rfl) (fun W hW => ?_) ?_
        rotate_left 1
        · have x := (hW.cell (p := ⟨q, 0, none⟩) (lt_of_block HQ3.out)).trans x0; go_simp <;> with_reducible rfl
        simp only [Act.put, List.setIfInBounds_toArray, List.set_cons_succ, List.set_cons_zero]
        refine flow_val ?_ rfl (by kernel_rfl) (by rfl) (fun W hW => ?_) ?_
        rotate_left 1
        · have hs := HS.out ▸ run_str W A3 bs.length c3 bs (HR3.out.below hW) HB3.out; go_simp <;> with_reducible rfl
        simp only [Act.put, List.setIfInBounds_toArray, List.set_cons_succ, List.set_cons_zero]
        refine flow_val ?_ rfl (by kernel_rfl) (by rfl) (fun W hW => ?_) ?_
        rotate_left 1
        · go_simp <;> with_reducible rfl
        simp only [Act.put, List.setIfInBounds_toArray, List.set_cons_succ, List.set_cons_zero]
        refine flow_val ?_ rfl (by kernel_rfl) (by rfl) (fun W hW => ?_) ?_
        rotate_left 1
        · go_simp <;> with_reducible rfl
        simp only [Act.put, List.setIfInBounds_toArray, List.set_cons_succ, List.set_cons_zero]
        refine flow_val ?_ rfl (by kernel_rfl) (by rfl) (fun W hW => ?_) ?_
        rotate_left 1
        · go_simp <;> with_reducible rfl
        simp only [Act.put, List.setIfInBounds_toArray, List.set_cons_succ, List.set_cons_zero]
        refine flow_val ?_ rfl (by kernel_rfl) (by rfl) (fun W hW => ?_) ?_
        rotate_left 1
        · go_simp <;> with_reducible rfl
        simp only [Act.put, List.setIfInBounds_toArray, List.set_cons_succ, List.set_cons_zero]
        refine flow_val ?_ rfl (by kernel_rfl) (by rfl) (fun W hW => ?_) ?_
        rotate_left 1
        · go_simp <;> with_reducible rfl
        simp only [Act.put, List.setIfInBounds_toArray, List.set_cons_succ, List.set_cons_zero]
        refine flow_val ?_ rfl (by kernel_rfl) (by rfl) (fun W hW => ?_) ?_
        rotate_left 1
        · go_simp <;> with_reducible rfl
        simp only [Act.put, List.setIfInBounds_toArray, List.set_cons_succ, List.set_cons_zero]
        refine flow_done ?_
        intro W hW
        go_wp2
        go_ret
        exact ⟨rfl, HBel.out.trans (hW.mono HBel.out.size)⟩
end Go.Proofs.Ytlljeghlfijdnaa
