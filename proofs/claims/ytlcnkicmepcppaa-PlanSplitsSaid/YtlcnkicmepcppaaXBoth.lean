/- The reference's Both, Meet, Rest. -/
import Derived.Test.YtlcnkicmepcppaaPSplit
import Derived.Test.YtlcnkicmepcppaaFlow
namespace Go.Proofs.Ytlcnkicmepcppaa
open Go.RowKit

set_option maxRecDepth 100000 in
set_option maxHeartbeats 3000000 in
theorem xmeetB_any (A : Option Addr) (c : Nat) (a : List It) (B : Option Addr) (cb : Nat) (b : List It) (w : World) (hr : Rd w 2 A a.length (a.flatMap encI)) (hrb : Rd w 2 B b.length (b.flatMap encI)) (ha : mayI a = true) (hb : mayI b = true) :
    Calls Try.prog 27 #[.slice A a.length c, .slice B b.length cb, .int .i64 1] w (RetI w (eachI (fun n o => min n o) b a)) := by
  obtain ⟨i1, hi1, hy0, hy1, hy2⟩ := info_parts Try.infoItem
  have hn16 := (mayI_at ha).1
  obtain ⟨m, hm2⟩ : ∃ m, a.length = m := ⟨_, rfl⟩
  obtain ⟨nb, hnb2⟩ : ∃ nb, b.length = nb := ⟨_, rfl⟩
  have HM := Lib.hid hm2
  have HR := Lib.hid hr
  have HN := Lib.hid (ok_of ha)
  have HOF : Hid (∀ gd W, Below w.heap.size w W → Calls Try.prog 41 #[.slice B nb cb, .string gd] W fun e w' => e = .returned (.int .i64 (ofI b gd)) ∧ W = w') := Lib.hid (fun gd W hW => by
    have := xof_any B cb b gd W (hrb.below hW) (ok_of hb) (by have := (mayI_at hb).1; omega)
    rw [hnb2] at this
    exact this)
  have HOB : Hid (∀ gd, 0 ≤ ofI b gd ∧ ofI b gd ≤ 17592186044416) := Lib.hid (fun gd => by
    have h1 := ofI_bd gd (ok_of hb)
    have h2 := (mayI_at hb).1
    have : 1099511627776 * (b.length : Int) ≤ 1099511627776 * 16 := by omega
    omega)
  rw [hm2] at hn16 ⊢
  rw [hnb2]
  clear hr hrb ha hb hm2 hnb2
  go_enter Try.func27, Try.ntmps27
  go_wp2_with fail
  go_loopw [7, 8] (fun ov iv wr => ∃ k : Nat, k ≤ m ∧ iv = .int .i64 k ∧ wr.ownsRow w.heap.size 40 2 ov (eachI (fun n o => min n o) b (a.take k)).length ((eachI (fun n o => min n o) b (a.take k)).flatMap encI) ∧ Below w.heap.size w wr) (fun _ iv => fun _ => m - (intOf iv).toNat)
  case atStart => exact ⟨0, Nat.zero_le _, rfl, World.ownsRow_nil _ _ _ _, Below.refl _ _⟩
  case round =>
    obtain ⟨k, hk, rfl, ho, hbw⟩ := hrel
    have HBW := Lib.hid hbw
    obtain ⟨n, hn⟩ : ∃ n, (eachI (fun n o => min n o) b (a.take k)).length = n := ⟨_, rfl⟩
    rw [hn] at ho
    have hn16' : n ≤ 16 := by have h1 := eachI_len (fun n o => min n o) b (a.take k); rw [hn, List.length_take] at h1; have := HM.out; omega
    obtain ⟨Ao, co, rfl, _, _, _, _⟩ := own_slice ho
    have HO := Lib.hid ho
    have HNN := Lib.hid hn
    clear ho hn hbw
    by_cases hlt : k < m
    · have hkl : k < a.length := by have := HM.out; omega
      obtain ⟨g, o, rfl, hg, c0, c1⟩ := rdi_at HR.out hkl
      have hsn : eachI (fun n o => min n o) b (a.take (k + 1)) = if 0 < (fun n o => min n o) a[k].n (ofI b a[k].good) then eachI (fun n o => min n o) b (a.take k) ++ [⟨a[k].good, (fun n o => min n o) a[k].n (ofI b a[k].good)⟩] else eachI (fun n o => min n o) b (a.take k) := by rw [List.take_succ_eq_append_getElem hkl, eachI_snoc]
      have hnx := HN.out _ (List.getElem_mem hkl)
      obtain ⟨X, hX⟩ : ∃ X, a[k].n = X := ⟨_, rfl⟩
      obtain ⟨gd, hgd⟩ : ∃ gd, a[k].good = gd := ⟨_, rfl⟩
      rw [hX] at c1 hsn hnx
      rw [hgd] at c0 hsn
      have hC0 := HOF.out gd
      have hyb := HOB.out gd
      obtain ⟨Y, hY⟩ : ∃ Y, ofI b gd = Y := ⟨_, rfl⟩
      rw [hY] at hsn hyb hC0
      have HSN := Lib.hid hsn
      have HCC := Lib.hid hC0
      have HC0 := Lib.hid ((HBW.out.cell (p := ⟨g, o + k * 2, none⟩) hg).trans c0)
      have HC1 := Lib.hid ((HBW.out.cell (p := ⟨g, o + k * 2 + 1, none⟩) hg).trans c1)
      have HG := Lib.hid (Nat.lt_of_lt_of_le hg HBW.out.size)
      have hkm : (k : Int) < (m : Int) := by omega
      have hkm' : decide ((k : Int) < (m : Int)) = true := by simp; omega
      clear hX hgd hY hsn hC0 c0 c1 hg
      have hwr : IntKind.i64.wrap (X - Y) = X - Y := IntWalk.i64_in _ (by omega)
      go_wp2_with fail
      refine wp_region_flow (fun W => Below wr.heap.size wr W) [0, 1, 2, 3, 4, 5, 6, 7, 8, 9, 10, 11, 12, 13] (by kernel_rfl) (by kernel_rfl) (by kernel_rfl) ((Below.refl _ _).drew) ?_
      refine flow_val ?_ rfl (by kernel_rfl) (by rfl) (fun W hW => ?_) ?_
      rotate_left 1
      · go_simp <;> with_reducible rfl
      simp only [Act.put, List.setIfInBounds_toArray, List.set_cons_succ, List.set_cons_zero]
      refine flow_val ?_ rfl (by kernel_rfl) (by rfl) (fun W hW => ?_) ?_
      rotate_left 1
      · go_simp <;> with_reducible rfl
      simp only [Act.put, List.setIfInBounds_toArray, List.set_cons_succ, List.set_cons_zero]
      refine flow_val ?_ rfl (by kernel_rfl) (by rfl) (fun W hW => ?_) ?_
      rotate_left 1
      · go_simp <;> with_reducible rfl
      simp only [Act.put, List.setIfInBounds_toArray, List.set_cons_succ, List.set_cons_zero]
      refine flow_val ?_ rfl (by kernel_rfl) (by rfl) (fun W hW => ?_) ?_
      rotate_left 1
      · go_simp <;> with_reducible rfl
      simp only [Act.put, List.setIfInBounds_toArray, List.set_cons_succ, List.set_cons_zero]
      refine flow_val ?_ rfl (by kernel_rfl) (by rfl) (fun W hW => ?_) ?_
      rotate_left 1
      · have d1 : W.cell? ⟨g, o + k * 2 + 1, none⟩ = some (.int .i64 X) := (hW.cell (p := ⟨g, o + k * 2 + 1, none⟩) HG.out).trans HC1.out; go_simp <;> with_reducible rfl
      simp only [Act.put, List.setIfInBounds_toArray, List.set_cons_succ, List.set_cons_zero]
      refine flow_val ?_ rfl (by kernel_rfl) (by rfl) (fun W hW => ?_) ?_
      rotate_left 1
      · go_simp <;> with_reducible rfl
      simp only [Act.put, List.setIfInBounds_toArray, List.set_cons_succ, List.set_cons_zero]
      refine flow_val ?_ rfl (by kernel_rfl) (by rfl) (fun W hW => ?_) ?_
      rotate_left 1
      · go_simp <;> with_reducible rfl
      simp only [Act.put, List.setIfInBounds_toArray, List.set_cons_succ, List.set_cons_zero]
      refine flow_val ?_ rfl (by kernel_rfl) (by rfl) (fun W hW => ?_) ?_
      rotate_left 1
      · go_simp <;> with_reducible rfl
      simp only [Act.put, List.setIfInBounds_toArray, List.set_cons_succ, List.set_cons_zero]
      refine flow_val ?_ rfl (by kernel_rfl) (by rfl) (fun W hW => ?_) ?_
      rotate_left 1
      · go_simp <;> with_reducible rfl
      simp only [Act.put, List.setIfInBounds_toArray, List.set_cons_succ, List.set_cons_zero]
      refine flow_val ?_ rfl (by kernel_rfl) (by rfl) (fun W hW => ?_) ?_
      rotate_left 1
      · go_simp <;> with_reducible rfl
      simp only [Act.put, List.setIfInBounds_toArray, List.set_cons_succ, List.set_cons_zero]
      refine flow_val ?_ rfl (by kernel_rfl) (by rfl) (fun W hW => ?_) ?_
      rotate_left 1
      · have d0 : W.cell? ⟨g, o + k * 2, none⟩ = some (.string gd) := (hW.cell (p := ⟨g, o + k * 2, none⟩) HG.out).trans HC0.out; go_simp <;> with_reducible rfl
      simp only [Act.put, List.setIfInBounds_toArray, List.set_cons_succ, List.set_cons_zero]
      refine flow_quiet (.int .i64 Y) rfl (by kernel_rfl) (by rfl) (fun W hW => ⟨_, _, by go_simp, HCC.out W (HBW.out.trans (hW.mono HBW.out.size))⟩) ?_
      simp only [Act.put, List.setIfInBounds_toArray, List.set_cons_succ, List.set_cons_zero]
      refine flow_val ?_ rfl (by kernel_rfl) (by rfl) (fun W hW => ?_) ?_
      rotate_left 1
      · go_simp <;> with_reducible rfl
      simp only [Act.put, List.setIfInBounds_toArray, List.set_cons_succ, List.set_cons_zero]
      refine flow_val ?_ rfl (by kernel_rfl) (by rfl) (fun W hW => ?_) ?_
      rotate_left 1
      · go_simp <;> with_reducible rfl
      simp only [Act.put, List.setIfInBounds_toArray, List.set_cons_succ, List.set_cons_zero]
      refine flow_done ?_
      intro W hW
      have HWW := Lib.hid hW
      have HBW2 := Lib.hid (HBW.out.trans (hW.mono HBW.out.size))
      have d0 : W.cell? ⟨g, o + k * 2, none⟩ = some (.string gd) := (hW.cell (p := ⟨g, o + k * 2, none⟩) HG.out).trans HC0.out
      have HOW := Lib.hid ((Fr.of_below (B := 0) (T := []) (S := []) hW).own HO.out (by simp) (by simp))
      clear hW
      obtain ⟨Z, hZ⟩ : ∃ Z, X - Y = Z := ⟨_, rfl⟩
      rw [hZ] at hwr
      clear hZ
      by_cases hyx : Y < X
      · have hyx' : decide (Y < X) = true := by simp; omega
        have hF : min X Y = Y := by omega
        have HSN2 := Lib.hid HSN.out
        rw [hF] at HSN2
        by_cases hp : 0 < Y
        · have hp' : decide (0 < Y) = true := by simp; omega
          have HSN3 := Lib.hid (HSN2.out.trans (if_pos hp))
          have hbe : Below W.heap.size W (W.alloc (.cells #[.string gd, .int .i64 (Y)] 40)) := (Below.refl _ W).alloc (Nat.le_refl _) _
          have HBE := Lib.hid hbe
          have HNW := Lib.hid (block_new W (.cells #[.string gd, .int .i64 (Y)] 40))
          have HO5 := Lib.hid ((Fr.of_below (B := 0) (T := []) (S := []) hbe).own HOW.out (by simp) (by simp))
          have HW5 : Hid (w.heap.size ≤ (W.alloc (.cells #[.string gd, .int .i64 (Y)] 40)).heap.size) := Lib.hid (Nat.le_trans HBW2.out.size hbe.size)
          clear hbe hF
          go_wp2_with (at_builtin
                       refine wpList_append_rd _ rfl (.tmp 42) (.tmp 50) 26 rfl w.heap.size 40 i1 (.agg #[.string ByteArray.empty, .int .i64 0]) 2 24 Try.underlying26 hi1 hy0 hy1 hy2 rfl (by decide) (.slice Ao n co) n _ rfl HO5.out (some ⟨W.heap.size, 0, none⟩) 1 1 (encI ⟨gd, Y⟩) rfl (rd_one HNW.out) (by simp [encI, Value.oneCell']) (by unfold maxLen; omega) (by omega) HW5.out ?_
                       intro v6 w6 hown6 hgrow6 _
                       have f6 : Fr w.heap.size [40] [] (W.alloc (.cells #[.string gd, .int .i64 (Y)] 40)) w6 := (Fr.refl _).grown hgrow6 fun j hj => by
                         obtain ⟨hb, cs, hc⟩ := own_block HO5.out hj
                         exact ⟨hb, .inr ⟨cs, _, _, hc, by simp⟩⟩
                       have HF6 := Lib.hid f6
                       have HO6 := Lib.hid hown6
                       obtain ⟨A6, c6, rfl, _, _, _, _⟩ := own_slice hown6
                       clear hown6 hgrow6 f6)
          go_roundw
          case rel =>
            refine ⟨k + 1, hlt, by go_num, ?_, (HBW2.out.trans (HBE.out.mono HBW2.out.size)).trans (HF6.out.below HW5.out)⟩
            have h6 := HO6.out
            rw [HSN3.out, List.length_append, HNN.out, List.flatMap_append, List.flatMap_cons, List.flatMap_nil, List.append_nil]
            exact h6
          case measure => simp [intOf]; omega
        · have hp' : decide (0 < Y) = false := by simp; omega
          have HSN3 := Lib.hid (HSN2.out.trans (if_neg hp))
          clear hF
          go_wp2_with fail
          go_roundw
          case rel => exact ⟨k + 1, hlt, by go_num, by rw [HSN3.out, HNN.out]; exact HOW.out, HBW2.out⟩
          case measure => simp [intOf]; omega
      · have hyx' : decide (Y < X) = false := by simp; omega
        have hF : min X Y = X := by omega
        have HSN2 := Lib.hid HSN.out
        rw [hF] at HSN2
        by_cases hp : 0 < X
        · have hp' : decide (0 < X) = true := by simp; omega
          have HSN3 := Lib.hid (HSN2.out.trans (if_pos hp))
          have hbe : Below W.heap.size W (W.alloc (.cells #[.string gd, .int .i64 (X)] 40)) := (Below.refl _ W).alloc (Nat.le_refl _) _
          have HBE := Lib.hid hbe
          have HNW := Lib.hid (block_new W (.cells #[.string gd, .int .i64 (X)] 40))
          have HO5 := Lib.hid ((Fr.of_below (B := 0) (T := []) (S := []) hbe).own HOW.out (by simp) (by simp))
          have HW5 : Hid (w.heap.size ≤ (W.alloc (.cells #[.string gd, .int .i64 (X)] 40)).heap.size) := Lib.hid (Nat.le_trans HBW2.out.size hbe.size)
          clear hbe hF
          go_wp2_with (at_builtin
                       refine wpList_append_rd _ rfl (.tmp 42) (.tmp 50) 26 rfl w.heap.size 40 i1 (.agg #[.string ByteArray.empty, .int .i64 0]) 2 24 Try.underlying26 hi1 hy0 hy1 hy2 rfl (by decide) (.slice Ao n co) n _ rfl HO5.out (some ⟨W.heap.size, 0, none⟩) 1 1 (encI ⟨gd, X⟩) rfl (rd_one HNW.out) (by simp [encI, Value.oneCell']) (by unfold maxLen; omega) (by omega) HW5.out ?_
                       intro v6 w6 hown6 hgrow6 _
                       have f6 : Fr w.heap.size [40] [] (W.alloc (.cells #[.string gd, .int .i64 (X)] 40)) w6 := (Fr.refl _).grown hgrow6 fun j hj => by
                         obtain ⟨hb, cs, hc⟩ := own_block HO5.out hj
                         exact ⟨hb, .inr ⟨cs, _, _, hc, by simp⟩⟩
                       have HF6 := Lib.hid f6
                       have HO6 := Lib.hid hown6
                       obtain ⟨A6, c6, rfl, _, _, _, _⟩ := own_slice hown6
                       clear hown6 hgrow6 f6)
          go_roundw
          case rel =>
            refine ⟨k + 1, hlt, by go_num, ?_, (HBW2.out.trans (HBE.out.mono HBW2.out.size)).trans (HF6.out.below HW5.out)⟩
            have h6 := HO6.out
            rw [HSN3.out, List.length_append, HNN.out, List.flatMap_append, List.flatMap_cons, List.flatMap_nil, List.append_nil]
            exact h6
          case measure => simp [intOf]; omega
        · have hp' : decide (0 < X) = false := by simp; omega
          have HSN3 := Lib.hid (HSN2.out.trans (if_neg hp))
          clear hF
          go_wp2_with fail
          go_roundw
          case rel => exact ⟨k + 1, hlt, by go_num, by rw [HSN3.out, HNN.out]; exact HOW.out, HBW2.out⟩
          case measure => simp [intOf]; omega
    · have ekm : k = m := by omega
      have hE : a.take k = a := List.take_of_length_le (by have := HM.out; omega)
      have HE := Lib.hid hE
      have hkm' : decide ((k : Int) < (m : Int)) = false := by simp; omega
      clear hE
      subst ekm
      go_wp2
      go_ret
      refine ⟨_, rfl, ?_, HBW.out⟩
      have h1 := HO.out
      have h2 := HNN.out
      rw [HE.out] at h1 h2
      rw [h2]
      exact h1
set_option maxRecDepth 100000 in
set_option maxHeartbeats 3000000 in
theorem xrestB_any (A : Option Addr) (c : Nat) (a : List It) (B : Option Addr) (cb : Nat) (b : List It) (w : World) (hr : Rd w 2 A a.length (a.flatMap encI)) (hrb : Rd w 2 B b.length (b.flatMap encI)) (ha : mayI a = true) (hb : mayI b = true) :
    Calls Try.prog 27 #[.slice A a.length c, .slice B b.length cb, .int .i64 2] w (RetI w (eachI (fun n o => n - o) b a)) := by
  obtain ⟨i1, hi1, hy0, hy1, hy2⟩ := info_parts Try.infoItem
  have hn16 := (mayI_at ha).1
  obtain ⟨m, hm2⟩ : ∃ m, a.length = m := ⟨_, rfl⟩
  obtain ⟨nb, hnb2⟩ : ∃ nb, b.length = nb := ⟨_, rfl⟩
  have HM := Lib.hid hm2
  have HR := Lib.hid hr
  have HN := Lib.hid (ok_of ha)
  have HOF : Hid (∀ gd W, Below w.heap.size w W → Calls Try.prog 41 #[.slice B nb cb, .string gd] W fun e w' => e = .returned (.int .i64 (ofI b gd)) ∧ W = w') := Lib.hid (fun gd W hW => by
    have := xof_any B cb b gd W (hrb.below hW) (ok_of hb) (by have := (mayI_at hb).1; omega)
    rw [hnb2] at this
    exact this)
  have HOB : Hid (∀ gd, 0 ≤ ofI b gd ∧ ofI b gd ≤ 17592186044416) := Lib.hid (fun gd => by
    have h1 := ofI_bd gd (ok_of hb)
    have h2 := (mayI_at hb).1
    have : 1099511627776 * (b.length : Int) ≤ 1099511627776 * 16 := by omega
    omega)
  rw [hm2] at hn16 ⊢
  rw [hnb2]
  clear hr hrb ha hb hm2 hnb2
  go_enter Try.func27, Try.ntmps27
  go_wp2_with fail
  go_loopw [7, 8] (fun ov iv wr => ∃ k : Nat, k ≤ m ∧ iv = .int .i64 k ∧ wr.ownsRow w.heap.size 40 2 ov (eachI (fun n o => n - o) b (a.take k)).length ((eachI (fun n o => n - o) b (a.take k)).flatMap encI) ∧ Below w.heap.size w wr) (fun _ iv => fun _ => m - (intOf iv).toNat)
  case atStart => exact ⟨0, Nat.zero_le _, rfl, World.ownsRow_nil _ _ _ _, Below.refl _ _⟩
  case round =>
    obtain ⟨k, hk, rfl, ho, hbw⟩ := hrel
    have HBW := Lib.hid hbw
    obtain ⟨n, hn⟩ : ∃ n, (eachI (fun n o => n - o) b (a.take k)).length = n := ⟨_, rfl⟩
    rw [hn] at ho
    have hn16' : n ≤ 16 := by have h1 := eachI_len (fun n o => n - o) b (a.take k); rw [hn, List.length_take] at h1; have := HM.out; omega
    obtain ⟨Ao, co, rfl, _, _, _, _⟩ := own_slice ho
    have HO := Lib.hid ho
    have HNN := Lib.hid hn
    clear ho hn hbw
    by_cases hlt : k < m
    · have hkl : k < a.length := by have := HM.out; omega
      obtain ⟨g, o, rfl, hg, c0, c1⟩ := rdi_at HR.out hkl
      have hsn : eachI (fun n o => n - o) b (a.take (k + 1)) = if 0 < (fun n o => n - o) a[k].n (ofI b a[k].good) then eachI (fun n o => n - o) b (a.take k) ++ [⟨a[k].good, (fun n o => n - o) a[k].n (ofI b a[k].good)⟩] else eachI (fun n o => n - o) b (a.take k) := by rw [List.take_succ_eq_append_getElem hkl, eachI_snoc]
      have hnx := HN.out _ (List.getElem_mem hkl)
      obtain ⟨X, hX⟩ : ∃ X, a[k].n = X := ⟨_, rfl⟩
      obtain ⟨gd, hgd⟩ : ∃ gd, a[k].good = gd := ⟨_, rfl⟩
      rw [hX] at c1 hsn hnx
      rw [hgd] at c0 hsn
      have hC0 := HOF.out gd
      have hyb := HOB.out gd
      obtain ⟨Y, hY⟩ : ∃ Y, ofI b gd = Y := ⟨_, rfl⟩
      rw [hY] at hsn hyb hC0
      have HSN := Lib.hid hsn
      have HCC := Lib.hid hC0
      have HC0 := Lib.hid ((HBW.out.cell (p := ⟨g, o + k * 2, none⟩) hg).trans c0)
      have HC1 := Lib.hid ((HBW.out.cell (p := ⟨g, o + k * 2 + 1, none⟩) hg).trans c1)
      have HG := Lib.hid (Nat.lt_of_lt_of_le hg HBW.out.size)
      have hkm : (k : Int) < (m : Int) := by omega
      have hkm' : decide ((k : Int) < (m : Int)) = true := by simp; omega
      clear hX hgd hY hsn hC0 c0 c1 hg
      have hwr : IntKind.i64.wrap (X - Y) = X - Y := IntWalk.i64_in _ (by omega)
      go_wp2_with fail
      refine wp_region_flow (fun W => Below wr.heap.size wr W) [0, 1, 2, 3, 4, 5, 6, 7, 8, 9, 10, 11, 12, 13] (by kernel_rfl) (by kernel_rfl) (by kernel_rfl) ((Below.refl _ _).drew) ?_
      refine flow_val ?_ rfl (by kernel_rfl) (by rfl) (fun W hW => ?_) ?_
      rotate_left 1
      · go_simp <;> with_reducible rfl
      simp only [Act.put, List.setIfInBounds_toArray, List.set_cons_succ, List.set_cons_zero]
      refine flow_val ?_ rfl (by kernel_rfl) (by rfl) (fun W hW => ?_) ?_
      rotate_left 1
      · go_simp <;> with_reducible rfl
      simp only [Act.put, List.setIfInBounds_toArray, List.set_cons_succ, List.set_cons_zero]
      refine flow_val ?_ rfl (by kernel_rfl) (by rfl) (fun W hW => ?_) ?_
      rotate_left 1
      · go_simp <;> with_reducible rfl
      simp only [Act.put, List.setIfInBounds_toArray, List.set_cons_succ, List.set_cons_zero]
      refine flow_val ?_ rfl (by kernel_rfl) (by rfl) (fun W hW => ?_) ?_
      rotate_left 1
      · go_simp <;> with_reducible rfl
      simp only [Act.put, List.setIfInBounds_toArray, List.set_cons_succ, List.set_cons_zero]
      refine flow_val ?_ rfl (by kernel_rfl) (by rfl) (fun W hW => ?_) ?_
      rotate_left 1
      · have d1 : W.cell? ⟨g, o + k * 2 + 1, none⟩ = some (.int .i64 X) := (hW.cell (p := ⟨g, o + k * 2 + 1, none⟩) HG.out).trans HC1.out; go_simp <;> with_reducible rfl
      simp only [Act.put, List.setIfInBounds_toArray, List.set_cons_succ, List.set_cons_zero]
      refine flow_val ?_ rfl (by kernel_rfl) (by rfl) (fun W hW => ?_) ?_
      rotate_left 1
      · go_simp <;> with_reducible rfl
      simp only [Act.put, List.setIfInBounds_toArray, List.set_cons_succ, List.set_cons_zero]
      refine flow_val ?_ rfl (by kernel_rfl) (by rfl) (fun W hW => ?_) ?_
      rotate_left 1
      · go_simp <;> with_reducible rfl
      simp only [Act.put, List.setIfInBounds_toArray, List.set_cons_succ, List.set_cons_zero]
      refine flow_val ?_ rfl (by kernel_rfl) (by rfl) (fun W hW => ?_) ?_
      rotate_left 1
      · go_simp <;> with_reducible rfl
      simp only [Act.put, List.setIfInBounds_toArray, List.set_cons_succ, List.set_cons_zero]
      refine flow_val ?_ rfl (by kernel_rfl) (by rfl) (fun W hW => ?_) ?_
      rotate_left 1
      · go_simp <;> with_reducible rfl
      simp only [Act.put, List.setIfInBounds_toArray, List.set_cons_succ, List.set_cons_zero]
      refine flow_val ?_ rfl (by kernel_rfl) (by rfl) (fun W hW => ?_) ?_
      rotate_left 1
      · go_simp <;> with_reducible rfl
      simp only [Act.put, List.setIfInBounds_toArray, List.set_cons_succ, List.set_cons_zero]
      refine flow_val ?_ rfl (by kernel_rfl) (by rfl) (fun W hW => ?_) ?_
      rotate_left 1
      · have d0 : W.cell? ⟨g, o + k * 2, none⟩ = some (.string gd) := (hW.cell (p := ⟨g, o + k * 2, none⟩) HG.out).trans HC0.out; go_simp <;> with_reducible rfl
      simp only [Act.put, List.setIfInBounds_toArray, List.set_cons_succ, List.set_cons_zero]
      refine flow_quiet (.int .i64 Y) rfl (by kernel_rfl) (by rfl) (fun W hW => ⟨_, _, by go_simp, HCC.out W (HBW.out.trans (hW.mono HBW.out.size))⟩) ?_
      simp only [Act.put, List.setIfInBounds_toArray, List.set_cons_succ, List.set_cons_zero]
      refine flow_val ?_ rfl (by kernel_rfl) (by rfl) (fun W hW => ?_) ?_
      rotate_left 1
      · go_simp <;> with_reducible rfl
      simp only [Act.put, List.setIfInBounds_toArray, List.set_cons_succ, List.set_cons_zero]
      refine flow_val ?_ rfl (by kernel_rfl) (by rfl) (fun W hW => ?_) ?_
      rotate_left 1
      · go_simp <;> with_reducible rfl
      simp only [Act.put, List.setIfInBounds_toArray, List.set_cons_succ, List.set_cons_zero]
      refine flow_done ?_
      intro W hW
      have HWW := Lib.hid hW
      have HBW2 := Lib.hid (HBW.out.trans (hW.mono HBW.out.size))
      have d0 : W.cell? ⟨g, o + k * 2, none⟩ = some (.string gd) := (hW.cell (p := ⟨g, o + k * 2, none⟩) HG.out).trans HC0.out
      have HOW := Lib.hid ((Fr.of_below (B := 0) (T := []) (S := []) hW).own HO.out (by simp) (by simp))
      clear hW
      obtain ⟨V, hV⟩ : ∃ V, X - Y = V := ⟨_, rfl⟩
      rw [hV] at hwr
      have hF : X - Y = V := by exact hV
      have HSN2 := Lib.hid HSN.out
      rw [hF] at HSN2
      by_cases hp : 0 < V
      · have hp' : decide (0 < V) = true := by simp; omega
        have HSN3 := Lib.hid (HSN2.out.trans (if_pos hp))
        have hbe : Below W.heap.size W (W.alloc (.cells #[.string gd, .int .i64 (V)] 40)) := (Below.refl _ W).alloc (Nat.le_refl _) _
        have HBE := Lib.hid hbe
        have HNW := Lib.hid (block_new W (.cells #[.string gd, .int .i64 (V)] 40))
        have HO5 := Lib.hid ((Fr.of_below (B := 0) (T := []) (S := []) hbe).own HOW.out (by simp) (by simp))
        have HW5 : Hid (w.heap.size ≤ (W.alloc (.cells #[.string gd, .int .i64 (V)] 40)).heap.size) := Lib.hid (Nat.le_trans HBW2.out.size hbe.size)
        clear hbe hF
        go_wp2_with (at_builtin
                     refine wpList_append_rd _ rfl (.tmp 42) (.tmp 50) 26 rfl w.heap.size 40 i1 (.agg #[.string ByteArray.empty, .int .i64 0]) 2 24 Try.underlying26 hi1 hy0 hy1 hy2 rfl (by decide) (.slice Ao n co) n _ rfl HO5.out (some ⟨W.heap.size, 0, none⟩) 1 1 (encI ⟨gd, V⟩) rfl (rd_one HNW.out) (by simp [encI, Value.oneCell']) (by unfold maxLen; omega) (by omega) HW5.out ?_
                     intro v6 w6 hown6 hgrow6 _
                     have f6 : Fr w.heap.size [40] [] (W.alloc (.cells #[.string gd, .int .i64 (V)] 40)) w6 := (Fr.refl _).grown hgrow6 fun j hj => by
                       obtain ⟨hb, cs, hc⟩ := own_block HO5.out hj
                       exact ⟨hb, .inr ⟨cs, _, _, hc, by simp⟩⟩
                     have HF6 := Lib.hid f6
                     have HO6 := Lib.hid hown6
                     obtain ⟨A6, c6, rfl, _, _, _, _⟩ := own_slice hown6
                     clear hown6 hgrow6 f6)
        go_roundw
        case rel =>
          refine ⟨k + 1, hlt, by go_num, ?_, (HBW2.out.trans (HBE.out.mono HBW2.out.size)).trans (HF6.out.below HW5.out)⟩
          have h6 := HO6.out
          rw [HSN3.out, List.length_append, HNN.out, List.flatMap_append, List.flatMap_cons, List.flatMap_nil, List.append_nil]
          exact h6
        case measure => simp [intOf]; omega
      · have hp' : decide (0 < V) = false := by simp; omega
        have HSN3 := Lib.hid (HSN2.out.trans (if_neg hp))
        clear hF
        go_wp2_with fail
        go_roundw
        case rel => exact ⟨k + 1, hlt, by go_num, by rw [HSN3.out, HNN.out]; exact HOW.out, HBW2.out⟩
        case measure => simp [intOf]; omega
    · have ekm : k = m := by omega
      have hE : a.take k = a := List.take_of_length_le (by have := HM.out; omega)
      have HE := Lib.hid hE
      have hkm' : decide ((k : Int) < (m : Int)) = false := by simp; omega
      clear hE
      subst ekm
      go_wp2
      go_ret
      refine ⟨_, rfl, ?_, HBW.out⟩
      have h1 := HO.out
      have h2 := HNN.out
      rw [HE.out] at h1 h2
      rw [h2]
      exact h1
set_option maxRecDepth 100000 in
theorem xmeet_any (A : Option Addr) (c : Nat) (a : List It) (B : Option Addr) (cb : Nat) (b : List It) (w : World) (hr : Rd w 2 A a.length (a.flatMap encI)) (hrb : Rd w 2 B b.length (b.flatMap encI)) (ha : mayI a = true) (hb : mayI b = true) :
    Calls Try.prog 26 #[.slice A a.length c, .slice B b.length cb] w (RetI w (meetI a b)) := by
  have H := Lib.hid (xmeetB_any A c a B cb b w hr hrb ha hb)
  clear hr hrb ha hb
  go_enter Try.func26, Try.ntmps26
  go_wp2_with fail
  refine H.out.mono ?_
  rintro e w1 ⟨v, rfl, h1, h2⟩
  have H1 := Lib.hid h1
  have H2 := Lib.hid h2
  clear h1 h2 H
  go_wp2
  go_ret
  exact ⟨_, rfl, H1.out, H2.out⟩
set_option maxRecDepth 100000 in
theorem xrest_any (A : Option Addr) (c : Nat) (a : List It) (B : Option Addr) (cb : Nat) (b : List It) (w : World) (hr : Rd w 2 A a.length (a.flatMap encI)) (hrb : Rd w 2 B b.length (b.flatMap encI)) (ha : mayI a = true) (hb : mayI b = true) :
    Calls Try.prog 16 #[.slice A a.length c, .slice B b.length cb] w (RetI w (restI a b)) := by
  have H := Lib.hid (xrestB_any A c a B cb b w hr hrb ha hb)
  clear hr hrb ha hb
  go_enter Try.func16, Try.ntmps16
  go_wp2_with fail
  refine H.out.mono ?_
  rintro e w1 ⟨v, rfl, h1, h2⟩
  have H1 := Lib.hid h1
  have H2 := Lib.hid h2
  clear h1 h2 H
  go_wp2
  go_ret
  exact ⟨_, rfl, H1.out, H2.out⟩
end Go.Proofs.Ytlcnkicmepcppaa
