/- The law CellsApart: no number's cell is the beginning of another's. The walk. -/
import Derived.Test.YtlljeghlfijdnaaCL1
namespace Go.Proofs.Ytlljeghlfijdnaa
open Go.RowKit

/-- A number whose cell is the beginning of another's is that other. -/
theorem numB_prefix {a b : Int} (ha : I64 a) (hb : I64 b) (h : (numB b).take (numB a).length = numB a) : a = b := by
  have h1 := firstN_num b hb []
  rw [List.append_nil] at h1
  have h2 : numB b = numB a ++ (numB b).drop (numB a).length := by
    have := List.take_append_drop (numB a).length (numB b)
    rw [h] at this
    exact this.symm
  rw [h2, firstN_num a ha] at h1
  injection h1 with h1
  injection h1 with h1
theorem digF_mono : ∀ (f u v : Nat), u ≤ v → (digF f u).length ≤ (digF f v).length
  | 0, _, _, _ => by simp [digF]
  | f + 1, u, v, h => by
    have ih := digF_mono f (u / 256) (v / 256) (Nat.div_le_div_right h)
    rw [digF, digF]
    by_cases h0 : u = 0
    · simp [h0]
    · rw [if_neg h0, if_neg (by omega)]
      simpa using ih
theorem numB_mono {a b : Int} (h0 : 0 ≤ a) (h : a ≤ b) : (numB a).length ≤ (numB b).length := by
  have hb := (numB_length b).1
  unfold numB at hb ⊢
  by_cases h1 : a < 128
  · rw [if_pos (⟨h0, h1⟩ : 0 ≤ a ∧ a < 128)]
    exact hb
  · rw [if_neg (by omega : ¬ (0 ≤ a ∧ a < 128)), if_pos h0, if_neg (by omega : ¬ (0 ≤ b ∧ b < 128)), if_pos (by omega : 0 ≤ b)]
    have := digF_mono 8 a.toNat b.toNat (by omega)
    simp only [List.length_cons]
    unfold dig
    omega

set_option maxRecDepth 100000 in
set_option maxHeartbeats 2000000 in
theorem apart_1n (a b : Int) (w : World) (ha : I64 a) (hb : I64 b) (hab : a = b) (hle : (numB a).length ≤ (numB b).length) (hs : a < 0) :
    Calls Try.prog 5 #[.int .i64 a, .int .i64 b] w fun e w' => e = .returned (.bool true) ∧ Below w.heap.size w w' := by
  have hl9 := (numB_length a).2
  have hl1 := (numB_length b).1
  have hbeq : ((strOf ((numB b).take (numB a).length)).toList == (strOf (numB a)).toList) = true := by subst hab; rw [strOf_beq (fun x hx => numB_lt a x (List.mem_of_mem_take hx)) (numB_lt a), List.take_length]; simp
  have hab1 : (a == b) = true := by simpa using hab
  have HN : Hid (∀ w, Calls Try.prog 13 #[.int .i64 a] w (RetB (numB a) w)) := Lib.hid (fun w => num_any a w ha)
  have HM : Hid (∀ w, Calls Try.prog 13 #[.int .i64 b] w (RetB (numB b) w)) := Lib.hid (fun w => num_any b w hb)
  have HX := Lib.hid (numB_lt a)
  have HY := Lib.hid (numB_lt b)
  obtain ⟨X, hX⟩ : ∃ X, numB a = X := ⟨_, rfl⟩
  obtain ⟨Y, hY⟩ : ∃ Y, numB b = Y := ⟨_, rfl⟩
  rw [hX] at HN HX hle hl9 hbeq
  rw [hY] at HM HY hle hl1 hbeq
  obtain ⟨S, hS⟩ : ∃ S, strOf X = S := ⟨_, rfl⟩
  obtain ⟨T, hT⟩ : ∃ T, strOf (Y.take X.length) = T := ⟨_, rfl⟩
  rw [hS, hT] at hbeq
  have HS := Lib.hid hS
  have HT := Lib.hid hT
  have HAB := Lib.hid hab
  clear hX hY hS hT hab ha hb
  have hd1 : decide (X.length ≤ Y.length) = true := by simpa using hle
  have hd2 : decide ((X.length : Int) ≤ (Y.length : Int)) = true := by simp; omega
  have hda : decide (a < 0) = true := by simpa using hs
  have HSS := Lib.hid hs
  clear hs
  have hd9 : decide (X.length ≤ 9) = true := by simpa using hl9
  have hd10 : decide ((X.length : Int) ≤ 9) = true := by simp; omega
  go_enter Try.func5, Try.ntmps5
  go_wp2_with fail
  refine (HN.out _).mono ?_
  rintro e w1 ⟨v, rfl, hv, hb1⟩
  have HV1 := Lib.hid hv
  obtain ⟨A1, c1, rfl, g1, g2, _⟩ := hv
  have HB1 := Lib.hid hb1
  have g2' : c1 ≤ 9223372036854775807 := by unfold maxLen at g2; omega
  clear hb1 g2
  go_wp2_with fail
  refine (HM.out _).mono ?_
  rintro e w2 ⟨v, rfl, hv, hb2⟩
  have HV2 := Lib.hid hv
  obtain ⟨A2, c2, rfl, g3, g4, _⟩ := hv
  have HB2 := Lib.hid (HB1.out.trans (hb2.mono HB1.out.size))
  have HR1 := Lib.hid (HV1.out.rd.below hb2)
  have g4' : c2 ≤ 9223372036854775807 := by unfold maxLen at g4; omega
  obtain ⟨g, o, rfl, _, _⟩ := HV2.out.rd.2 (by omega)
  have i1 : (0 : Int) ≤ (X.length : Int) := by omega
  have i2 : (X.length : Int) ≤ (c2 : Int) := by omega
  clear hb2 g4
  go_wp2_with fail
  refine wp_region_flow (fun W => Below w2.heap.size w2 W) [0, 1, 2, 3, 4, 5, 6, 7, 8, 9, 10, 11, 12, 13, 14, 15] (by kernel_rfl) (by kernel_rfl) (by kernel_rfl) ((Below.refl _ w2).drew) ?_
  refine flow_val ?_ rfl (by kernel_rfl) (by rfl) (fun W hW => ?_) ?_
  rotate_left 1
  · go_simp <;> with_reducible rfl
  simp only [Act.put, List.setIfInBounds_toArray, List.set_cons_succ, List.set_cons_zero]
  refine flow_val ?_ rfl (by kernel_rfl) (by rfl) (fun W hW => ?_) ?_
  rotate_left 1
  · go_simp <;> with_reducible rfl
  simp only [Act.put, List.setIfInBounds_toArray, List.set_cons_succ, List.set_cons_zero]
  refine flow_val ?_ rfl (by kernel_rfl) (by rfl) (fun W hW => ?_) ?_
  rotate_left 1
  · go_simp <;> with_reducible rfl
  simp only [Act.put, List.setIfInBounds_toArray, List.set_cons_succ, List.set_cons_zero]
  refine flow_val ?_ rfl (by kernel_rfl) (by rfl) (fun W hW => ?_) ?_
  rotate_left 1
  · go_simp <;> with_reducible rfl
  simp only [Act.put, List.setIfInBounds_toArray, List.set_cons_succ, List.set_cons_zero]
  refine flow_val ?_ rfl (by kernel_rfl) (by rfl) (fun W hW => ?_) ?_
  rotate_left 1
  · go_simp <;> with_reducible rfl
  simp only [Act.put, List.setIfInBounds_toArray, List.set_cons_succ, List.set_cons_zero]
  refine flow_val ?_ rfl (by kernel_rfl) (by rfl) (fun W hW => ?_) ?_
  rotate_left 1
  · go_simp <;> with_reducible rfl
  simp only [Act.put, List.setIfInBounds_toArray, List.set_cons_succ, List.set_cons_zero]
  refine flow_val ?_ rfl (by kernel_rfl) (by rfl) (fun W hW => ?_) ?_
  rotate_left 1
  · go_simp <;> with_reducible rfl
  simp only [Act.put, List.setIfInBounds_toArray, List.set_cons_succ, List.set_cons_zero]
  refine flow_val ?_ rfl (by kernel_rfl) (by rfl) (fun W hW => ?_) ?_
  rotate_left 1
  · go_simp <;> with_reducible rfl
  simp only [Act.put, List.setIfInBounds_toArray, List.set_cons_succ, List.set_cons_zero]
  refine flow_val ?_ rfl (by kernel_rfl) (by rfl) (fun W hW => ?_) ?_
  rotate_left 1
  · go_simp <;> with_reducible rfl
  simp only [Act.put, List.setIfInBounds_toArray, List.set_cons_succ, List.set_cons_zero]
  refine flow_val ?_ rfl (by kernel_rfl) (by rfl) (fun W hW => ?_) ?_
  rotate_left 1
  · go_simp <;> with_reducible rfl
  simp only [Act.put, List.setIfInBounds_toArray, List.set_cons_succ, List.set_cons_zero]
  refine flow_val ?_ rfl (by kernel_rfl) (by rfl) (fun W hW => ?_) ?_
  rotate_left 1
  · have hs := HT.out ▸ run_str W (some ⟨g, o, none⟩) X.length c2 (Y.take X.length) (by simpa [List.map_take] using (HV2.out.rd.below hW).take (k := X.length) (by omega)) (fun x hx => HY.out x (List.mem_of_mem_take hx)); go_simp <;> with_reducible rfl
  simp only [Act.put, List.setIfInBounds_toArray, List.set_cons_succ, List.set_cons_zero]
  refine flow_val ?_ rfl (by kernel_rfl) (by rfl) (fun W hW => ?_) ?_
  rotate_left 1
  · go_simp <;> with_reducible rfl
  simp only [Act.put, List.setIfInBounds_toArray, List.set_cons_succ, List.set_cons_zero]
  refine flow_val ?_ rfl (by kernel_rfl) (by rfl) (fun W hW => ?_) ?_
  rotate_left 1
  · have hs := HS.out ▸ run_str W A1 X.length c1 X (HR1.out.below hW) HX.out; go_simp <;> with_reducible rfl
  simp only [Act.put, List.setIfInBounds_toArray, List.set_cons_succ, List.set_cons_zero]
  refine flow_val ?_ rfl (by kernel_rfl) (by rfl) (fun W hW => ?_) ?_
  rotate_left 1
  · go_simp <;> with_reducible rfl
  simp only [Act.put, List.setIfInBounds_toArray, List.set_cons_succ, List.set_cons_zero]
  refine flow_val ?_ rfl (by kernel_rfl) (by rfl) (fun W hW => ?_) ?_
  rotate_left 1
  · go_simp <;> with_reducible rfl
  simp only [Act.put, List.setIfInBounds_toArray, List.set_cons_succ, List.set_cons_zero]
  refine flow_val ?_ rfl (by kernel_rfl) (by rfl) (fun W hW => ?_) ?_
  rotate_left 1
  · go_simp <;> with_reducible rfl
  simp only [Act.put, List.setIfInBounds_toArray, List.set_cons_succ, List.set_cons_zero]
  refine flow_done ?_
  intro W hW
  go_wp2_with fail
  refine (lives_any _).mono ?_
  rintro e w4 ⟨rfl, hb4⟩
  have HB4 := Lib.hid (HB2.out.trans ((hW.trans (hb4.mono hW.size)).mono HB2.out.size))
  clear hb4
  go_wp2
  go_ret
  exact ⟨rfl, HB4.out⟩

set_option maxRecDepth 100000 in
set_option maxHeartbeats 2000000 in
theorem apart_1m (a b : Int) (w : World) (ha : I64 a) (hb : I64 b) (hab : a = b) (hle : (numB a).length ≤ (numB b).length) (hs : 0 ≤ a) (hs2 : a ≤ b) :
    Calls Try.prog 5 #[.int .i64 a, .int .i64 b] w fun e w' => e = .returned (.bool true) ∧ Below w.heap.size w w' := by
  have hl9 := (numB_length a).2
  have hl1 := (numB_length b).1
  have hbeq : ((strOf ((numB b).take (numB a).length)).toList == (strOf (numB a)).toList) = true := by subst hab; rw [strOf_beq (fun x hx => numB_lt a x (List.mem_of_mem_take hx)) (numB_lt a), List.take_length]; simp
  have hab1 : (a == b) = true := by simpa using hab
  have HN : Hid (∀ w, Calls Try.prog 13 #[.int .i64 a] w (RetB (numB a) w)) := Lib.hid (fun w => num_any a w ha)
  have HM : Hid (∀ w, Calls Try.prog 13 #[.int .i64 b] w (RetB (numB b) w)) := Lib.hid (fun w => num_any b w hb)
  have HX := Lib.hid (numB_lt a)
  have HY := Lib.hid (numB_lt b)
  obtain ⟨X, hX⟩ : ∃ X, numB a = X := ⟨_, rfl⟩
  obtain ⟨Y, hY⟩ : ∃ Y, numB b = Y := ⟨_, rfl⟩
  rw [hX] at HN HX hle hl9 hbeq
  rw [hY] at HM HY hle hl1 hbeq
  obtain ⟨S, hS⟩ : ∃ S, strOf X = S := ⟨_, rfl⟩
  obtain ⟨T, hT⟩ : ∃ T, strOf (Y.take X.length) = T := ⟨_, rfl⟩
  rw [hS, hT] at hbeq
  have HS := Lib.hid hS
  have HT := Lib.hid hT
  have HAB := Lib.hid hab
  clear hX hY hS hT hab ha hb
  have hd1 : decide (X.length ≤ Y.length) = true := by simpa using hle
  have hd2 : decide ((X.length : Int) ≤ (Y.length : Int)) = true := by simp; omega
  have hda : decide (a < 0) = false := by simp; omega
  have hdb : decide (b < a) = false := by simp; omega
  have HSS := Lib.hid (And.intro hs hs2)
  clear hs hs2
  have hd9 : decide (X.length ≤ 9) = true := by simpa using hl9
  have hd10 : decide ((X.length : Int) ≤ 9) = true := by simp; omega
  go_enter Try.func5, Try.ntmps5
  go_wp2_with fail
  refine (HN.out _).mono ?_
  rintro e w1 ⟨v, rfl, hv, hb1⟩
  have HV1 := Lib.hid hv
  obtain ⟨A1, c1, rfl, g1, g2, _⟩ := hv
  have HB1 := Lib.hid hb1
  have g2' : c1 ≤ 9223372036854775807 := by unfold maxLen at g2; omega
  clear hb1 g2
  go_wp2_with fail
  refine (HM.out _).mono ?_
  rintro e w2 ⟨v, rfl, hv, hb2⟩
  have HV2 := Lib.hid hv
  obtain ⟨A2, c2, rfl, g3, g4, _⟩ := hv
  have HB2 := Lib.hid (HB1.out.trans (hb2.mono HB1.out.size))
  have HR1 := Lib.hid (HV1.out.rd.below hb2)
  have g4' : c2 ≤ 9223372036854775807 := by unfold maxLen at g4; omega
  obtain ⟨g, o, rfl, _, _⟩ := HV2.out.rd.2 (by omega)
  have i1 : (0 : Int) ≤ (X.length : Int) := by omega
  have i2 : (X.length : Int) ≤ (c2 : Int) := by omega
  clear hb2 g4
  go_wp2_with fail
  refine wp_region_flow (fun W => Below w2.heap.size w2 W) [0, 1, 2, 3, 4, 5, 6, 7, 8, 9, 10, 11, 12, 13, 14, 15] (by kernel_rfl) (by kernel_rfl) (by kernel_rfl) ((Below.refl _ w2).drew) ?_
  refine flow_val ?_ rfl (by kernel_rfl) (by rfl) (fun W hW => ?_) ?_
  rotate_left 1
  · go_simp <;> with_reducible rfl
  simp only [Act.put, List.setIfInBounds_toArray, List.set_cons_succ, List.set_cons_zero]
  refine flow_val ?_ rfl (by kernel_rfl) (by rfl) (fun W hW => ?_) ?_
  rotate_left 1
  · go_simp <;> with_reducible rfl
  simp only [Act.put, List.setIfInBounds_toArray, List.set_cons_succ, List.set_cons_zero]
  refine flow_val ?_ rfl (by kernel_rfl) (by rfl) (fun W hW => ?_) ?_
  rotate_left 1
  · go_simp <;> with_reducible rfl
  simp only [Act.put, List.setIfInBounds_toArray, List.set_cons_succ, List.set_cons_zero]
  refine flow_val ?_ rfl (by kernel_rfl) (by rfl) (fun W hW => ?_) ?_
  rotate_left 1
  · go_simp <;> with_reducible rfl
  simp only [Act.put, List.setIfInBounds_toArray, List.set_cons_succ, List.set_cons_zero]
  refine flow_val ?_ rfl (by kernel_rfl) (by rfl) (fun W hW => ?_) ?_
  rotate_left 1
  · go_simp <;> with_reducible rfl
  simp only [Act.put, List.setIfInBounds_toArray, List.set_cons_succ, List.set_cons_zero]
  refine flow_val ?_ rfl (by kernel_rfl) (by rfl) (fun W hW => ?_) ?_
  rotate_left 1
  · go_simp <;> with_reducible rfl
  simp only [Act.put, List.setIfInBounds_toArray, List.set_cons_succ, List.set_cons_zero]
  refine flow_val ?_ rfl (by kernel_rfl) (by rfl) (fun W hW => ?_) ?_
  rotate_left 1
  · go_simp <;> with_reducible rfl
  simp only [Act.put, List.setIfInBounds_toArray, List.set_cons_succ, List.set_cons_zero]
  refine flow_val ?_ rfl (by kernel_rfl) (by rfl) (fun W hW => ?_) ?_
  rotate_left 1
  · go_simp <;> with_reducible rfl
  simp only [Act.put, List.setIfInBounds_toArray, List.set_cons_succ, List.set_cons_zero]
  refine flow_val ?_ rfl (by kernel_rfl) (by rfl) (fun W hW => ?_) ?_
  rotate_left 1
  · go_simp <;> with_reducible rfl
  simp only [Act.put, List.setIfInBounds_toArray, List.set_cons_succ, List.set_cons_zero]
  refine flow_val ?_ rfl (by kernel_rfl) (by rfl) (fun W hW => ?_) ?_
  rotate_left 1
  · go_simp <;> with_reducible rfl
  simp only [Act.put, List.setIfInBounds_toArray, List.set_cons_succ, List.set_cons_zero]
  refine flow_val ?_ rfl (by kernel_rfl) (by rfl) (fun W hW => ?_) ?_
  rotate_left 1
  · have hs := HT.out ▸ run_str W (some ⟨g, o, none⟩) X.length c2 (Y.take X.length) (by simpa [List.map_take] using (HV2.out.rd.below hW).take (k := X.length) (by omega)) (fun x hx => HY.out x (List.mem_of_mem_take hx)); go_simp <;> with_reducible rfl
  simp only [Act.put, List.setIfInBounds_toArray, List.set_cons_succ, List.set_cons_zero]
  refine flow_val ?_ rfl (by kernel_rfl) (by rfl) (fun W hW => ?_) ?_
  rotate_left 1
  · go_simp <;> with_reducible rfl
  simp only [Act.put, List.setIfInBounds_toArray, List.set_cons_succ, List.set_cons_zero]
  refine flow_val ?_ rfl (by kernel_rfl) (by rfl) (fun W hW => ?_) ?_
  rotate_left 1
  · have hs := HS.out ▸ run_str W A1 X.length c1 X (HR1.out.below hW) HX.out; go_simp <;> with_reducible rfl
  simp only [Act.put, List.setIfInBounds_toArray, List.set_cons_succ, List.set_cons_zero]
  refine flow_val ?_ rfl (by kernel_rfl) (by rfl) (fun W hW => ?_) ?_
  rotate_left 1
  · go_simp <;> with_reducible rfl
  simp only [Act.put, List.setIfInBounds_toArray, List.set_cons_succ, List.set_cons_zero]
  refine flow_val ?_ rfl (by kernel_rfl) (by rfl) (fun W hW => ?_) ?_
  rotate_left 1
  · go_simp <;> with_reducible rfl
  simp only [Act.put, List.setIfInBounds_toArray, List.set_cons_succ, List.set_cons_zero]
  refine flow_val ?_ rfl (by kernel_rfl) (by rfl) (fun W hW => ?_) ?_
  rotate_left 1
  · go_simp <;> with_reducible rfl
  simp only [Act.put, List.setIfInBounds_toArray, List.set_cons_succ, List.set_cons_zero]
  refine flow_done ?_
  intro W hW
  go_wp2_with fail
  refine (lives_any _).mono ?_
  rintro e w4 ⟨rfl, hb4⟩
  have HB4 := Lib.hid (HB2.out.trans ((hW.trans (hb4.mono hW.size)).mono HB2.out.size))
  clear hb4
  go_wp2
  go_ret
  exact ⟨rfl, HB4.out⟩

set_option maxRecDepth 100000 in
set_option maxHeartbeats 2000000 in
theorem apart_2n (a b : Int) (w : World) (ha : I64 a) (hb : I64 b) (hab : a ≠ b) (hle : (numB a).length ≤ (numB b).length) (hs : a < 0) :
    Calls Try.prog 5 #[.int .i64 a, .int .i64 b] w fun e w' => e = .returned (.bool true) ∧ Below w.heap.size w w' := by
  have hl9 := (numB_length a).2
  have hl1 := (numB_length b).1
  have hbeq : ((strOf ((numB b).take (numB a).length)).toList == (strOf (numB a)).toList) = false := by
    rw [strOf_beq (fun x hx => numB_lt b x (List.mem_of_mem_take hx)) (numB_lt a)]
    simpa using fun h => hab (numB_prefix ha hb h)
  have hab1 : (a == b) = false := by simpa using hab
  have HN : Hid (∀ w, Calls Try.prog 13 #[.int .i64 a] w (RetB (numB a) w)) := Lib.hid (fun w => num_any a w ha)
  have HM : Hid (∀ w, Calls Try.prog 13 #[.int .i64 b] w (RetB (numB b) w)) := Lib.hid (fun w => num_any b w hb)
  have HX := Lib.hid (numB_lt a)
  have HY := Lib.hid (numB_lt b)
  obtain ⟨X, hX⟩ : ∃ X, numB a = X := ⟨_, rfl⟩
  obtain ⟨Y, hY⟩ : ∃ Y, numB b = Y := ⟨_, rfl⟩
  rw [hX] at HN HX hle hl9 hbeq
  rw [hY] at HM HY hle hl1 hbeq
  obtain ⟨S, hS⟩ : ∃ S, strOf X = S := ⟨_, rfl⟩
  obtain ⟨T, hT⟩ : ∃ T, strOf (Y.take X.length) = T := ⟨_, rfl⟩
  rw [hS, hT] at hbeq
  have HS := Lib.hid hS
  have HT := Lib.hid hT
  have HAB := Lib.hid hab
  clear hX hY hS hT hab ha hb
  have hd1 : decide (X.length ≤ Y.length) = true := by simpa using hle
  have hd2 : decide ((X.length : Int) ≤ (Y.length : Int)) = true := by simp; omega
  have hda : decide (a < 0) = true := by simpa using hs
  have HSS := Lib.hid hs
  clear hs
  have hd9 : decide (X.length ≤ 9) = true := by simpa using hl9
  have hd10 : decide ((X.length : Int) ≤ 9) = true := by simp; omega
  go_enter Try.func5, Try.ntmps5
  go_wp2_with fail
  refine (HN.out _).mono ?_
  rintro e w1 ⟨v, rfl, hv, hb1⟩
  have HV1 := Lib.hid hv
  obtain ⟨A1, c1, rfl, g1, g2, _⟩ := hv
  have HB1 := Lib.hid hb1
  have g2' : c1 ≤ 9223372036854775807 := by unfold maxLen at g2; omega
  clear hb1 g2
  go_wp2_with fail
  refine (HM.out _).mono ?_
  rintro e w2 ⟨v, rfl, hv, hb2⟩
  have HV2 := Lib.hid hv
  obtain ⟨A2, c2, rfl, g3, g4, _⟩ := hv
  have HB2 := Lib.hid (HB1.out.trans (hb2.mono HB1.out.size))
  have HR1 := Lib.hid (HV1.out.rd.below hb2)
  have g4' : c2 ≤ 9223372036854775807 := by unfold maxLen at g4; omega
  obtain ⟨g, o, rfl, _, _⟩ := HV2.out.rd.2 (by omega)
  have i1 : (0 : Int) ≤ (X.length : Int) := by omega
  have i2 : (X.length : Int) ≤ (c2 : Int) := by omega
  clear hb2 g4
  go_wp2_with fail
  refine wp_region_flow (fun W => Below w2.heap.size w2 W) [0, 1, 2, 3, 4, 5, 6, 7, 8, 9, 10, 11, 12, 13, 14, 15] (by kernel_rfl) (by kernel_rfl) (by kernel_rfl) ((Below.refl _ w2).drew) ?_
  refine flow_val ?_ rfl (by kernel_rfl) (by rfl) (fun W hW => ?_) ?_
  rotate_left 1
  · go_simp <;> with_reducible rfl
  simp only [Act.put, List.setIfInBounds_toArray, List.set_cons_succ, List.set_cons_zero]
  refine flow_val ?_ rfl (by kernel_rfl) (by rfl) (fun W hW => ?_) ?_
  rotate_left 1
  · go_simp <;> with_reducible rfl
  simp only [Act.put, List.setIfInBounds_toArray, List.set_cons_succ, List.set_cons_zero]
  refine flow_val ?_ rfl (by kernel_rfl) (by rfl) (fun W hW => ?_) ?_
  rotate_left 1
  · go_simp <;> with_reducible rfl
  simp only [Act.put, List.setIfInBounds_toArray, List.set_cons_succ, List.set_cons_zero]
  refine flow_val ?_ rfl (by kernel_rfl) (by rfl) (fun W hW => ?_) ?_
  rotate_left 1
  · go_simp <;> with_reducible rfl
  simp only [Act.put, List.setIfInBounds_toArray, List.set_cons_succ, List.set_cons_zero]
  refine flow_val ?_ rfl (by kernel_rfl) (by rfl) (fun W hW => ?_) ?_
  rotate_left 1
  · go_simp <;> with_reducible rfl
  simp only [Act.put, List.setIfInBounds_toArray, List.set_cons_succ, List.set_cons_zero]
  refine flow_val ?_ rfl (by kernel_rfl) (by rfl) (fun W hW => ?_) ?_
  rotate_left 1
  · go_simp <;> with_reducible rfl
  simp only [Act.put, List.setIfInBounds_toArray, List.set_cons_succ, List.set_cons_zero]
  refine flow_val ?_ rfl (by kernel_rfl) (by rfl) (fun W hW => ?_) ?_
  rotate_left 1
  · go_simp <;> with_reducible rfl
  simp only [Act.put, List.setIfInBounds_toArray, List.set_cons_succ, List.set_cons_zero]
  refine flow_val ?_ rfl (by kernel_rfl) (by rfl) (fun W hW => ?_) ?_
  rotate_left 1
  · go_simp <;> with_reducible rfl
  simp only [Act.put, List.setIfInBounds_toArray, List.set_cons_succ, List.set_cons_zero]
  refine flow_val ?_ rfl (by kernel_rfl) (by rfl) (fun W hW => ?_) ?_
  rotate_left 1
  · go_simp <;> with_reducible rfl
  simp only [Act.put, List.setIfInBounds_toArray, List.set_cons_succ, List.set_cons_zero]
  refine flow_val ?_ rfl (by kernel_rfl) (by rfl) (fun W hW => ?_) ?_
  rotate_left 1
  · go_simp <;> with_reducible rfl
  simp only [Act.put, List.setIfInBounds_toArray, List.set_cons_succ, List.set_cons_zero]
  refine flow_val ?_ rfl (by kernel_rfl) (by rfl) (fun W hW => ?_) ?_
  rotate_left 1
  · have hs := HT.out ▸ run_str W (some ⟨g, o, none⟩) X.length c2 (Y.take X.length) (by simpa [List.map_take] using (HV2.out.rd.below hW).take (k := X.length) (by omega)) (fun x hx => HY.out x (List.mem_of_mem_take hx)); go_simp <;> with_reducible rfl
  simp only [Act.put, List.setIfInBounds_toArray, List.set_cons_succ, List.set_cons_zero]
  refine flow_val ?_ rfl (by kernel_rfl) (by rfl) (fun W hW => ?_) ?_
  rotate_left 1
  · go_simp <;> with_reducible rfl
  simp only [Act.put, List.setIfInBounds_toArray, List.set_cons_succ, List.set_cons_zero]
  refine flow_val ?_ rfl (by kernel_rfl) (by rfl) (fun W hW => ?_) ?_
  rotate_left 1
  · have hs := HS.out ▸ run_str W A1 X.length c1 X (HR1.out.below hW) HX.out; go_simp <;> with_reducible rfl
  simp only [Act.put, List.setIfInBounds_toArray, List.set_cons_succ, List.set_cons_zero]
  refine flow_val ?_ rfl (by kernel_rfl) (by rfl) (fun W hW => ?_) ?_
  rotate_left 1
  · go_simp <;> with_reducible rfl
  simp only [Act.put, List.setIfInBounds_toArray, List.set_cons_succ, List.set_cons_zero]
  refine flow_val ?_ rfl (by kernel_rfl) (by rfl) (fun W hW => ?_) ?_
  rotate_left 1
  · go_simp <;> with_reducible rfl
  simp only [Act.put, List.setIfInBounds_toArray, List.set_cons_succ, List.set_cons_zero]
  refine flow_val ?_ rfl (by kernel_rfl) (by rfl) (fun W hW => ?_) ?_
  rotate_left 1
  · go_simp <;> with_reducible rfl
  simp only [Act.put, List.setIfInBounds_toArray, List.set_cons_succ, List.set_cons_zero]
  refine flow_done ?_
  intro W hW
  go_wp2_with fail
  refine (lives_any _).mono ?_
  rintro e w4 ⟨rfl, hb4⟩
  have HB4 := Lib.hid (HB2.out.trans ((hW.trans (hb4.mono hW.size)).mono HB2.out.size))
  clear hb4
  go_wp2
  go_ret
  exact ⟨rfl, HB4.out⟩

set_option maxRecDepth 100000 in
set_option maxHeartbeats 2000000 in
theorem apart_2b (a b : Int) (w : World) (ha : I64 a) (hb : I64 b) (hab : a ≠ b) (hle : (numB a).length ≤ (numB b).length) (hs : 0 ≤ a) (hs2 : b < a) :
    Calls Try.prog 5 #[.int .i64 a, .int .i64 b] w fun e w' => e = .returned (.bool true) ∧ Below w.heap.size w w' := by
  have hl9 := (numB_length a).2
  have hl1 := (numB_length b).1
  have hbeq : ((strOf ((numB b).take (numB a).length)).toList == (strOf (numB a)).toList) = false := by
    rw [strOf_beq (fun x hx => numB_lt b x (List.mem_of_mem_take hx)) (numB_lt a)]
    simpa using fun h => hab (numB_prefix ha hb h)
  have hab1 : (a == b) = false := by simpa using hab
  have HN : Hid (∀ w, Calls Try.prog 13 #[.int .i64 a] w (RetB (numB a) w)) := Lib.hid (fun w => num_any a w ha)
  have HM : Hid (∀ w, Calls Try.prog 13 #[.int .i64 b] w (RetB (numB b) w)) := Lib.hid (fun w => num_any b w hb)
  have HX := Lib.hid (numB_lt a)
  have HY := Lib.hid (numB_lt b)
  obtain ⟨X, hX⟩ : ∃ X, numB a = X := ⟨_, rfl⟩
  obtain ⟨Y, hY⟩ : ∃ Y, numB b = Y := ⟨_, rfl⟩
  rw [hX] at HN HX hle hl9 hbeq
  rw [hY] at HM HY hle hl1 hbeq
  obtain ⟨S, hS⟩ : ∃ S, strOf X = S := ⟨_, rfl⟩
  obtain ⟨T, hT⟩ : ∃ T, strOf (Y.take X.length) = T := ⟨_, rfl⟩
  rw [hS, hT] at hbeq
  have HS := Lib.hid hS
  have HT := Lib.hid hT
  have HAB := Lib.hid hab
  clear hX hY hS hT hab ha hb
  have hd1 : decide (X.length ≤ Y.length) = true := by simpa using hle
  have hd2 : decide ((X.length : Int) ≤ (Y.length : Int)) = true := by simp; omega
  have hda : decide (a < 0) = false := by simp; omega
  have hdb : decide (b < a) = true := by simpa using hs2
  have HSS := Lib.hid (And.intro hs hs2)
  clear hs hs2
  have hd9 : decide (X.length ≤ 9) = true := by simpa using hl9
  have hd10 : decide ((X.length : Int) ≤ 9) = true := by simp; omega
  go_enter Try.func5, Try.ntmps5
  go_wp2_with fail
  refine (HN.out _).mono ?_
  rintro e w1 ⟨v, rfl, hv, hb1⟩
  have HV1 := Lib.hid hv
  obtain ⟨A1, c1, rfl, g1, g2, _⟩ := hv
  have HB1 := Lib.hid hb1
  have g2' : c1 ≤ 9223372036854775807 := by unfold maxLen at g2; omega
  clear hb1 g2
  go_wp2_with fail
  refine (HM.out _).mono ?_
  rintro e w2 ⟨v, rfl, hv, hb2⟩
  have HV2 := Lib.hid hv
  obtain ⟨A2, c2, rfl, g3, g4, _⟩ := hv
  have HB2 := Lib.hid (HB1.out.trans (hb2.mono HB1.out.size))
  have HR1 := Lib.hid (HV1.out.rd.below hb2)
  have g4' : c2 ≤ 9223372036854775807 := by unfold maxLen at g4; omega
  obtain ⟨g, o, rfl, _, _⟩ := HV2.out.rd.2 (by omega)
  have i1 : (0 : Int) ≤ (X.length : Int) := by omega
  have i2 : (X.length : Int) ≤ (c2 : Int) := by omega
  clear hb2 g4
  go_wp2_with fail
  refine wp_region_flow (fun W => Below w2.heap.size w2 W) [0, 1, 2, 3, 4, 5, 6, 7, 8, 9, 10, 11, 12, 13, 14, 15] (by kernel_rfl) (by kernel_rfl) (by kernel_rfl) ((Below.refl _ w2).drew) ?_
  refine flow_val ?_ rfl (by kernel_rfl) (by rfl) (fun W hW => ?_) ?_
  rotate_left 1
  · go_simp <;> with_reducible rfl
  simp only [Act.put, List.setIfInBounds_toArray, List.set_cons_succ, List.set_cons_zero]
  refine flow_val ?_ rfl (by kernel_rfl) (by rfl) (fun W hW => ?_) ?_
  rotate_left 1
  · go_simp <;> with_reducible rfl
  simp only [Act.put, List.setIfInBounds_toArray, List.set_cons_succ, List.set_cons_zero]
  refine flow_val ?_ rfl (by kernel_rfl) (by rfl) (fun W hW => ?_) ?_
  rotate_left 1
  · go_simp <;> with_reducible rfl
  simp only [Act.put, List.setIfInBounds_toArray, List.set_cons_succ, List.set_cons_zero]
  refine flow_val ?_ rfl (by kernel_rfl) (by rfl) (fun W hW => ?_) ?_
  rotate_left 1
  · go_simp <;> with_reducible rfl
  simp only [Act.put, List.setIfInBounds_toArray, List.set_cons_succ, List.set_cons_zero]
  refine flow_val ?_ rfl (by kernel_rfl) (by rfl) (fun W hW => ?_) ?_
  rotate_left 1
  · go_simp <;> with_reducible rfl
  simp only [Act.put, List.setIfInBounds_toArray, List.set_cons_succ, List.set_cons_zero]
  refine flow_val ?_ rfl (by kernel_rfl) (by rfl) (fun W hW => ?_) ?_
  rotate_left 1
  · go_simp <;> with_reducible rfl
  simp only [Act.put, List.setIfInBounds_toArray, List.set_cons_succ, List.set_cons_zero]
  refine flow_val ?_ rfl (by kernel_rfl) (by rfl) (fun W hW => ?_) ?_
  rotate_left 1
  · go_simp <;> with_reducible rfl
  simp only [Act.put, List.setIfInBounds_toArray, List.set_cons_succ, List.set_cons_zero]
  refine flow_val ?_ rfl (by kernel_rfl) (by rfl) (fun W hW => ?_) ?_
  rotate_left 1
  · go_simp <;> with_reducible rfl
  simp only [Act.put, List.setIfInBounds_toArray, List.set_cons_succ, List.set_cons_zero]
  refine flow_val ?_ rfl (by kernel_rfl) (by rfl) (fun W hW => ?_) ?_
  rotate_left 1
  · go_simp <;> with_reducible rfl
  simp only [Act.put, List.setIfInBounds_toArray, List.set_cons_succ, List.set_cons_zero]
  refine flow_val ?_ rfl (by kernel_rfl) (by rfl) (fun W hW => ?_) ?_
  rotate_left 1
  · go_simp <;> with_reducible rfl
  simp only [Act.put, List.setIfInBounds_toArray, List.set_cons_succ, List.set_cons_zero]
  refine flow_val ?_ rfl (by kernel_rfl) (by rfl) (fun W hW => ?_) ?_
  rotate_left 1
  · have hs := HT.out ▸ run_str W (some ⟨g, o, none⟩) X.length c2 (Y.take X.length) (by simpa [List.map_take] using (HV2.out.rd.below hW).take (k := X.length) (by omega)) (fun x hx => HY.out x (List.mem_of_mem_take hx)); go_simp <;> with_reducible rfl
  simp only [Act.put, List.setIfInBounds_toArray, List.set_cons_succ, List.set_cons_zero]
  refine flow_val ?_ rfl (by kernel_rfl) (by rfl) (fun W hW => ?_) ?_
  rotate_left 1
  · go_simp <;> with_reducible rfl
  simp only [Act.put, List.setIfInBounds_toArray, List.set_cons_succ, List.set_cons_zero]
  refine flow_val ?_ rfl (by kernel_rfl) (by rfl) (fun W hW => ?_) ?_
  rotate_left 1
  · have hs := HS.out ▸ run_str W A1 X.length c1 X (HR1.out.below hW) HX.out; go_simp <;> with_reducible rfl
  simp only [Act.put, List.setIfInBounds_toArray, List.set_cons_succ, List.set_cons_zero]
  refine flow_val ?_ rfl (by kernel_rfl) (by rfl) (fun W hW => ?_) ?_
  rotate_left 1
  · go_simp <;> with_reducible rfl
  simp only [Act.put, List.setIfInBounds_toArray, List.set_cons_succ, List.set_cons_zero]
  refine flow_val ?_ rfl (by kernel_rfl) (by rfl) (fun W hW => ?_) ?_
  rotate_left 1
  · go_simp <;> with_reducible rfl
  simp only [Act.put, List.setIfInBounds_toArray, List.set_cons_succ, List.set_cons_zero]
  refine flow_val ?_ rfl (by kernel_rfl) (by rfl) (fun W hW => ?_) ?_
  rotate_left 1
  · go_simp <;> with_reducible rfl
  simp only [Act.put, List.setIfInBounds_toArray, List.set_cons_succ, List.set_cons_zero]
  refine flow_done ?_
  intro W hW
  go_wp2_with fail
  refine (lives_any _).mono ?_
  rintro e w4 ⟨rfl, hb4⟩
  have HB4 := Lib.hid (HB2.out.trans ((hW.trans (hb4.mono hW.size)).mono HB2.out.size))
  clear hb4
  go_wp2
  go_ret
  exact ⟨rfl, HB4.out⟩

set_option maxRecDepth 100000 in
set_option maxHeartbeats 2000000 in
theorem apart_2m (a b : Int) (w : World) (ha : I64 a) (hb : I64 b) (hab : a ≠ b) (hle : (numB a).length ≤ (numB b).length) (hs : 0 ≤ a) (hs2 : a ≤ b) :
    Calls Try.prog 5 #[.int .i64 a, .int .i64 b] w fun e w' => e = .returned (.bool true) ∧ Below w.heap.size w w' := by
  have hl9 := (numB_length a).2
  have hl1 := (numB_length b).1
  have hbeq : ((strOf ((numB b).take (numB a).length)).toList == (strOf (numB a)).toList) = false := by
    rw [strOf_beq (fun x hx => numB_lt b x (List.mem_of_mem_take hx)) (numB_lt a)]
    simpa using fun h => hab (numB_prefix ha hb h)
  have hab1 : (a == b) = false := by simpa using hab
  have HN : Hid (∀ w, Calls Try.prog 13 #[.int .i64 a] w (RetB (numB a) w)) := Lib.hid (fun w => num_any a w ha)
  have HM : Hid (∀ w, Calls Try.prog 13 #[.int .i64 b] w (RetB (numB b) w)) := Lib.hid (fun w => num_any b w hb)
  have HX := Lib.hid (numB_lt a)
  have HY := Lib.hid (numB_lt b)
  obtain ⟨X, hX⟩ : ∃ X, numB a = X := ⟨_, rfl⟩
  obtain ⟨Y, hY⟩ : ∃ Y, numB b = Y := ⟨_, rfl⟩
  rw [hX] at HN HX hle hl9 hbeq
  rw [hY] at HM HY hle hl1 hbeq
  obtain ⟨S, hS⟩ : ∃ S, strOf X = S := ⟨_, rfl⟩
  obtain ⟨T, hT⟩ : ∃ T, strOf (Y.take X.length) = T := ⟨_, rfl⟩
  rw [hS, hT] at hbeq
  have HS := Lib.hid hS
  have HT := Lib.hid hT
  have HAB := Lib.hid hab
  clear hX hY hS hT hab ha hb
  have hd1 : decide (X.length ≤ Y.length) = true := by simpa using hle
  have hd2 : decide ((X.length : Int) ≤ (Y.length : Int)) = true := by simp; omega
  have hda : decide (a < 0) = false := by simp; omega
  have hdb : decide (b < a) = false := by simp; omega
  have HSS := Lib.hid (And.intro hs hs2)
  clear hs hs2
  have hd9 : decide (X.length ≤ 9) = true := by simpa using hl9
  have hd10 : decide ((X.length : Int) ≤ 9) = true := by simp; omega
  go_enter Try.func5, Try.ntmps5
  go_wp2_with fail
  refine (HN.out _).mono ?_
  rintro e w1 ⟨v, rfl, hv, hb1⟩
  have HV1 := Lib.hid hv
  obtain ⟨A1, c1, rfl, g1, g2, _⟩ := hv
  have HB1 := Lib.hid hb1
  have g2' : c1 ≤ 9223372036854775807 := by unfold maxLen at g2; omega
  clear hb1 g2
  go_wp2_with fail
  refine (HM.out _).mono ?_
  rintro e w2 ⟨v, rfl, hv, hb2⟩
  have HV2 := Lib.hid hv
  obtain ⟨A2, c2, rfl, g3, g4, _⟩ := hv
  have HB2 := Lib.hid (HB1.out.trans (hb2.mono HB1.out.size))
  have HR1 := Lib.hid (HV1.out.rd.below hb2)
  have g4' : c2 ≤ 9223372036854775807 := by unfold maxLen at g4; omega
  obtain ⟨g, o, rfl, _, _⟩ := HV2.out.rd.2 (by omega)
  have i1 : (0 : Int) ≤ (X.length : Int) := by omega
  have i2 : (X.length : Int) ≤ (c2 : Int) := by omega
  clear hb2 g4
  go_wp2_with fail
  refine wp_region_flow (fun W => Below w2.heap.size w2 W) [0, 1, 2, 3, 4, 5, 6, 7, 8, 9, 10, 11, 12, 13, 14, 15] (by kernel_rfl) (by kernel_rfl) (by kernel_rfl) ((Below.refl _ w2).drew) ?_
  refine flow_val ?_ rfl (by kernel_rfl) (by rfl) (fun W hW => ?_) ?_
  rotate_left 1
  · go_simp <;> with_reducible rfl
  simp only [Act.put, List.setIfInBounds_toArray, List.set_cons_succ, List.set_cons_zero]
  refine flow_val ?_ rfl (by kernel_rfl) (by rfl) (fun W hW => ?_) ?_
  rotate_left 1
  · go_simp <;> with_reducible rfl
  simp only [Act.put, List.setIfInBounds_toArray, List.set_cons_succ, List.set_cons_zero]
  refine flow_val ?_ rfl (by kernel_rfl) (by rfl) (fun W hW => ?_) ?_
  rotate_left 1
  · go_simp <;> with_reducible rfl
  simp only [Act.put, List.setIfInBounds_toArray, List.set_cons_succ, List.set_cons_zero]
  refine flow_val ?_ rfl (by kernel_rfl) (by rfl) (fun W hW => ?_) ?_
  rotate_left 1
  · go_simp <;> with_reducible rfl
  simp only [Act.put, List.setIfInBounds_toArray, List.set_cons_succ, List.set_cons_zero]
  refine flow_val ?_ rfl (by kernel_rfl) (by rfl) (fun W hW => ?_) ?_
  rotate_left 1
  · go_simp <;> with_reducible rfl
  simp only [Act.put, List.setIfInBounds_toArray, List.set_cons_succ, List.set_cons_zero]
  refine flow_val ?_ rfl (by kernel_rfl) (by rfl) (fun W hW => ?_) ?_
  rotate_left 1
  · go_simp <;> with_reducible rfl
  simp only [Act.put, List.setIfInBounds_toArray, List.set_cons_succ, List.set_cons_zero]
  refine flow_val ?_ rfl (by kernel_rfl) (by rfl) (fun W hW => ?_) ?_
  rotate_left 1
  · go_simp <;> with_reducible rfl
  simp only [Act.put, List.setIfInBounds_toArray, List.set_cons_succ, List.set_cons_zero]
  refine flow_val ?_ rfl (by kernel_rfl) (by rfl) (fun W hW => ?_) ?_
  rotate_left 1
  · go_simp <;> with_reducible rfl
  simp only [Act.put, List.setIfInBounds_toArray, List.set_cons_succ, List.set_cons_zero]
  refine flow_val ?_ rfl (by kernel_rfl) (by rfl) (fun W hW => ?_) ?_
  rotate_left 1
  · go_simp <;> with_reducible rfl
  simp only [Act.put, List.setIfInBounds_toArray, List.set_cons_succ, List.set_cons_zero]
  refine flow_val ?_ rfl (by kernel_rfl) (by rfl) (fun W hW => ?_) ?_
  rotate_left 1
  · go_simp <;> with_reducible rfl
  simp only [Act.put, List.setIfInBounds_toArray, List.set_cons_succ, List.set_cons_zero]
  refine flow_val ?_ rfl (by kernel_rfl) (by rfl) (fun W hW => ?_) ?_
  rotate_left 1
  · have hs := HT.out ▸ run_str W (some ⟨g, o, none⟩) X.length c2 (Y.take X.length) (by simpa [List.map_take] using (HV2.out.rd.below hW).take (k := X.length) (by omega)) (fun x hx => HY.out x (List.mem_of_mem_take hx)); go_simp <;> with_reducible rfl
  simp only [Act.put, List.setIfInBounds_toArray, List.set_cons_succ, List.set_cons_zero]
  refine flow_val ?_ rfl (by kernel_rfl) (by rfl) (fun W hW => ?_) ?_
  rotate_left 1
  · go_simp <;> with_reducible rfl
  simp only [Act.put, List.setIfInBounds_toArray, List.set_cons_succ, List.set_cons_zero]
  refine flow_val ?_ rfl (by kernel_rfl) (by rfl) (fun W hW => ?_) ?_
  rotate_left 1
  · have hs := HS.out ▸ run_str W A1 X.length c1 X (HR1.out.below hW) HX.out; go_simp <;> with_reducible rfl
  simp only [Act.put, List.setIfInBounds_toArray, List.set_cons_succ, List.set_cons_zero]
  refine flow_val ?_ rfl (by kernel_rfl) (by rfl) (fun W hW => ?_) ?_
  rotate_left 1
  · go_simp <;> with_reducible rfl
  simp only [Act.put, List.setIfInBounds_toArray, List.set_cons_succ, List.set_cons_zero]
  refine flow_val ?_ rfl (by kernel_rfl) (by rfl) (fun W hW => ?_) ?_
  rotate_left 1
  · go_simp <;> with_reducible rfl
  simp only [Act.put, List.setIfInBounds_toArray, List.set_cons_succ, List.set_cons_zero]
  refine flow_val ?_ rfl (by kernel_rfl) (by rfl) (fun W hW => ?_) ?_
  rotate_left 1
  · go_simp <;> with_reducible rfl
  simp only [Act.put, List.setIfInBounds_toArray, List.set_cons_succ, List.set_cons_zero]
  refine flow_done ?_
  intro W hW
  go_wp2_with fail
  refine (lives_any _).mono ?_
  rintro e w4 ⟨rfl, hb4⟩
  have HB4 := Lib.hid (HB2.out.trans ((hW.trans (hb4.mono hW.size)).mono HB2.out.size))
  clear hb4
  go_wp2
  go_ret
  exact ⟨rfl, HB4.out⟩

set_option maxRecDepth 100000 in
set_option maxHeartbeats 2000000 in
theorem apart_3n (a b : Int) (w : World) (ha : I64 a) (hb : I64 b) (hab : a ≠ b) (hle : (numB b).length < (numB a).length) (hs : a < 0) :
    Calls Try.prog 5 #[.int .i64 a, .int .i64 b] w fun e w' => e = .returned (.bool true) ∧ Below w.heap.size w w' := by
  have hl9 := (numB_length a).2
  have hl1 := (numB_length b).1
  have hab1 : (a == b) = false := by simpa using hab
  have HN : Hid (∀ w, Calls Try.prog 13 #[.int .i64 a] w (RetB (numB a) w)) := Lib.hid (fun w => num_any a w ha)
  have HM : Hid (∀ w, Calls Try.prog 13 #[.int .i64 b] w (RetB (numB b) w)) := Lib.hid (fun w => num_any b w hb)
  have HX := Lib.hid (numB_lt a)
  have HY := Lib.hid (numB_lt b)
  obtain ⟨X, hX⟩ : ∃ X, numB a = X := ⟨_, rfl⟩
  obtain ⟨Y, hY⟩ : ∃ Y, numB b = Y := ⟨_, rfl⟩
  rw [hX] at HN HX hle hl9 
  rw [hY] at HM HY hle hl1 
  obtain ⟨S, hS⟩ : ∃ S, strOf X = S := ⟨_, rfl⟩
  obtain ⟨T, hT⟩ : ∃ T, strOf (Y.take X.length) = T := ⟨_, rfl⟩
  skip
  have HS := Lib.hid hS
  have HT := Lib.hid hT
  have HAB := Lib.hid hab
  clear hX hY hS hT hab ha hb
  have hd1 : decide (X.length ≤ Y.length) = false := by simp; omega
  have hd2 : decide ((X.length : Int) ≤ (Y.length : Int)) = false := by simp; omega
  have hda : decide (a < 0) = true := by simpa using hs
  have HSS := Lib.hid hs
  clear hs
  have hd9 : decide (X.length ≤ 9) = true := by simpa using hl9
  have hd10 : decide ((X.length : Int) ≤ 9) = true := by simp; omega
  go_enter Try.func5, Try.ntmps5
  go_wp2_with fail
  refine (HN.out _).mono ?_
  rintro e w1 ⟨v, rfl, hv, hb1⟩
  have HV1 := Lib.hid hv
  obtain ⟨A1, c1, rfl, g1, g2, _⟩ := hv
  have HB1 := Lib.hid hb1
  have g2' : c1 ≤ 9223372036854775807 := by unfold maxLen at g2; omega
  clear hb1 g2
  go_wp2_with fail
  refine (HM.out _).mono ?_
  rintro e w2 ⟨v, rfl, hv, hb2⟩
  have HV2 := Lib.hid hv
  obtain ⟨A2, c2, rfl, g3, g4, _⟩ := hv
  have HB2 := Lib.hid (HB1.out.trans (hb2.mono HB1.out.size))
  have HR1 := Lib.hid (HV1.out.rd.below hb2)
  have g4' : c2 ≤ 9223372036854775807 := by unfold maxLen at g4; omega
  obtain ⟨g, o, rfl, _, _⟩ := HV2.out.rd.2 (by omega)
  clear hb2 g4
  go_wp2_with fail
  refine wp_region_flow (fun W => Below w2.heap.size w2 W) [0, 1, 2, 3, 4, 5, 6, 7, 8, 9, 10, 11, 12, 13, 14, 15] (by kernel_rfl) (by kernel_rfl) (by kernel_rfl) ((Below.refl _ w2).drew) ?_
  refine flow_val ?_ rfl (by kernel_rfl) (by rfl) (fun W hW => ?_) ?_
  rotate_left 1
  · go_simp <;> with_reducible rfl
  simp only [Act.put, List.setIfInBounds_toArray, List.set_cons_succ, List.set_cons_zero]
  refine flow_val ?_ rfl (by kernel_rfl) (by rfl) (fun W hW => ?_) ?_
  rotate_left 1
  · go_simp <;> with_reducible rfl
  simp only [Act.put, List.setIfInBounds_toArray, List.set_cons_succ, List.set_cons_zero]
  refine flow_val ?_ rfl (by kernel_rfl) (by rfl) (fun W hW => ?_) ?_
  rotate_left 1
  · go_simp <;> with_reducible rfl
  simp only [Act.put, List.setIfInBounds_toArray, List.set_cons_succ, List.set_cons_zero]
  refine flow_val ?_ rfl (by kernel_rfl) (by rfl) (fun W hW => ?_) ?_
  rotate_left 1
  · go_simp <;> with_reducible rfl
  simp only [Act.put, List.setIfInBounds_toArray, List.set_cons_succ, List.set_cons_zero]
  refine flow_val ?_ rfl (by kernel_rfl) (by rfl) (fun W hW => ?_) ?_
  rotate_left 1
  · go_simp <;> with_reducible rfl
  simp only [Act.put, List.setIfInBounds_toArray, List.set_cons_succ, List.set_cons_zero]
  refine flow_val ?_ rfl (by kernel_rfl) (by rfl) (fun W hW => ?_) ?_
  rotate_left 1
  · go_simp <;> with_reducible rfl
  simp only [Act.put, List.setIfInBounds_toArray, List.set_cons_succ, List.set_cons_zero]
  refine flow_off rfl (by kernel_rfl) (by rfl) ?_
  simp only [Act.put, List.setIfInBounds_toArray, List.set_cons_succ, List.set_cons_zero]
  refine flow_off rfl (by kernel_rfl) (by rfl) ?_
  simp only [Act.put, List.setIfInBounds_toArray, List.set_cons_succ, List.set_cons_zero]
  refine flow_off rfl (by kernel_rfl) (by rfl) ?_
  simp only [Act.put, List.setIfInBounds_toArray, List.set_cons_succ, List.set_cons_zero]
  refine flow_off rfl (by kernel_rfl) (by rfl) ?_
  simp only [Act.put, List.setIfInBounds_toArray, List.set_cons_succ, List.set_cons_zero]
  refine flow_off rfl (by kernel_rfl) (by rfl) ?_
  simp only [Act.put, List.setIfInBounds_toArray, List.set_cons_succ, List.set_cons_zero]
  refine flow_off rfl (by kernel_rfl) (by rfl) ?_
  simp only [Act.put, List.setIfInBounds_toArray, List.set_cons_succ, List.set_cons_zero]
  refine flow_off rfl (by kernel_rfl) (by rfl) ?_
  simp only [Act.put, List.setIfInBounds_toArray, List.set_cons_succ, List.set_cons_zero]
  refine flow_off rfl (by kernel_rfl) (by rfl) ?_
  simp only [Act.put, List.setIfInBounds_toArray, List.set_cons_succ, List.set_cons_zero]
  refine flow_val ?_ rfl (by kernel_rfl) (by rfl) (fun W hW => ?_) ?_
  rotate_left 1
  · go_simp <;> with_reducible rfl
  simp only [Act.put, List.setIfInBounds_toArray, List.set_cons_succ, List.set_cons_zero]
  refine flow_val ?_ rfl (by kernel_rfl) (by rfl) (fun W hW => ?_) ?_
  rotate_left 1
  · go_simp <;> with_reducible rfl
  simp only [Act.put, List.setIfInBounds_toArray, List.set_cons_succ, List.set_cons_zero]
  refine flow_done ?_
  intro W hW
  go_wp2_with fail
  refine (lives_any _).mono ?_
  rintro e w4 ⟨rfl, hb4⟩
  have HB4 := Lib.hid (HB2.out.trans ((hW.trans (hb4.mono hW.size)).mono HB2.out.size))
  clear hb4
  go_wp2
  go_ret
  exact ⟨rfl, HB4.out⟩

set_option maxRecDepth 100000 in
set_option maxHeartbeats 2000000 in
theorem apart_3b (a b : Int) (w : World) (ha : I64 a) (hb : I64 b) (hab : a ≠ b) (hle : (numB b).length < (numB a).length) (hs : 0 ≤ a) (hs2 : b < a) :
    Calls Try.prog 5 #[.int .i64 a, .int .i64 b] w fun e w' => e = .returned (.bool true) ∧ Below w.heap.size w w' := by
  have hl9 := (numB_length a).2
  have hl1 := (numB_length b).1
  have hab1 : (a == b) = false := by simpa using hab
  have HN : Hid (∀ w, Calls Try.prog 13 #[.int .i64 a] w (RetB (numB a) w)) := Lib.hid (fun w => num_any a w ha)
  have HM : Hid (∀ w, Calls Try.prog 13 #[.int .i64 b] w (RetB (numB b) w)) := Lib.hid (fun w => num_any b w hb)
  have HX := Lib.hid (numB_lt a)
  have HY := Lib.hid (numB_lt b)
  obtain ⟨X, hX⟩ : ∃ X, numB a = X := ⟨_, rfl⟩
  obtain ⟨Y, hY⟩ : ∃ Y, numB b = Y := ⟨_, rfl⟩
  rw [hX] at HN HX hle hl9 
  rw [hY] at HM HY hle hl1 
  obtain ⟨S, hS⟩ : ∃ S, strOf X = S := ⟨_, rfl⟩
  obtain ⟨T, hT⟩ : ∃ T, strOf (Y.take X.length) = T := ⟨_, rfl⟩
  skip
  have HS := Lib.hid hS
  have HT := Lib.hid hT
  have HAB := Lib.hid hab
  clear hX hY hS hT hab ha hb
  have hd1 : decide (X.length ≤ Y.length) = false := by simp; omega
  have hd2 : decide ((X.length : Int) ≤ (Y.length : Int)) = false := by simp; omega
  have hda : decide (a < 0) = false := by simp; omega
  have hdb : decide (b < a) = true := by simpa using hs2
  have HSS := Lib.hid (And.intro hs hs2)
  clear hs hs2
  have hd9 : decide (X.length ≤ 9) = true := by simpa using hl9
  have hd10 : decide ((X.length : Int) ≤ 9) = true := by simp; omega
  go_enter Try.func5, Try.ntmps5
  go_wp2_with fail
  refine (HN.out _).mono ?_
  rintro e w1 ⟨v, rfl, hv, hb1⟩
  have HV1 := Lib.hid hv
  obtain ⟨A1, c1, rfl, g1, g2, _⟩ := hv
  have HB1 := Lib.hid hb1
  have g2' : c1 ≤ 9223372036854775807 := by unfold maxLen at g2; omega
  clear hb1 g2
  go_wp2_with fail
  refine (HM.out _).mono ?_
  rintro e w2 ⟨v, rfl, hv, hb2⟩
  have HV2 := Lib.hid hv
  obtain ⟨A2, c2, rfl, g3, g4, _⟩ := hv
  have HB2 := Lib.hid (HB1.out.trans (hb2.mono HB1.out.size))
  have HR1 := Lib.hid (HV1.out.rd.below hb2)
  have g4' : c2 ≤ 9223372036854775807 := by unfold maxLen at g4; omega
  obtain ⟨g, o, rfl, _, _⟩ := HV2.out.rd.2 (by omega)
  clear hb2 g4
  go_wp2_with fail
  refine wp_region_flow (fun W => Below w2.heap.size w2 W) [0, 1, 2, 3, 4, 5, 6, 7, 8, 9, 10, 11, 12, 13, 14, 15] (by kernel_rfl) (by kernel_rfl) (by kernel_rfl) ((Below.refl _ w2).drew) ?_
  refine flow_val ?_ rfl (by kernel_rfl) (by rfl) (fun W hW => ?_) ?_
  rotate_left 1
  · go_simp <;> with_reducible rfl
  simp only [Act.put, List.setIfInBounds_toArray, List.set_cons_succ, List.set_cons_zero]
  refine flow_val ?_ rfl (by kernel_rfl) (by rfl) (fun W hW => ?_) ?_
  rotate_left 1
  · go_simp <;> with_reducible rfl
  simp only [Act.put, List.setIfInBounds_toArray, List.set_cons_succ, List.set_cons_zero]
  refine flow_val ?_ rfl (by kernel_rfl) (by rfl) (fun W hW => ?_) ?_
  rotate_left 1
  · go_simp <;> with_reducible rfl
  simp only [Act.put, List.setIfInBounds_toArray, List.set_cons_succ, List.set_cons_zero]
  refine flow_val ?_ rfl (by kernel_rfl) (by rfl) (fun W hW => ?_) ?_
  rotate_left 1
  · go_simp <;> with_reducible rfl
  simp only [Act.put, List.setIfInBounds_toArray, List.set_cons_succ, List.set_cons_zero]
  refine flow_val ?_ rfl (by kernel_rfl) (by rfl) (fun W hW => ?_) ?_
  rotate_left 1
  · go_simp <;> with_reducible rfl
  simp only [Act.put, List.setIfInBounds_toArray, List.set_cons_succ, List.set_cons_zero]
  refine flow_val ?_ rfl (by kernel_rfl) (by rfl) (fun W hW => ?_) ?_
  rotate_left 1
  · go_simp <;> with_reducible rfl
  simp only [Act.put, List.setIfInBounds_toArray, List.set_cons_succ, List.set_cons_zero]
  refine flow_off rfl (by kernel_rfl) (by rfl) ?_
  simp only [Act.put, List.setIfInBounds_toArray, List.set_cons_succ, List.set_cons_zero]
  refine flow_off rfl (by kernel_rfl) (by rfl) ?_
  simp only [Act.put, List.setIfInBounds_toArray, List.set_cons_succ, List.set_cons_zero]
  refine flow_off rfl (by kernel_rfl) (by rfl) ?_
  simp only [Act.put, List.setIfInBounds_toArray, List.set_cons_succ, List.set_cons_zero]
  refine flow_off rfl (by kernel_rfl) (by rfl) ?_
  simp only [Act.put, List.setIfInBounds_toArray, List.set_cons_succ, List.set_cons_zero]
  refine flow_off rfl (by kernel_rfl) (by rfl) ?_
  simp only [Act.put, List.setIfInBounds_toArray, List.set_cons_succ, List.set_cons_zero]
  refine flow_off rfl (by kernel_rfl) (by rfl) ?_
  simp only [Act.put, List.setIfInBounds_toArray, List.set_cons_succ, List.set_cons_zero]
  refine flow_off rfl (by kernel_rfl) (by rfl) ?_
  simp only [Act.put, List.setIfInBounds_toArray, List.set_cons_succ, List.set_cons_zero]
  refine flow_off rfl (by kernel_rfl) (by rfl) ?_
  simp only [Act.put, List.setIfInBounds_toArray, List.set_cons_succ, List.set_cons_zero]
  refine flow_val ?_ rfl (by kernel_rfl) (by rfl) (fun W hW => ?_) ?_
  rotate_left 1
  · go_simp <;> with_reducible rfl
  simp only [Act.put, List.setIfInBounds_toArray, List.set_cons_succ, List.set_cons_zero]
  refine flow_val ?_ rfl (by kernel_rfl) (by rfl) (fun W hW => ?_) ?_
  rotate_left 1
  · go_simp <;> with_reducible rfl
  simp only [Act.put, List.setIfInBounds_toArray, List.set_cons_succ, List.set_cons_zero]
  refine flow_done ?_
  intro W hW
  go_wp2_with fail
  refine (lives_any _).mono ?_
  rintro e w4 ⟨rfl, hb4⟩
  have HB4 := Lib.hid (HB2.out.trans ((hW.trans (hb4.mono hW.size)).mono HB2.out.size))
  clear hb4
  go_wp2
  go_ret
  exact ⟨rfl, HB4.out⟩

theorem apart_any (a b : Int) (w : World) (ha : I64 a) (hb : I64 b) :
    Calls Try.prog 5 #[.int .i64 a, .int .i64 b] w fun e w' => e = .returned (.bool true) ∧ Below w.heap.size w w' := by
  by_cases hab : a = b
  · have hle : (numB a).length ≤ (numB b).length := by rw [hab]; exact Nat.le_refl _
    by_cases hs : a < 0
    · exact apart_1n a b w ha hb hab hle hs
    · exact apart_1m a b w ha hb hab hle (by omega) (by omega)
  · by_cases hle : (numB a).length ≤ (numB b).length
    · by_cases hs : a < 0
      · exact apart_2n a b w ha hb hab hle hs
      · by_cases hs2 : b < a
        · exact apart_2b a b w ha hb hab hle (by omega) hs2
        · exact apart_2m a b w ha hb hab hle (by omega) (by omega)
    · by_cases hs : a < 0
      · exact apart_3n a b w ha hb hab (by omega) hs
      · by_cases hs2 : b < a
        · exact apart_3b a b w ha hb hab (by omega) (by omega) hs2
        · exact absurd (numB_mono (by omega : 0 ≤ a) (by omega : a ≤ b)) hle
end Go.Proofs.Ytlljeghlfijdnaa
