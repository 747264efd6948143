/- The law BacklogFull: for every two integers the call returns true. -/
import Derived.Test.YtglfbihdbdcgiaaDrop
import Derived.Test.YtglfbihdbdcgiaaRow
namespace Go.Proofs.Ytglfbihdbdcgiaa
open Go.ChangeShapes Go.WideShapes Go.ChangeAt Go.RowKit

def frs (f : Int) (k : Nat) : List (Int × Bool) := (List.range k).map fun (j : Nat) => (f + (j : Int), false)
theorem frs_length (f : Int) (k : Nat) : (frs f k).length = k := by simp [frs]
theorem frs_succ (f : Int) (k : Nat) : frs f (k + 1) = frs f k ++ [(f + (k : Int), false)] := by simp [frs, List.range_succ]
theorem frs_get (f : Int) (k i : Nat) (h : i < k) : (frs f k)[i]'(by rw [frs_length]; exact h) = (f + (i : Int), false) := by simp [frs]
theorem frs_out (f x : Int) (k : Nat) (h : x < f ∨ f + k ≤ x) : (frs f k).findIdx? (fun r => r.1 == x) = none := by
  rw [List.findIdx?_eq_none_iff]
  intro r hr
  simp only [frs, List.mem_map, List.mem_range] at hr
  obtain ⟨j, hj, rfl⟩ := hr
  simp
  omega
theorem frs_in (f : Int) (k i : Nat) (h : i < k) : (frs f k).findIdx? (fun r => r.1 == f + (i : Int)) = some i := by
  rw [List.findIdx?_eq_some_iff_getElem]
  refine ⟨by rw [frs_length]; exact h, by rw [frs_get f k i h]; simp, fun j hj => ?_⟩
  rw [frs_get f k j (by omega)]
  simp
  omega
theorem frs_push (f : Int) (k : Nat) (hf : 1 ≤ f) (hk : k < 256) : pushR (frs f k) (f + (k : Int)) = 0 ∧ pushS (frs f k) (f + (k : Int)) = frs f (k + 1) := by
  have h1 : ¬ f + (k : Int) < 1 := by omega
  have h2 : idx (fun r => r.1 == f + (k : Int)) (frs f k) = -1 := by simp [idx, frs_out f (f + (k : Int)) k (by omega)]
  have h3 : ¬ 256 ≤ (frs f k).length := by rw [frs_length]; omega
  unfold pushR pushS
  rw [if_neg h1, if_pos h2, if_neg h3, if_neg h1, if_pos h2, if_neg h3, frs_succ]
  exact ⟨rfl, rfl⟩
theorem frs_full (f : Int) (hf : 1 ≤ f) : pushR (frs f 256) (f + 256) = 2 ∧ pushS (frs f 256) (f + 256) = frs f 256 := by
  have h1 : ¬ f + 256 < 1 := by omega
  have h2 : idx (fun r => r.1 == f + 256) (frs f 256) = -1 := by simp [idx, frs_out f (f + 256) 256 (by omega)]
  have h3 : 256 ≤ (frs f 256).length := by rw [frs_length]; omega
  unfold pushR pushS
  rw [if_neg h1, if_pos h2, if_pos h3, if_neg h1, if_pos h2, if_pos h3]
  exact ⟨rfl, rfl⟩
theorem frs_twice (f : Int) (hf : 1 ≤ f) : pushR (frs f 256) (f + 7) = 5 ∧ pushS (frs f 256) (f + 7) = frs f 256 := by
  have h1 : ¬ f + 7 < 1 := by omega
  have h2 : ¬ idx (fun r => r.1 == f + 7) (frs f 256) = -1 := by
    have := frs_in f 256 7 (by omega)
    simp [idx, show ((7 : Nat) : Int) = 7 from rfl] at this ⊢
    simp [this]
  unfold pushR pushS
  rw [if_neg h1, if_neg h2, if_neg h1, if_neg h2]
  exact ⟨rfl, rfl⟩
theorem frs_drop_in (f : Int) (d : Nat) (hd : d < 256) : dropB (frs f 256) (f + (d : Int)) = true ∧ dropS (frs f 256) (f + (d : Int)) = (frs f 256).eraseIdx d ∧ dropO (frs f 256) 0 (f + (d : Int)) = 0 := by
  unfold dropB dropS dropO
  rw [frs_in f 256 d hd]
  simp [backO]
theorem frs_drop_out (f x : Int) (h : x < f ∨ f + 255 < x) : dropB (frs f 256) x = false ∧ dropS (frs f 256) x = frs f 256 ∧ dropO (frs f 256) 0 x = 0 := by
  unfold dropB dropS dropO
  rw [frs_out f x 256 (by omega)]
  simp
theorem frs_erase_mem (f : Int) (d : Nat) (r : Int × Bool) (hr : r ∈ (frs f 256).eraseIdx d) : ∃ i : Nat, i < 256 ∧ i ≠ d ∧ r = (f + (i : Int), false) := by
  obtain ⟨i, hi, hne, he⟩ := List.mem_eraseIdx_iff_getElem.1 hr
  rw [frs_length] at hi
  exact ⟨i, hi, hne, by rw [← he, frs_get f 256 i hi]⟩
theorem frs_erase_len (f : Int) (d : Nat) (hd : d < 256) : ((frs f 256).eraseIdx d).length = 255 := by
  rw [List.length_eraseIdx_of_lt (by rw [frs_length]; exact hd), frs_length]
theorem frs_again (f : Int) (d : Nat) (hf : 1 ≤ f) (hd : d < 256) : pushR ((frs f 256).eraseIdx d) (f + 256) = 0 ∧ pushS ((frs f 256).eraseIdx d) (f + 256) = (frs f 256).eraseIdx d ++ [(f + 256, false)] := by
  have h1 : ¬ f + 256 < 1 := by omega
  have h2 : idx (fun r => r.1 == f + 256) ((frs f 256).eraseIdx d) = -1 := idx_none (fun r hr => by
    obtain ⟨i, hi, _, rfl⟩ := frs_erase_mem f d r hr
    simp
    omega)
  have h3 : ¬ 256 ≤ ((frs f 256).eraseIdx d).length := by rw [frs_erase_len f d hd]; omega
  unfold pushR pushS
  rw [if_neg h1, if_pos h2, if_neg h3, if_neg h1, if_pos h2, if_neg h3]
  exact ⟨rfl, rfl⟩
theorem frs_last (f : Int) (d : Nat) (hd : d < 256) : idx (fun r => r.1 == f + 256) ((frs f 256).eraseIdx d ++ [(f + 256, false)]) = 255 := by
  have hl := frs_erase_len f d hd
  have := idx_some (q := fun r => r.1 == f + 256) (rs := (frs f 256).eraseIdx d ++ [(f + 256, false)]) (k := 255) (by simp [hl]) (by rw [List.getElem_append_right (by omega)]; simp [hl]) (fun j hj => by
    rw [List.getElem_append_left (by omega)]
    obtain ⟨i, hi, _, he⟩ := frs_erase_mem f d _ (List.getElem_mem (h := by omega) : ((frs f 256).eraseIdx d)[j] ∈ _)
    rw [he]
    simp
    omega)
  exact this
theorem frs_gone (f : Int) (d : Nat) (hd : d < 256) : idx (fun r => r.1 == f + (d : Int)) ((frs f 256).eraseIdx d ++ [(f + 256, false)]) = -1 := idx_none (fun r hr => by
  rcases List.mem_append.1 hr with hr | hr
  · obtain ⟨i, hi, hne, rfl⟩ := frs_erase_mem f d r hr
    simp
    omega
  · simp at hr
    subst hr
    simp
    omega)

set_option maxRecDepth 100000 in
set_option maxHeartbeats 1000000 in
theorem full_far (f d : Int) (w : World) (h : f < 1 ∨ 1099511627776 < f) :
    Calls Try.prog 5 #[.int .i64 f, .int .i64 d] w fun e w' => e = .returned (.bool true) ∧ Below w.heap.size w w' := by
  rcases h with h | h
  · go_enter Try.func5, Try.ntmps5
    go_wp2_with fail
    refine (new_any _ w.heap.size (Nat.le_refl _)).mono ?_
    rintro e w1 ⟨rfl, i1, b1⟩
    go_wp2_with fail
    refine (lives_any _).mono ?_
    rintro e w2 ⟨rfl, b2⟩
    have b3 := b1.trans (b2.mono b1.size)
    clear i1 b1 b2
    go_wp2_with fail
    refine (lives_any _).mono ?_
    rintro e w4 ⟨rfl, b4⟩
    have b5 := b3.trans (b4.mono b3.size)
    go_wp2
    go_ret
    exact ⟨rfl, b5⟩
  · have h' : 1 ≤ f := by omega
    go_enter Try.func5, Try.ntmps5
    go_wp2_with fail
    refine (new_any _ w.heap.size (Nat.le_refl _)).mono ?_
    rintro e w1 ⟨rfl, i1, b1⟩
    go_wp2_with fail
    refine (lives_any _).mono ?_
    rintro e w2 ⟨rfl, b2⟩
    have b3 := b1.trans (b2.mono b1.size)
    clear i1 b1 b2
    go_wp2_with fail
    refine (lives_any _).mono ?_
    rintro e w4 ⟨rfl, b4⟩
    have b5 := b3.trans (b4.mono b3.size)
    go_wp2
    go_ret
    exact ⟨rfl, b5⟩

set_option maxRecDepth 100000 in
set_option maxHeartbeats 4000000 in
theorem full_near (f d : Int) (w : World) (h1 : 1 ≤ f) (h2 : f ≤ 1099511627776) :
    Calls Try.prog 5 #[.int .i64 f, .int .i64 d] w fun e w' => e = .returned (.bool true) ∧ Below w.heap.size w w' := by
  go_enter Try.func5, Try.ntmps5
  go_wp2_with fail
  refine (new_any _ w.heap.size (Nat.le_refl _)).mono ?_
  rintro e w1 ⟨rfl, i1, b1⟩
  go_wp2_with fail
  refine (lives_any _).mono ?_
  rintro e w2 ⟨rfl, b2⟩
  have i2 := i1.below b2
  have b3 := b1.trans (b2.mono b1.size)
  clear i1 b1 b2
  go_wp2_with fail
  go_loopw [6] (fun i wr => ∃ k : Nat, k ≤ 256 ∧ i = .int .i64 k ∧ IsB wr w.heap.size w.heap.size (frs f k) 0 ∧ Below w.heap.size w wr) (fun i _ => 256 - (intOf i).toNat)
  case atStart => exact ⟨0, Nat.zero_le _, rfl, i2, b3⟩
  case round =>
    obtain ⟨k, hk, rfl, hi, hb⟩ := hrel
    clear i2 b3
    by_cases hlt : k < 256
    · have hp := frs_push f k h1 hlt
      go_wp2_with fail
      refine (push_any _ _ _ _ _ _ hi (by rw [frs_length]; omega)).mono ?_
      rintro e w4 ⟨rfl, i4, f4⟩
      rw [hp.1]
      rw [hp.2] at i4
      have b4 := hb.trans (f4.below hb.size)
      clear hp hi f4 hb
      go_wp2
      go_roundw
      case rel => exact ⟨k + 1, by omega, by go_num, i4, b4⟩
      case measure => simp [intOf]; omega
    · obtain rfl : k = 256 := by omega
      have hF := frs_full f h1
      have hT := frs_twice f h1
      go_wp2_with fail
      refine (push_any _ _ _ _ _ _ hi (by rw [frs_length]; omega)).mono ?_
      rintro e w4 ⟨rfl, i4, f4⟩
      rw [hF.1]
      rw [hF.2] at i4
      have b4 := hb.trans (f4.below hb.size)
      clear hF hi f4 hb
      go_wp2_with fail
      refine (push_any _ _ _ _ _ _ i4 (by rw [frs_length]; omega)).mono ?_
      rintro e w5 ⟨rfl, i5, f5⟩
      rw [hT.1]
      rw [hT.2] at i5
      have b5 := b4.trans (f5.below b4.size)
      clear hT i4 f5 b4
      by_cases hd : f ≤ d ∧ d ≤ f + 255
      · obtain ⟨hd1, hd2⟩ := hd
        obtain ⟨j, hj⟩ : ∃ j : Nat, d = f + (j : Int) := ⟨(d - f).toNat, by omega⟩
        have hj' : j < 256 := by omega
        have hD := frs_drop_in f j hj'
        have hA := frs_again f j h1 hj'
        have hL := frs_last f j hj'
        have hG := frs_gone f j hj'
        have hlen := frs_erase_len f j hj'
        rw [← hj] at hD hG
        have HJ := Lib.hid hj
        have HD := Lib.hid hD
        have HA := Lib.hid hA
        have HL := Lib.hid hL
        have HG := Lib.hid hG
        have HN := Lib.hid hlen
        clear hj hD hA hL hG hlen
        go_wp2_with fail
        refine (drop_any _ _ _ _ _ _ i5 (by rw [frs_length]; omega)).mono ?_
        rintro e w6 ⟨rfl, i6, f6⟩
        rw [HD.out.1]
        rw [HD.out.2.1, HD.out.2.2] at i6
        have b6 := b5.trans (f6.below b5.size)
        clear i5 f6 b5
        go_wp2_with fail
        refine (push_any _ _ _ _ _ _ i6 (by rw [HN.out]; omega)).mono ?_
        rintro e w7 ⟨rfl, i7, f7⟩
        rw [HA.out.1]
        rw [HA.out.2] at i7
        have b7 := b6.trans (f7.below b6.size)
        clear i6 f7 b6
        go_wp2_with fail
        refine (place_any _ _ _ _ _ _ i7 (by simp [HN.out])).mono ?_
        rintro e w8 ⟨rfl, b8⟩
        rw [HL.out]
        have i8 := i7.below b8
        have b9 := b7.trans (b8.mono b7.size)
        clear i7 b7 b8
        go_wp2_with fail
        refine (place_any _ _ _ _ _ _ i8 (by simp [HN.out])).mono ?_
        rintro e w10 ⟨rfl, b10⟩
        rw [HG.out]
        have b11 := b9.trans (b10.mono b9.size)
        clear i8 b9 b10
        go_wp2
        go_ret
        exact ⟨rfl, b11⟩
      · have hd' : d < f ∨ f + 255 < d := by omega
        have hD := frs_drop_out f d hd'
        have HD := Lib.hid hD
        clear hD hd
        rcases hd' with hd | hd
        · go_wp2_with fail
          refine (drop_any _ _ _ _ _ _ i5 (by rw [frs_length]; omega)).mono ?_
          rintro e w6 ⟨rfl, i6, f6⟩
          rw [HD.out.1]
          have b6 := b5.trans (f6.below b5.size)
          clear i5 f6 b5 i6
          go_wp2
          go_ret
          exact ⟨rfl, b6⟩
        · have hd' : f ≤ d := by omega
          go_wp2_with fail
          refine (drop_any _ _ _ _ _ _ i5 (by rw [frs_length]; omega)).mono ?_
          rintro e w6 ⟨rfl, i6, f6⟩
          rw [HD.out.1]
          have b6 := b5.trans (f6.below b5.size)
          clear i5 f6 b5 i6
          go_wp2
          go_ret
          exact ⟨rfl, b6⟩

theorem full_any_law (f d : Int) (w : World) :
    Calls Try.prog 5 #[.int .i64 f, .int .i64 d] w fun e w' => e = .returned (.bool true) ∧ Below w.heap.size w w' := by
  by_cases h : f < 1 ∨ 1099511627776 < f
  · exact full_far f d w h
  · exact full_near f d w (by omega) (by omega)

set_option maxRecDepth 100000 in
theorem backlogFull_lifted (os : Os) (started : os.Started) (H : Type) (enc : TypeId × Value → H) :
    ReturnsInHanded {} Try.checked os 5 .any (Rows.backlogFullSpec.pre6 enc Try.prog Try.f5 Rows.backlogFullRow.domain false) (Rows.backlogFullSpec.post enc Try.prog Try.f5 false true false false) := by
  refine returnsInHanded_of_change (C := Try.checked) own started (by kernel_rfl) Try.func5
    (ChangeSpec.witness6 (enc := enc) (C := Try.checked) false ⟨#[], #[.int .i64 0, .int .i64 0], []⟩ 8 (by kernel_rfl) (by kernel_rfl) (by kernel_rfl) (by kernel_rfl)) ?_
  intro W base args ds gs before hval0 hW _ _
  have hval : ∀ (j : Nat) t v, Try.f5.params[j]? = some t → args[j]? = some v → Value.okWide Try.prog W .any base t v := hval0
  have hW' := hW
  obtain ⟨p, q, hA0, hV, hpq, hfz, hnd⟩ := hW
  have hA : DataW.TrodAll enc Try.prog W 0 (fun _ => true) true Try.f5.params.toList args.toList ds p := hA0
  rw [Try.params5] at hA hval
  obtain ⟨v0, vs0, d0, ds0, p0, q0, hargs, rfl, rfl, h0, r0⟩ := trodAll_cons hA
  obtain ⟨v1, vs1, d1, ds1, p1, q1, rfl, rfl, rfl, h1, r1⟩ := trodAll_cons r0
  obtain ⟨rfl, rfl, rfl⟩ := trodAll_nil r1
  obtain rfl : args = #[v0, v1] := by cases args; simp_all
  obtain ⟨a0, rfl, rfl, rfl, w0⟩ := open_int Try.underlying3 (hval 0 3 v0 rfl rfl) h0
  obtain ⟨a1, rfl, rfl, rfl, w1⟩ := open_int Try.underlying3 (hval 1 3 v1 rfl rfl) h1
  obtain ⟨rfl, rfl⟩ := trodVars_none hV
  clear hA0 hval0
  refine (full_any_law a0 a1 W).mono fun e W' ⟨he, bel⟩ => ?_
  subst he
  exact ⟨_, rfl, post_true laidOut (by intro t ht; simp only [Try.params5] at ht; simp at ht; rcases ht with rfl | rfl <;> exact ⟨by kernel_rfl, of_decide_eq_true (by kernel_rfl)⟩) (by kernel_rfl) Try.underlying4 rfl rfl rfl rfl hW' bel⟩

theorem backlogFull_holds : Rows.BacklogFullSaid :=
  OpenClaim.holds_of_wide 5 Try.f5 rfl rfl rfl rfl rfl rfl rfl ⟨rfl, rfl, rfl, rfl, rfl⟩ rfl rfl rfl rfl rfl (by kernel_rfl) Try.func5 (by kernel_rfl)
    (of_decide_eq_true (by kernel_rfl)) (by unfold Func.isWrapper; first | (rw [if_pos (by decide +kernel)]; kernel_rfl) | (rw [if_neg (by decide +kernel)]; exact ⟨rfl, rfl⟩))
    (fun os started H enc _ => backlogFull_lifted os started H enc)
#print axioms backlogFull_holds
end Go.Proofs.Ytglfbihdbdcgiaa
