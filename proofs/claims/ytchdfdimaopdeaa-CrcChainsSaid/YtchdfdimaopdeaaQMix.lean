/- Package crc: the mix of bytes. -/
import Derived.Test.YtchdfdimaopdeaaQLe
import Derived.Test.YtchdfdimaopdeaaQOn
namespace Go.Proofs.Ytchdfdimaopdeaa
open Go.RowKit

theorem Fr.own1 {w w1 w2 : World} (h : Below w.heap.size w w1) (f : Fr 0 [] [w.heap.size] w1 w2) : Below w.heap.size w w2 :=
  ⟨f.os.trans h.os, f.tape.trans h.tape, f.output.trans h.output, Nat.le_trans h.size f.size, fun k hk => (f.block k (Nat.lt_of_lt_of_le hk h.size) (.inr ⟨by simp, by simp; omega⟩)).trans (h.block k hk)⟩
theorem Fr.own2 {w w1 w2 : World} {N : Nat} (hN : w.heap.size = N) (h : Below w.heap.size w w1) (f : Fr 0 [] [N] w1 w2) : Below w.heap.size w w2 := by
  subst hN
  exact Fr.own1 h f

set_option maxRecDepth 100000 in
set_option maxHeartbeats 800000 in
theorem mix_any (s : Int) (v : Value) (bs : List Nat) (hb : ∀ b ∈ bs, b < 256) (w : World) (hv : Bs w v bs) : Calls Try.prog 21 #[.int .u64 s, v] w fun e w' => e = .returned (.int .u64 (mixI s bs)) ∧ Below w.heap.size w w' := by
  obtain ⟨A, c, rfl, hl, _⟩ := hv.slice
  have HV := Lib.hid hv
  have HB := Lib.hid hb
  clear hb hv
  obtain ⟨w0, hw0⟩ : ∃ w0, w.alloc (.cells #[.int .u64 (xorI s 8317987319222330741), .int .u64 368457802846855779, .int .u64 (xorI s 7816392313619706465), .int .u64 1519701440043968637] 71) = w0 := ⟨_, rfl⟩
  have h0 : St 71 w0 w.heap.size (v0I s) := by rw [← hw0]; exact block_new w _
  have b0 : Below w.heap.size w w0 := by rw [← hw0]; exact (Below.refl _ w).alloc (Nat.le_refl _) _
  have hw0' : w.alloc (.cells #[.int .u64 (bits .xor .u64 s 8317987319222330741), .int .u64 368457802846855779, .int .u64 (bits .xor .u64 s 7816392313619706465), .int .u64 1519701440043968637] 71) = w0 := hw0
  have H0 := Lib.hid h0
  have B0 := Lib.hid b0
  obtain ⟨N, hN⟩ : ∃ N, w.heap.size = N := ⟨_, rfl⟩
  have HN := Lib.hid hN
  rw [hN] at H0
  clear hw0 h0 b0
  go_enter Try.func21, Try.ntmps21
  go_wp2_with fail
  clear hw0' hN
  go_loopw [6, 17] (fun m i wr => ∃ k : Nat, k ≤ bs.length ∧ i = .int .i64 k ∧ m = .int .u64 (partW bs k : Nat) ∧ St 71 wr N (runW bs (v0I s) (k / 8)) ∧ Below w.heap.size w wr) (fun _ i _ => bs.length - (intOf i).toNat)
  case atStart => exact ⟨0, Nat.zero_le _, rfl, rfl, H0.out, B0.out⟩
  case round =>
    obtain ⟨k, hk, rfl, rfl, hs, hbel⟩ := hrel
    have HS := Lib.hid hs
    have HW := Lib.hid hbel
    clear hs hbel
    by_cases hlt : k < bs.length
    · obtain ⟨g, o, rfl, hc⟩ := (HV.out.below HW.out).at_ k hlt
      have hbk := HB.out bs[k] (List.getElem_mem hlt)
      have hpl := partW_lt HB.out k
      obtain ⟨r, hr⟩ : ∃ r, k % 8 = r := ⟨_, rfl⟩
      have hr' : (k : Int) % 8 = (r : Int) := by omega
      have hr8 : r < 8 := by omega
      rw [hr] at hpl
      by_cases h7 : r = 7
      · have hwa := wordAt_next hlt (hr.trans h7)
        rw [h7] at hpl
        have hor := or_shift7 hpl hbk
        rw [← hwa] at hor
        have hst := partW_start bs k (hr.trans h7)
        have hrn := runW_next bs (v0I s) k (hr.trans h7)
        subst h7
        have HO := Lib.hid hor
        have HT := Lib.hid hst
        have HRN := Lib.hid hrn
        have HR := Lib.hid hr
        obtain ⟨b, hb⟩ : ∃ b, bs[k] = b := ⟨_, rfl⟩
        rw [hb] at hc hbk HO
        clear hwa hor hst hpl hb hrn hr
        go_wp2_with fail
        refine (word_any N _ _ _ HS.out).mono ?_
        rintro e w1 ⟨rfl, h1, f1⟩
        have H1 := Lib.hid h1
        have F1 := Lib.hid (Fr.own2 HN.out HW.out f1)
        clear h1 f1
        go_wp2_with fail
        go_roundw
        case rel =>
          refine ⟨k + 1, hlt, by go_num, by rw [HT.out]; rfl, ?_, F1.out⟩
          rw [HRN.out, ← HO.out]
          exact H1.out
        case measure => simp [intOf]; omega
      · have hne : ¬ (r : Int) = 7 := by omega
        have hnx := partW_next hlt (fun e => h7 (hr.symm.trans e))
        rw [hr] at hnx
        have hor := or_shiftN hpl hbk hr8
        rw [← hnx] at hor
        have HO := Lib.hid hor
        have HR := Lib.hid hr
        have H7 := Lib.hid h7
        obtain ⟨b, hb⟩ : ∃ b, bs[k] = b := ⟨_, rfl⟩
        rw [hb] at hc hbk HO
        clear hor hnx hpl hb hr h7
        go_wp2_with fail
        go_roundw
        case rel =>
          refine ⟨k + 1, hlt, by go_num, by rw [← HO.out], ?_, HW.out⟩
          rw [show (k + 1) / 8 = k / 8 by have := HR.out; have := H7.out; omega]
          exact HS.out
        case measure => simp [intOf]; omega
    · obtain rfl : k = bs.length := by omega
      have HL := Lib.hid (last_or HB.out)
      go_wp2_with fail
      refine (word_any N _ _ _ HS.out).mono ?_
      rintro e w1 ⟨rfl, h1, f1⟩
      rw [HL.out] at h1
      obtain ⟨u, hu⟩ : ∃ u, vEnd s bs = u := ⟨_, rfl⟩
      have h1' : St 71 w1 N u := by rw [← hu]; exact h1
      have HU := Lib.hid hu
      have c2 := h1'.c2
      have z2 := h1'.z 2
      have H2 := Lib.hid (h1'.s2 (xorI u.c 255))
      have F2 := Lib.hid (Fr.own2 HN.out HW.out (f1.set1 (i := 2) (.int .u64 (xorI u.c 255))))
      clear h1 f1 h1' hu HS HW HL
      go_wp2_with fail
      go_loopw [52] (fun i wr => ∃ j : Nat, j ≤ 4 ∧ i = .int .i64 j ∧ St 71 wr N (roundN ⟨u.a, u.b, xorI u.c 255, u.d⟩ j) ∧ Below w.heap.size w wr) (fun i _ => 4 - (intOf i).toNat)
      case atStart => exact ⟨0, Nat.zero_le _, rfl, H2.out, F2.out⟩
      case round =>
        obtain ⟨j, hj, rfl, hs, hbel⟩ := hrel
        have HS := Lib.hid hs
        have HW := Lib.hid hbel
        clear hs hbel c2 z2
        by_cases hj4 : j < 4
        · go_wp2_with fail
          refine (round_any N _ _ HS.out).mono ?_
          rintro e w2 ⟨rfl, h1, f1⟩
          have H1 := Lib.hid h1
          have F1 := Lib.hid (Fr.own2 HN.out HW.out f1)
          clear h1 f1
          go_wp2_with fail
          go_roundw
          case rel => exact ⟨j + 1, hj4, by go_num, H1.out, F1.out⟩
          case measure => simp [intOf]; omega
        · obtain rfl : j = 4 := by omega
          obtain ⟨x, hx⟩ : ∃ x, roundN ⟨u.a, u.b, xorI u.c 255, u.d⟩ 4 = x := ⟨_, rfl⟩
          have hr : outI x = mixI s bs := by rw [← hx]; unfold mixI; rw [HU.out]
          rw [hx] at HS
          have HR := Lib.hid hr
          clear hx hr
          go_wp2_with fail
          refine wp_region_flow (fun W => St 71 W N x ∧ Below w.heap.size w W) [0, 1, 2, 3, 4, 5, 6, 7, 8, 9, 10, 11, 12, 13, 14, 15, 16, 17, 18, 19] (by kernel_rfl) (by kernel_rfl) (by kernel_rfl) (⟨HS.out.keep rfl, HW.out.drew⟩) ?_
          refine flow_val ?_ rfl (by kernel_rfl) (by rfl) (fun W hW => ?_) ?_
          rotate_left 1
          · go_simp <;> with_reducible rfl
          simp only [Act.put, List.setIfInBounds_toArray, List.set_cons_succ, List.set_cons_zero]
          refine flow_val ?_ rfl (by kernel_rfl) (by rfl) (fun W hW => ?_) ?_
          rotate_left 1
          · go_simp <;> with_reducible rfl
          simp only [Act.put, List.setIfInBounds_toArray, List.set_cons_succ, List.set_cons_zero]
          refine flow_val ?_ rfl (by kernel_rfl) (by rfl) (fun W hW => ?_) ?_
          rotate_left 1
          · go_simp <;> with_reducible rfl
          simp only [Act.put, List.setIfInBounds_toArray, List.set_cons_succ, List.set_cons_zero]
          refine flow_val ?_ rfl (by kernel_rfl) (by rfl) (fun W hW => ?_) ?_
          rotate_left 1
          · have c0 := hW.1.c0; go_simp <;> with_reducible rfl
          simp only [Act.put, List.setIfInBounds_toArray, List.set_cons_succ, List.set_cons_zero]
          refine flow_val ?_ rfl (by kernel_rfl) (by rfl) (fun W hW => ?_) ?_
          rotate_left 1
          · go_simp <;> with_reducible rfl
          simp only [Act.put, List.setIfInBounds_toArray, List.set_cons_succ, List.set_cons_zero]
          refine flow_val ?_ rfl (by kernel_rfl) (by rfl) (fun W hW => ?_) ?_
          rotate_left 1
          · go_simp <;> with_reducible rfl
          simp only [Act.put, List.setIfInBounds_toArray, List.set_cons_succ, List.set_cons_zero]
          refine flow_val ?_ rfl (by kernel_rfl) (by rfl) (fun W hW => ?_) ?_
          rotate_left 1
          · go_simp <;> with_reducible rfl
          simp only [Act.put, List.setIfInBounds_toArray, List.set_cons_succ, List.set_cons_zero]
          refine flow_val ?_ rfl (by kernel_rfl) (by rfl) (fun W hW => ?_) ?_
          rotate_left 1
          · have c1 := hW.1.c1; go_simp <;> with_reducible rfl
          simp only [Act.put, List.setIfInBounds_toArray, List.set_cons_succ, List.set_cons_zero]
          refine flow_val ?_ rfl (by kernel_rfl) (by rfl) (fun W hW => ?_) ?_
          rotate_left 1
          · go_simp <;> with_reducible rfl
          simp only [Act.put, List.setIfInBounds_toArray, List.set_cons_succ, List.set_cons_zero]
          refine flow_val ?_ rfl (by kernel_rfl) (by rfl) (fun W hW => ?_) ?_
          rotate_left 1
          · go_simp <;> with_reducible rfl
          simp only [Act.put, List.setIfInBounds_toArray, List.set_cons_succ, List.set_cons_zero]
          refine flow_val ?_ rfl (by kernel_rfl) (by rfl) (fun W hW => ?_) ?_
          rotate_left 1
          · go_simp <;> with_reducible rfl
          simp only [Act.put, List.setIfInBounds_toArray, List.set_cons_succ, List.set_cons_zero]
          refine flow_val ?_ rfl (by kernel_rfl) (by rfl) (fun W hW => ?_) ?_
          rotate_left 1
          · go_simp <;> with_reducible rfl
          simp only [Act.put, List.setIfInBounds_toArray, List.set_cons_succ, List.set_cons_zero]
          refine flow_val ?_ rfl (by kernel_rfl) (by rfl) (fun W hW => ?_) ?_
          rotate_left 1
          · have c2 := hW.1.c2; go_simp <;> with_reducible rfl
          simp only [Act.put, List.setIfInBounds_toArray, List.set_cons_succ, List.set_cons_zero]
          refine flow_val ?_ rfl (by kernel_rfl) (by rfl) (fun W hW => ?_) ?_
          rotate_left 1
          · go_simp <;> with_reducible rfl
          simp only [Act.put, List.setIfInBounds_toArray, List.set_cons_succ, List.set_cons_zero]
          refine flow_val ?_ rfl (by kernel_rfl) (by rfl) (fun W hW => ?_) ?_
          rotate_left 1
          · go_simp <;> with_reducible rfl
          simp only [Act.put, List.setIfInBounds_toArray, List.set_cons_succ, List.set_cons_zero]
          refine flow_val ?_ rfl (by kernel_rfl) (by rfl) (fun W hW => ?_) ?_
          rotate_left 1
          · go_simp <;> with_reducible rfl
          simp only [Act.put, List.setIfInBounds_toArray, List.set_cons_succ, List.set_cons_zero]
          refine flow_val ?_ rfl (by kernel_rfl) (by rfl) (fun W hW => ?_) ?_
          rotate_left 1
          · go_simp <;> with_reducible rfl
          simp only [Act.put, List.setIfInBounds_toArray, List.set_cons_succ, List.set_cons_zero]
          refine flow_val ?_ rfl (by kernel_rfl) (by rfl) (fun W hW => ?_) ?_
          rotate_left 1
          · have c3 := hW.1.c3; go_simp <;> with_reducible rfl
          simp only [Act.put, List.setIfInBounds_toArray, List.set_cons_succ, List.set_cons_zero]
          refine flow_val ?_ rfl (by kernel_rfl) (by rfl) (fun W hW => ?_) ?_
          rotate_left 1
          · go_simp <;> with_reducible rfl
          simp only [Act.put, List.setIfInBounds_toArray, List.set_cons_succ, List.set_cons_zero]
          refine flow_val ?_ rfl (by kernel_rfl) (by rfl) (fun W hW => ?_) ?_
          rotate_left 1
          · go_simp <;> with_reducible rfl
          simp only [Act.put, List.setIfInBounds_toArray, List.set_cons_succ, List.set_cons_zero]
          refine flow_done ?_
          rintro W ⟨hW, hB⟩
          have HB1 := Lib.hid hB
          clear hW hB
          go_wp2
          go_ret
          exact ⟨congrArg Ending.returned (congrArg (Value.int .u64) HR.out), HB1.out⟩
end Go.Proofs.Ytchdfdimaopdeaa
