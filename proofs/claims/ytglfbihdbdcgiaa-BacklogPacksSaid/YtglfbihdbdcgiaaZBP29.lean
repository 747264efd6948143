/- Joined: Unpack: what any bytes are as a backlog. -/
import Derived.Test.YtglfbihdbdcgiaaZBP28
namespace Go.Proofs.Ytglfbihdbdcgiaa
open Go.RowKit

theorem ubOf {w W : World} {TT : TypeId} {pt pb : Nat} {D : Option Nat} {s : List Nat × Bool} {v : Value} {rs : List (Int × Bool)} {out : Int} (h : UB w TT 58 60 pt pb D s v rs out W) : IsB W pb pb rs out := ⟨Nat.le_refl _, v, h.b, h.r⟩
theorem ubLow {w W : World} {TT : TypeId} {pt pb : Nat} {D : Option Nat} {s : List Nat × Bool} {v : Value} {rs : List (Int × Bool)} {out : Int} (h : UB w TT 58 60 pt pb D s v rs out W) : IsB W w.heap.size pb rs out := by
  have h1 := h.low
  have h2 := h.lt
  exact ⟨by omega, v, h.b, own_zero2 h.r (by omega)⟩

set_option maxRecDepth 100000 in
set_option maxHeartbeats 2000000 in
theorem unpack_any (v : Value) (bs : List Nat) (w : World) (hv : Bs w v bs) (hb : ∀ b ∈ bs, b < 256) (ht : bs.length ≤ 140737488355328) :
    Calls Try.prog 28 #[v] w (RetUn IsB (.int .i64 0) (.int .i64 10) (unB bs) w) := by
  obtain ⟨i0, hi0, hz0, hz1, hz2⟩ := info_parts Try.infoRow
  have hun : unB bs = endB (numT (bs, false) 0 9223372036854775807).1 (okR (unR (numT (numT (bs, false) 0 9223372036854775807).2 0 256).1.toNat [] (numT (numT (bs, false) 0 9223372036854775807).2 0 256).2)) := rfl
  obtain ⟨o1, s1, e1⟩ : ∃ n s, numT (bs, false) 0 9223372036854775807 = (n, s) := ⟨_, _, rfl⟩
  obtain ⟨o2, s2, e2⟩ : ∃ n s, numT s1 0 256 = (n, s) := ⟨_, _, rfl⟩
  obtain ⟨n, hn, hn2⟩ := numT_nat s1 256 (by omega)
  rw [e1] at hun
  simp only [e2] at hun hn
  subst hn
  simp only [Int.toNat_natCast] at hun
  have hn2 : n ≤ 256 := by omega
  have HUN := Lib.hid hun
  have E1 := Lib.hid e1
  have E2 := Lib.hid e2
  have HV := Lib.hid hv
  have HBY := Lib.hid hb
  have HLEN := Lib.hid ht
  clear hun e1 e2 hv hb ht
  go_enter Try.func28, Try.ntmps28
  go_wp2_with fail
  refine (take_any v bs w HV.out HBY.out HLEN.out).mono ?_
  rintro e w1 ⟨pt, D, rfl, hlow, hT, hD, hDl, hb1⟩
  have HT := Lib.hid hT
  have HD : Hid (∀ d, D = some d → d < w1.heap.size ∧ d ≠ pt) := Lib.hid (fun d hd => ⟨(hDl d hd).2, fun e => hD (e ▸ hd)⟩)
  have HLOW := Lib.hid hlow
  have HB1 := Lib.hid hb1
  clear hT hD hDl hlow hb1
  go_wp2_with fail
  refine (tnum_any pt D _ 0 9223372036854775807 w1 HT.out (fun e => (HD.out _ e).2 rfl)).mono ?_
  rintro e w2 ⟨rfl, hT2, hf2⟩
  rw [E1.out] at hT2 ⊢
  have HT2 := Lib.hid hT2
  have HB2 : Hid (Below w.heap.size w w2) := Lib.hid (HB1.out.trans (hf2.belowT HLOW.out HB1.out.size))
  have HZ2 := Lib.hid hf2.size
  clear hT2 hf2
  go_wp2_with fail
  obtain ⟨w3, hw3⟩ : ∃ w3, w2.alloc (.cells #[.slice none 0 0, .int .i64 o1] 58) = w3 := ⟨_, rfl⟩
  obtain ⟨pb, hpb⟩ : ∃ pb, w2.heap.size = pb := ⟨_, rfl⟩
  have h3 : UB w 88 58 60 pt pb D s1 (.slice none 0 0) [] o1 w3 := by
    have hb : Below w2.heap.size w2 w3 := by rw [← hw3]; exact (Below.refl _ w2).alloc (Nat.le_refl _) _
    have hlt := HT2.out.lt
    exact ⟨HT2.out.below hb, by omega, fun d hd => by have := HD.out d hd; have := HZ2.out; omega, HLOW.out, by rw [← hw3, ← hpb]; exact block_new _ _, World.ownsRow_nil _ _ _ _, HB2.out.trans (hb.mono HB2.out.size)⟩
  have H3 := Lib.hid h3
  rw [hw3, hpb]
  clear h3 hw3 hpb HT2 HT HB2 HB1
  refine (tnum_any pt D _ 0 256 w3 H3.out.t H3.out.dp).mono ?_
  intro e w4 hr
  obtain ⟨rfl, h4⟩ := H3.out.turn hr
  rw [E2.out] at h4 ⊢
  have H4 := Lib.hid h4
  clear hr h4 H3
  go_wp2_with fail
  go_loopw [16] (fun iv wr => ∃ (k : Nat) (s : List Nat × Bool) (v : Value) (rs : List (Int × Bool)), k ≤ n ∧ rs.length = k ∧ iv = .int .i64 k ∧ UB w 88 58 60 pt pb D s v rs o1 wr ∧ okR (unR (n - k) rs s) = okR (unR n [] s2)) (fun iv _ => n - (intOf iv).toNat)
  case atStart => exact ⟨0, s2, _, [], Nat.zero_le _, rfl, rfl, H4.out, by simp⟩
  case round =>
    obtain ⟨k, s, vr, rs, hk, hrs, rfl, hu, hok⟩ := hrel
    have HU := Lib.hid hu
    have HOK := Lib.hid hok
    have HRS := Lib.hid hrs
    clear hu hok hrs H4
    by_cases hlt : k < n
    · go_wp2_with fail
      refine (tnum_any pt D _ 1 9223372036854775807 wr HU.out.t HU.out.dp).mono ?_
      intro e w5 hr
      obtain ⟨rfl, h5⟩ := HU.out.turn hr
      obtain ⟨x, hx⟩ : ∃ x, numT s 1 9223372036854775807 = x := ⟨_, rfl⟩
      rw [hx] at h5 ⊢
      have HX := Lib.hid hx
      have H5 := Lib.hid h5
      obtain ⟨m, hm⟩ : ∃ m, n - k = m + 1 := ⟨n - k - 1, by omega⟩
      have HM := Lib.hid hm
      obtain ⟨y, hy⟩ : ∃ y, flagT x.2 = y := ⟨_, rfl⟩
      have HY := Lib.hid hy
      have hstep : unR (n - k) rs s = if at_ rs x.1 = -1 then unR m (rs ++ [(x.1, y.1)]) y.2 else none := by
        rw [hm, unR, HX.out, hy]
      have HST := Lib.hid hstep
      clear hr h5 hx hm hy hstep
      go_wp2_with fail
      refine (place_any x.1 pb pb rs o1 w5 (ubOf H5.out) (by rw [HRS.out]; omega)).mono ?_
      rintro e w6 ⟨rfl, hb6⟩
      have H6 := Lib.hid (H5.out.below hb6)
      obtain ⟨i, hi⟩ : ∃ i, idx (fun r => r.1 == x.1) rs = i := ⟨_, rfl⟩
      rw [hi]
      have HI : Hid (at_ rs x.1 = i) := Lib.hid hi
      clear hb6 hi
      by_cases hm1 : i = -1
      · subst hm1
        have hok' : okR (unR m (rs ++ [(x.1, y.1)]) y.2) = okR (unR n [] s2) := by
          rw [← HOK.out, HST.out, if_pos HI.out]
        have HOK' := Lib.hid hok'
        obtain ⟨Av, cv, rfl, kv1, kv2, _⟩ := own_slice H6.out.r
        rw [HRS.out] at kv1
        obtain ⟨o, ho⟩ : ∃ o, x.1 = o := ⟨_, rfl⟩
        obtain ⟨f, hf⟩ : ∃ f, y.1 = f := ⟨_, rfl⟩
        have HF := Lib.hid hf
        rw [ho, hf] at HOK'
        have hpb9 := lt_of_block H6.out.b
        have hptb := H6.out.lt
        have HC9 : Hid (UB w 88 58 60 pt pb D x.2 (.slice Av rs.length cv) rs o1 w6.drew) := Lib.hid (H6.out.below (Below.refl _ w6).drew)
        simp only [ho]
        clear hok' ho hf kv2
        go_wp2_with fail
        refine wp_region_flow2 (fun W => Fr 0 [60] [pt] w6 W) (fun W => UB w 88 58 60 pt pb D x.2 (.slice Av rs.length cv) rs o1 W) [0, 1, 2, 3, 4, 5, 6, 7, 8, 9, 10, 11, 12, 13] (by kernel_rfl) (by kernel_rfl) (by kernel_rfl) ((Fr.refl w6).drew) (HC9.out) ?_
        refine flow_val ?_ rfl (by kernel_rfl) (by rfl) (fun W hW => ?_) ?_
        rotate_left 1
        · go_simp <;> with_reducible rfl
        simp only [Act.put, List.setIfInBounds_toArray, List.set_cons_succ, List.set_cons_zero]
        refine flow_val ?_ rfl (by kernel_rfl) (by rfl) (fun W hW => ?_) ?_
        rotate_left 1
        · go_simp <;> with_reducible rfl
        simp only [Act.put, List.setIfInBounds_toArray, List.set_cons_succ, List.set_cons_zero]
        refine flow_val ?_ rfl (by kernel_rfl) (by rfl) (fun W hW => ?_) ?_
        rotate_left 1
        · go_simp <;> with_reducible rfl
        simp only [Act.put, List.setIfInBounds_toArray, List.set_cons_succ, List.set_cons_zero]
        refine flow_val ?_ rfl (by kernel_rfl) (by rfl) (fun W hW => ?_) ?_
        rotate_left 1
        · go_simp <;> with_reducible rfl
        simp only [Act.put, List.setIfInBounds_toArray, List.set_cons_succ, List.set_cons_zero]
        refine flow_val ?_ rfl (by kernel_rfl) (by rfl) (fun W hW => ?_) ?_
        rotate_left 1
        · have c1 : W.cell? ⟨pb, 0, none⟩ = some (.slice Av rs.length cv) := cell_at (hW.keep H6.out.b (by decide) (by simp; omega)) 0; go_simp <;> with_reducible rfl
        simp only [Act.put, List.setIfInBounds_toArray, List.set_cons_succ, List.set_cons_zero]
        refine flow_val ?_ rfl (by kernel_rfl) (by rfl) (fun W hW => ?_) ?_
        rotate_left 1
        · go_simp <;> with_reducible rfl
        simp only [Act.put, List.setIfInBounds_toArray, List.set_cons_succ, List.set_cons_zero]
        refine flow_val ?_ rfl (by kernel_rfl) (by rfl) (fun W hW => ?_) ?_
        rotate_left 1
        · go_simp <;> with_reducible rfl
        simp only [Act.put, List.setIfInBounds_toArray, List.set_cons_succ, List.set_cons_zero]
        refine flow_turn (.bool f) (fun W => UB w 88 58 60 pt pb D y.2 (.slice Av rs.length cv) rs o1 W) rfl (by kernel_rfl) (by rfl) (by kernel_rfl) (fun W hW hC => ⟨_, _, _, by go_simp, (tflag_any pt D x.2 W hC.t hC.dp).mono fun e w1 hr => ?_⟩) ?_
        · have h1 := hC.turn hr
          rw [HY.out, HF.out] at h1
          exact ⟨h1.1, hW.trans (hr.2.2.mono (Nat.le_refl _) (by simp) (by simp)), h1.2⟩
        simp only [Act.put, List.setIfInBounds_toArray, List.set_cons_succ, List.set_cons_zero]
        refine flow_val ?_ rfl (by kernel_rfl) (by rfl) (fun W hW => ?_) ?_
        rotate_left 1
        · go_simp <;> with_reducible rfl
        simp only [Act.put, List.setIfInBounds_toArray, List.set_cons_succ, List.set_cons_zero]
        refine flow_gmake (fun v W => ∃ g', v = .slice (some ⟨g', 0, none⟩) 1 1 ∧ W.heap[g']? = some (.cells #[.int .i64 o, .bool f] 60 (0, 0)) ∧ UB w 88 58 60 pt pb D y.2 (.slice Av rs.length cv) rs o1 W) rfl (by kernel_rfl) (by rfl) (by kernel_rfl) (fun W hW hC => ?_) ?_
        · have hb : Below W.heap.size W (W.alloc (.cells #[.int .i64 o, .bool f] 60)) := (Below.refl _ W).alloc (Nat.le_refl _) _
          exact ⟨_, _, by go_simp <;> with_reducible rfl, ⟨hW.1.then hb, trivial⟩, ⟨_, rfl, block_new _ _, hC.below hb⟩⟩
        rintro v54 ⟨_, _, g54, rfl, _, _⟩
        simp only [Act.put, List.setIfInBounds_toArray, List.set_cons_succ, List.set_cons_zero]
        refine flow_gmake (fun v W => UA w 88 58 60 pt pb D y.2 (.slice Av rs.length cv) v (rs ++ [(o, f)]) o1 W) rfl (by kernel_rfl) (by rfl) (by kernel_rfl) (fun W hW hC => ?_) ?_
        · obtain ⟨g2, e2, hg2, hC2⟩ := hC
          injection e2 with e2 _ _
          injection e2 with e2
          injection e2 with e2 _ _
          subst e2
          refine exec_append_rd (.tmp 28) (.tmp 33) 56 rfl pb 60 i0 (.agg #[.int .i64 0, .bool false]) 2 16 Try.underlying56 hi0 hz0 hz1 hz2 rfl (by decide) (.slice Av rs.length cv) rs.length (flat rs) rfl hC2.r (some ⟨g54, 0, none⟩) 1 1 [.int .i64 o, .bool f] rfl ⟨rfl, fun _ => ⟨_, _, rfl, lt_of_block hg2, fun j u hu => ?_⟩⟩ (two_one _ _) (by rw [HRS.out]; unfold maxLen; omega) (by rw [HRS.out]; omega) (by have := lt_of_block hC2.b; omega) (fun v' w' x2 x3 => ?_)
          · match j, hu with
            | 0, hu => simp at hu; subst hu; rw [cell_at hg2]; rfl
            | 1, hu => simp at hu; subst hu; rw [cell_at hg2]; rfl
            | j + 2, hu => simp at hu
          · exact ⟨⟨⟨hW.1.1.trans ((hC2.fr x3 0 (Nat.zero_le _)).mono (Nat.le_refl _) (by simp) (by simp)), trivial⟩, trivial⟩, hC2.app (by decide) x2 x3⟩
        rintro v55 ⟨_, _, hv55⟩
        simp only [Act.put, List.setIfInBounds_toArray, List.set_cons_succ, List.set_cons_zero]
        obtain ⟨A55, c55, e55, _, _, _, _⟩ := own_slice hv55.r
        rw [List.length_append, HRS.out] at e55
        subst e55
        clear hv55
        refine flow_val ?_ rfl (by kernel_rfl) (by rfl) (fun W hW => ?_) ?_
        rotate_left 1
        · go_simp <;> with_reducible rfl
        simp only [Act.put, List.setIfInBounds_toArray, List.set_cons_succ, List.set_cons_zero]
        refine flow_val ?_ rfl (by kernel_rfl) (by rfl) (fun W hW => ?_) ?_
        rotate_left 1
        · go_simp <;> with_reducible rfl
        simp only [Act.put, List.setIfInBounds_toArray, List.set_cons_succ, List.set_cons_zero]
        refine flow_bar (fun W => UB w 88 58 60 pt pb D y.2 (.slice A55 (k + [(o, f)].length) c55) (rs ++ [(o, f)]) o1 W) (fun _ => True) rfl (by kernel_rfl) (by rfl) (by kernel_rfl) (by kernel_rfl) (fun W hW hC => ?_) ?_
        · have q1 := cell_at hC.b 0
          have q2 := frozen_at hC.b 0
          have HC := Lib.hid hC
          clear hC hW
          refine ⟨_, by go_simp <;> with_reducible rfl, ?_, trivial⟩
          exact HC.out.store
        simp only [Act.put]
        refine flow_done2 ?_
        intro W hW _
        have H10 := Lib.hid hW
        clear hW
        go_wp2_with fail
        go_roundw
        case rel => exact ⟨k + 1, _, _, rs ++ [(o, f)], hlt, by rw [List.length_append, HRS.out]; rfl, by go_num, H10.out.1, by have := HM.out; rw [show n - (k + 1) = m by omega]; exact HOK'.out⟩
        case measure => simp [intOf]; omega
      · have HR : Hid (unB bs = none) := Lib.hid (by rw [HUN.out, ← HOK.out, HST.out, if_neg (by rw [HI.out]; exact hm1)]; rfl)
        have hm2 : (i != -1) = true := by simpa using hm1
        clear hm1
        go_wp2_with fail
        refine bodyPost_ret (results_tmp2 rfl _ _ _) rfl ?_
        exact retUn_none HR.out H6.out.bel
    · obtain rfl : k = n := by omega
      have HFIN : Hid (unB bs = endB o1 (okR (some (rs, s)))) := Lib.hid (by rw [HUN.out, ← HOK.out, Nat.sub_self]; rfl)
      have b1 := cell_at HU.out.b 1
      clear hlt
      go_wp2_with fail
      refine (place_any o1 pb pb rs o1 wr (ubOf HU.out) (by rw [HRS.out]; omega)).mono ?_
      rintro e w9 ⟨rfl, hb9⟩
      have h9 := HU.out.below hb9
      obtain ⟨i, hi⟩ : ∃ i, idx (fun r => r.1 == o1) rs = i := ⟨_, rfl⟩
      have hi1 := idx_ge (fun r => r.1 == o1) rs
      rw [hi] at hi1 ⊢
      have HI : Hid (at_ rs o1 = i) := Lib.hid hi
      have H9 := Lib.hid h9
      have c1 := cell_at h9.b 1
      have c0 := cell_at h9.b 0
      clear hi hb9 h9 b1
      go_wp2_with fail
      refine (tdone_any pt D s w9 H9.out.t).mono ?_
      rintro e w10 ⟨rfl, rfl⟩
      obtain ⟨d, hd⟩ : ∃ d, doneT s = d := ⟨_, rfl⟩
      have HD2 := Lib.hid hd
      rw [hd]
      clear hd
      by_cases hd0 : d = 0
      · subst hd0
        have HE : Hid (unB bs = if outBad rs o1 then none else some (rs, o1)) := Lib.hid (by
          rw [HFIN.out]
          simp [okR, HD2.out, endB])
        by_cases ho : o1 = 0
        · subst ho
          have HR : Hid (unB bs = some (rs, 0)) := Lib.hid (by rw [HE.out, if_neg (by simp [outBad])])
          clear hi1
          go_wp2_with fail
          refine bodyPost_ret (results_tmp2 rfl _ _ _) rfl ?_
          exact retUn_some HR.out (ubLow H9.out) H9.out.bel
        · have ho' : (o1 != 0) = true := by simpa using ho
          have HO := Lib.hid ho
          clear ho
          by_cases hm1 : i = -1
          · subst hm1
            have HR : Hid (unB bs = none) := Lib.hid (by rw [HE.out, if_pos ⟨HO.out, .inl HI.out⟩])
            clear hi1
            go_wp2_with fail
            refine bodyPost_ret (results_tmp2 rfl _ _ _) rfl ?_
            exact retUn_none HR.out H9.out.bel
          · obtain ⟨j, rfl⟩ : ∃ j : Nat, i = j := ⟨i.toNat, by omega⟩
            have hj : j < rs.length := by omega
            have hr9 := H9.out.r
            obtain ⟨g, cv, rfl⟩ := own_pos hr9 (by omega)
            obtain ⟨r0, r1⟩ := xrow_cells hr9 hj
            obtain ⟨rd, hrd⟩ : ∃ rd, rs[j].2 = rd := ⟨_, rfl⟩
            rw [hrd] at r1
            have HRD : Hid ((rs.getD (at_ rs o1).toNat (0, false)).2 = rd) := Lib.hid (by rw [HI.out]; simp [hj, hrd])
            have hjk : j < k := by rw [← HRS.out]; exact hj
            rw [HRS.out] at c0
            clear hr9 r0 hi1 hm1 hrd hj
            cases rd
            · have HR : Hid (unB bs = some (rs, o1)) := Lib.hid (by
                rw [HE.out, if_neg]
                rintro ⟨_, h | h⟩
                · rw [HI.out] at h; omega
                · rw [HRD.out] at h; cases h)
              go_wp2_with fail
              refine bodyPost_ret (results_tmp2 rfl _ _ _) rfl ?_
              exact retUn_some HR.out (ubLow H9.out) H9.out.bel
            · have HR : Hid (unB bs = none) := Lib.hid (by rw [HE.out, if_pos ⟨HO.out, .inr HRD.out⟩])
              go_wp2_with fail
              refine bodyPost_ret (results_tmp2 rfl _ _ _) rfl ?_
              exact retUn_none HR.out H9.out.bel
      · have HR : Hid (unB bs = none) := Lib.hid (by rw [HFIN.out]; simp [okR, HD2.out, hd0, endB])
        have hd1 : (d != 0) = true := by simpa using hd0
        clear hd0 hi1 c0 c1
        go_wp2_with fail
        refine bodyPost_ret (results_tmp2 rfl _ _ _) rfl ?_
        exact retUn_none HR.out H9.out.bel
end Go.Proofs.Ytglfbihdbdcgiaa
