/- Text, of makers and takers and of the reference's maker. -/
import Derived.Test.YtjgdcdojigcefaaCRM
namespace Go.Proofs.Ytjgdcdojigcefaa
open Go.RowKit

set_option maxRecDepth 100000 in
set_option maxHeartbeats 400000 in
theorem mtext_any (p : Nat) (G : Option Nat) (s : List Nat × Bool) (t : ByteArray) (w : World) (hM : IsM w p G s) (ht : t.size ≤ 140737488351232) :
    Calls Try.prog 54 #[.pointer (some ⟨p, 0, none⟩), .string t] w (RetM p G (putS s (textB (natsOf t))) w) := by
  have HM := Lib.hid hM
  clear hM
  go_enter Try.func54, Try.ntmps54
  go_wp2_with fail
  refine (num_any _ _ ⟨by omega, by omega⟩).mono ?_
  rintro e w1 ⟨v, rfl, hv, hb⟩
  obtain ⟨k, W, hrun, hbs, hbW, hWs⟩ := str_bytes w1 t (by unfold maxLen; omega)
  have HV := Lib.hid hv
  have HB := Lib.hid hb
  have HS := Lib.hid hbs
  have HW := Lib.hid hbW
  obtain ⟨A, c, rfl, _, _, _⟩ := hv
  clear hb hbs hbW hWs
  go_wp2_with fail
  have b1 : Below w.heap.size w W := HB.out.trans (HW.out.mono HB.out.size)
  have hb2 := b1.alloc b1.size (.cells #[.slice A (numB t.size).length c, .slice (some ⟨w1.heap.size, 0, none⟩) t.size k] 26)
  have hlen := (numB_length t.size).2
  refine (put_any p G s _ [numB t.size, natsOf t] _ (HM.out.below hb2) (Bss.two (HV.out.below HW.out) HS.out) (by simp [natsOf_length]; omega)).mono ?_
  rintro e w2 ⟨G', rfl, hM2, hf, hG⟩
  have HM2 := Lib.hid hM2
  have HF := Lib.hid hf
  have HG := Lib.hid hG
  have HB2 := Lib.hid hb2
  clear hM2 hf hG hb2 b1
  go_wp2
  go_ret
  refine ⟨G', rfl, ?_, (Fr.of_below HB2.out).trans HF.out, ?_⟩
  · have := HM2.out
    simpa [textB, natsOf_length] using this
  · rcases HG.out with h | ⟨g, h, hg⟩
    · exact .inl h
    · exact .inr ⟨g, h, Nat.le_trans HB2.out.size hg⟩

set_option maxRecDepth 100000 in
set_option maxHeartbeats 400000 in
theorem mtext_nil (t : ByteArray) (w : World) (ht : t.size ≤ 140737488351232) :
    Calls Try.prog 54 #[.pointer none, .string t] w fun e w' => e = .returned (.pointer none) ∧ Below w.heap.size w w' := by
  go_enter Try.func54, Try.ntmps54
  go_wp2_with fail
  refine (num_any _ _ ⟨by omega, by omega⟩).mono ?_
  rintro e w1 ⟨v, rfl, ⟨A, c, rfl, _, _, _⟩, hb⟩
  obtain ⟨k, W, hrun, _, hbW, _⟩ := str_bytes w1 t (by unfold maxLen; omega)
  have HB := Lib.hid hb
  have HW := Lib.hid hbW
  clear hb hbW
  go_wp2_with fail
  refine (put_nil _ _).mono ?_
  rintro e w2 ⟨rfl, rfl⟩
  go_wp2
  go_ret
  have b1 : Below w.heap.size w W := HB.out.trans (HW.out.mono HB.out.size)
  exact ⟨rfl, b1.alloc b1.size _⟩

theorem textT_of (s : List Nat × Bool) (most : Int) {n : Int} {bs : List Nat} {bad : Bool} (h : numT s 0 most = (n, (bs, bad))) :
    textT s most = if bad = true then ([], (bs, bad)) else if (bs.length : Int) < n then ([], (bs, true)) else (bs.take n.toNat, (bs.drop n.toNat, false)) := by
  unfold textT; rw [h]

set_option maxHeartbeats 400000 in
theorem ttext_nil (b : Int) (w : World) : Calls Try.prog 44 #[.pointer none, .int .i64 b] w fun e w' => e = .returned (.string (strOf [])) ∧ w = w' := by
  go_enter Try.func44, Try.ntmps44
  go_wp2_with fail
  refine (tnum_nil _ _ _).mono ?_
  rintro e w' ⟨rfl, rfl⟩
  go_wp2_with (go_at_call 59; refine (may_nil _).mono ?_; rintro e w' ⟨rfl, rfl⟩)
  go_ret
  exact ⟨rfl, rfl⟩

set_option maxRecDepth 100000 in
set_option maxHeartbeats 1000000 in
theorem ttext_bad (p : Nat) (D : Option Nat) (s : List Nat × Bool) (b n : Int) (bs : List Nat) (w : World) (hT : IsT w 85 p D s) (hp : D ≠ some p) (hr : numT s 0 b = (n, (bs, true))) :
    Calls Try.prog 44 #[.pointer (some ⟨p, 0, none⟩), .int .i64 b] w (RetT 85 p D (.string (strOf [])) (bs, true) w) := by
  have HT := Lib.hid hT
  have HD := Lib.hid hp
  have HR := Lib.hid hr
  clear hT hp hr
  go_enter Try.func44, Try.ntmps44
  go_wp2_with fail
  refine (tnum_any p D s 0 b w HT.out HD.out).mono ?_
  rintro e w1 ⟨rfl, h1, hf⟩
  rw [HR.out] at h1 ⊢
  have H1 := Lib.hid h1
  have HF := Lib.hid hf
  clear h1 hf
  go_wp2_with (go_at_call 59; refine (may_any p D (bs, true) _ H1.out).mono ?_; rintro e w' ⟨rfl, rfl⟩)
  go_ret
  exact ⟨rfl, H1.out, HF.out⟩

set_option maxRecDepth 100000 in
set_option maxHeartbeats 1000000 in
theorem ttext_over (p : Nat) (D : Option Nat) (s : List Nat × Bool) (b n : Int) (bs : List Nat) (w : World) (hT : IsT w 85 p D s) (hp : D ≠ some p) (hr : numT s 0 b = (n, (bs, false))) (hn : (bs.length : Int) < n) :
    Calls Try.prog 44 #[.pointer (some ⟨p, 0, none⟩), .int .i64 b] w (RetT 85 p D (.string (strOf [])) (bs, true) w) := by
  have HT := Lib.hid hT
  have HD := Lib.hid hp
  have HR := Lib.hid hr
  clear hT hp hr
  go_enter Try.func44, Try.ntmps44
  go_wp2_with fail
  refine (tnum_any p D s 0 b w HT.out HD.out).mono ?_
  rintro e w1 ⟨rfl, h1, hf⟩
  rw [HR.out] at h1 ⊢
  have H1 := Lib.hid h1
  obtain ⟨A, c, k1, k2, k3, k4, k5, k6, k7⟩ := h1
  have c0 : w1.cell? ⟨p, 0, none⟩ = some (.slice A bs.length c) := cell_at k1 0
  have HF := Lib.hid hf
  clear k1 k2 k3 k4 k5 k6 k7 hf
  go_wp2_with (go_at_call 59; refine (may_any p D (bs, false) _ H1.out).mono ?_; rintro e w' ⟨rfl, rfl⟩)
  refine (fault_any p D (bs, false) _ H1.out HD.out).mono ?_
  rintro e w2 ⟨rfl, h2, hf2⟩
  have H2 := Lib.hid h2
  have HF2 := Lib.hid hf2
  clear h2 hf2
  go_wp2
  go_ret
  exact ⟨rfl, H2.out, (HF.out.mono (Nat.le_refl _) (by simp) (by simp)).trans HF2.out⟩

set_option maxRecDepth 100000 in
set_option maxHeartbeats 1000000 in
theorem ttext_in (p : Nat) (D : Option Nat) (s : List Nat × Bool) (b : Int) (n : Nat) (bs : List Nat) (w : World) (hT : IsT w 85 p D s) (hp : D ≠ some p) (hr : numT s 0 b = ((n : Int), (bs, false))) (hn : n ≤ bs.length) :
    Calls Try.prog 44 #[.pointer (some ⟨p, 0, none⟩), .int .i64 b] w (RetT 85 p D (.string (strOf (bs.take n))) (bs.drop n, false) w) := by
  have HT := Lib.hid hT
  have HD := Lib.hid hp
  have HR := Lib.hid hr
  clear hT hp hr
  have hdl : (bs.drop n).length = bs.length - n := by simp
  have HDL := Lib.hid hdl
  have hmd : (bs.drop n).map u8v = (bs.map u8v).drop (n * 1) := by simp
  have HMD := Lib.hid hmd
  have hmt : (bs.take n).map u8v = (bs.map u8v).take (n * 1) := by simp
  have HMT := Lib.hid hmt
  clear hdl hmd hmt
  go_enter Try.func44, Try.ntmps44
  go_wp2_with fail
  refine (tnum_any p D s 0 b w HT.out HD.out).mono ?_
  rintro e w1 ⟨rfl, h1, hf⟩
  rw [HR.out] at h1 ⊢
  have H1 := Lib.hid h1
  obtain ⟨A, c, k1, k2, k3, k4, k5, k6, k7⟩ := h1
  simp only at k1 k2 k3 k4 k5 k6 k7
  have c0 : w1.cell? ⟨p, 0, none⟩ = some (.slice A bs.length c) := cell_at k1 0
  have c1 := frozen_at k1 0
  have hm : c ≤ 9223372036854775807 := by unfold maxLen at k3; omega
  have hs0 := run_str w1 A n c (bs.take n) (by rw [HMT.out]; exact k4.take hn) (fun x hx => k6 x (List.mem_of_mem_take hx))
  have HF := Lib.hid hf
  have K1 := Lib.hid k1
  have K4 := Lib.hid k4
  have K5 := Lib.hid k5
  have K3 := Lib.hid k3
  have HB6 := Lib.hid (fun x hx => k6 x (List.mem_of_mem_drop (i := n) hx))
  clear k1 k3 k4 k5 k6 hf
  rcases k7 with rfl | ⟨g, o, rfl⟩
  · obtain rfl : n = 0 := by omega
    have hb0 : bs.length ≤ 0 := k2
    have hn : (bs.drop 0).length = 0 := by rw [HDL.out]; omega
    have hfin := IsT.of_set0 (D := D) (bs := bs.drop 0) (A := A) (c := 0) K1.out (by omega) (Nat.zero_le _) (by rw [List.eq_nil_of_length_eq_zero hn]; exact Rd.nil) (by omega) HD.out HB6.out (.inl rfl)
    rw [hn] at hfin
    have HFin := Lib.hid hfin
    clear hfin hn
    cases A
    all_goals
      go_wp2_with (go_at_call 59; refine (may_any p D (bs, false) _ H1.out).mono ?_; rintro e w' ⟨rfl, rfl⟩)
      go_ret
      exact ⟨rfl, HFin.out.1, (HF.out.mono (Nat.le_refl _) (by simp) (by simp)).trans HFin.out.2⟩
  · by_cases hnc : c = n
    · subst hnc
      go_wp2_with (go_at_call 59; refine (may_any p D (bs, false) _ H1.out).mono ?_; rintro e w' ⟨rfl, rfl⟩)
      go_ret
      have hn : (bs.drop c).length = 0 := by rw [HDL.out]; omega
      have e : bs.length - c = 0 := by omega
      have := IsT.of_set0 (D := D) (bs := bs.drop c) (A := some ⟨g, o, none⟩) (c := 0) K1.out (by omega) (Nat.zero_le _) (by rw [List.eq_nil_of_length_eq_zero hn]; exact Rd.nil) (by omega) HD.out HB6.out (.inr ⟨_, _, rfl⟩)
      rw [hn] at this
      try rw [e]
      exact ⟨rfl, this.1, (HF.out.mono (Nat.le_refl _) (by simp) (by simp)).trans this.2⟩
    · have hck : n < c := by omega
      clear hnc
      go_wp2_with (go_at_call 59; refine (may_any p D (bs, false) _ H1.out).mono ?_; rintro e w' ⟨rfl, rfl⟩)
      go_ret
      have := IsT.of_set0 (D := D) (bs := bs.drop n) (A := some ⟨g, o + n, none⟩) (c := c - n) K1.out (by rw [HDL.out]; omega) (by have := K3.out; omega) (by rw [HMD.out, HDL.out]; exact K4.out.drop hn (fun _ => by simp)) (fun hn a ha => by
        cases ha
        rw [HDL.out] at hn
        exact K5.out (by omega) ⟨g, o, none⟩ rfl) HD.out HB6.out (.inr ⟨_, _, rfl⟩)
      rw [HDL.out] at this
      exact ⟨rfl, this.1, (HF.out.mono (Nat.le_refl _) (by simp) (by simp)).trans this.2⟩

theorem ttext_any (p : Nat) (D : Option Nat) (s : List Nat × Bool) (b : Int) (w : World) (hT : IsT w 85 p D s) (hp : D ≠ some p) :
    Calls Try.prog 44 #[.pointer (some ⟨p, 0, none⟩), .int .i64 b] w (RetT 85 p D (.string (strOf (textT s b).1)) (textT s b).2 w) := by
  obtain ⟨n, bs, bad, hr⟩ : ∃ n bs bad, numT s 0 b = (n, (bs, bad)) := ⟨_, _, _, rfl⟩
  rw [textT_of s b hr]
  cases bad with
  | true => exact ttext_bad p D s b n bs w hT hp hr
  | false =>
    have h6 : ∀ x ∈ s.1, x < 256 := by
      obtain ⟨A, c, h1, h2, h3, h4, h5, h6, h7⟩ := hT
      exact h6
    have hg := numT_good h6 (a := 0) (b := b) (by rw [hr])
    rw [hr] at hg
    obtain ⟨_, k, _, h0, _⟩ := hg
    by_cases hn : (bs.length : Int) < n
    · rw [if_neg (by simp), if_pos hn]
      exact ttext_over p D s b n bs w hT hp hr hn
    · rw [if_neg (by simp), if_neg hn]
      obtain ⟨m, rfl⟩ : ∃ m : Nat, n = m := ⟨n.toNat, by simp only at h0; omega⟩
      rw [show (m : Int).toNat = m from by omega]
      exact ttext_in p D s b m bs w hT hp hr (by omega)
theorem mk_text {w W : World} {p : Nat} {s : List Nat × Bool} (h : Mk w p s W) (t : ByteArray) (ht : t.size ≤ 140737488351232) : Calls Try.prog 54 #[.pointer (some ⟨p, 0, none⟩), .string t] W fun e W' => e = .returned (.pointer (some ⟨p, 0, none⟩)) ∧ Mk w p (putS s (textB (natsOf t))) W' :=
  h.ret fun G hM => mtext_any p G s t W hM ht

theorem tk_text {w W : World} {p : Nat} {s : List Nat × Bool} (h : Tk w p s W) (b : Int) : Calls Try.prog 44 #[.pointer (some ⟨p, 0, none⟩), .int .i64 b] W fun e W' => e = .returned (.string (strOf (textT s b).1)) ∧ Tk w p (textT s b).2 W' :=
  h.ret fun D hT hD => ttext_any p D s b W hT hD
set_option maxRecDepth 100000 in
set_option maxHeartbeats 1000000 in
theorem rmtext_any (q : Nat) (D : Option Nat) (s : List Nat × Bool) (t : ByteArray) (w : World) (hT : IsT w 64 q D s) (hD : D ≠ some q) (ht : t.size ≤ 140737488351232) :
    Calls Try.prog 47 #[.pointer (some ⟨q, 0, none⟩), .string t] w (RetR q D (putS s (textB (natsOf t))) w) := by
  obtain ⟨i0, hi0, hz0, hz1, hz2⟩ := info_parts Try.infoByte
  have HT := Lib.hid hT
  have HD := Lib.hid hD
  clear hT hD
  go_enter Try.func47, Try.ntmps47
  go_wp2_with fail
  refine (rnum_own _ _ ⟨by omega, by omega⟩).mono ?_
  rintro e w1 ⟨v, rfl, ho, hb⟩
  have HO := Lib.hid ho
  have HB := Lib.hid hb
  have hl9 := (numB_length t.size).2
  obtain ⟨A, c, rfl, _, _, _, _⟩ := own_slice ho
  have hs1 : w.heap.size ≤ w1.heap.size := hb.size
  clear ho hb
  go_wp2_with (at_builtin
               refine Lib.wpList_append_own_string _ rfl (.tmp 7) (.tmp 8) 26 9 rfl w.heap.size 5 i0 Try.underlying26 Try.underlying9 hi0 hz0 hz1 hz2 _ _ _ rfl HO.out t rfl (by unfold maxLen; omega) (by omega) hs1 ?_
               intro v2 w2 hown2 hgrow2 _
               have f2 : Fr w.heap.size [5] [] w1 w2 := (Fr.refl w1).grown hgrow2 (fun j hj => by
                 obtain ⟨hb, cs, hc⟩ := own_block HO.out hj
                 exact ⟨hb, .inr ⟨cs, _, _, hc, by simp⟩⟩)
               have HB2 := Lib.hid (HB.out.trans (f2.below hs1) : Below w.heap.size w w2)
               have HO2 := Lib.hid hown2
               clear hown2 hgrow2 f2)
  have hbs : Bs w2 v2 (textB (natsOf t)) := by
    have h := HO2.out
    have e : (numB t.size).map u8v ++ Lib.strCells t = (textB (natsOf t)).map u8v := by
      unfold textB
      rw [List.map_append, natsOf_length]
      congr 1
      simp [Lib.strCells, natsOf]
      exact fun _ _ => rfl
    rw [e] at h
    exact Bs.own_n h
  refine (rput_any q D s v2 (textB (natsOf t)) _ (HT.out.below HB2.out) HD.out hbs (fun b hb => by
    unfold textB at hb
    rcases List.mem_append.1 hb with h | h
    · exact numB_lt _ b h
    · exact natsOf_lt t b h)).mono ?_
  intro e w3 hr
  have HR := Lib.hid (RetR.then HB2.out hr)
  obtain ⟨D', rfl, _⟩ := hr
  go_wp2
  go_end0
  exact HR.out
end Go.Proofs.Ytjgdcdojigcefaa
