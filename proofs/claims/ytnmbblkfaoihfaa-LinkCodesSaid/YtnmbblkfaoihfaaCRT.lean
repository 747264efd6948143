/- The contracts of the reference's Taker. -/
import Derived.Test.YtnmbblkfaoihfaaCObj
import Derived.Test.YtnmbblkfaoihfaaCRFst2
namespace Go.Proofs.Ytnmbblkfaoihfaa
open Go.RowKit

set_option maxRecDepth 100000 in
set_option maxHeartbeats 400000 in
theorem rtnum_bad (p : Nat) (D : Option Nat) (bs : List Nat) (a b : Int) (w : World) (hT : IsT w 103 p D (bs, true)) :
    Calls Try.prog 55 #[.pointer (some ⟨p, 0, none⟩), .int .i64 a, .int .i64 b] w (RetT 103 p D (.int .i64 0) (bs, true) w) := by
  have HT := Lib.hid hT
  obtain ⟨A, c, h1, _⟩ := hT
  have c1 : w.cell? ⟨p, 1, none⟩ = some (.bool true) := cell_at h1 1
  clear h1
  go_enter Try.func55, Try.ntmps55
  go_wp2
  go_ret
  exact ⟨rfl, HT.out, Fr.refl _⟩

set_option maxRecDepth 100000 in
set_option maxHeartbeats 1000000 in
theorem rtnum_none (p : Nat) (D : Option Nat) (bs : List Nat) (a b : Int) (w : World) (hT : IsT w 103 p D (bs, false)) (hp : D ≠ some p) (hf : firstN bs = none) :
    Calls Try.prog 55 #[.pointer (some ⟨p, 0, none⟩), .int .i64 a, .int .i64 b] w (RetT 103 p D (.int .i64 0) (bs, true) w) := by
  have HT := Lib.hid hT
  have HV := Lib.hid (rfstV_none hf)
  have HD := Lib.hid hp
  obtain ⟨A, c, h1, h2, h3, h4, h5, h6, h7⟩ := hT
  simp only at h1 h2 h3 h4 h5 h6 h7
  have c0 : w.cell? ⟨p, 0, none⟩ = some (.slice A bs.length c) := cell_at h1 0
  have c1 : w.cell? ⟨p, 1, none⟩ = some (.bool false) := cell_at h1 1
  have H1 := Lib.hid h1
  have H4 := Lib.hid h4
  have H6 := Lib.hid h6
  have H3 := Lib.hid h3
  have H57 := Lib.hid (And.intro h5 h7)
  clear h1 h3 h4 h5 h6 h7 hf hp
  go_enter Try.func55, Try.ntmps55
  go_wp2_with fail
  refine (rfirst_any A c bs _ H4.out H6.out h2 H3.out).mono ?_
  rintro e w1 ⟨rfl, hb1⟩
  rw [HV.out]
  have hp1 := (Fr.of_below (B := 0) (T := []) (S := []) hb1).keep0 H1.out (by simp)
  have d1 : w1.cell? ⟨p, 1, none⟩ = some (.bool false) := cell_at hp1 1
  have d2 := frozen_at hp1 1
  have HF := Lib.hid (IsT.of_set1 hp1 h2 H3.out (H4.out.below hb1) H57.out.1 HD.out H6.out H57.out.2 true)
  have HB1 := Lib.hid hb1
  clear hb1 c0 c1 hp1
  go_wp2
  go_ret
  exact ⟨rfl, HF.out.1, (Fr.of_below HB1.out).trans HF.out.2⟩

set_option maxRecDepth 100000 in
set_option maxHeartbeats 1000000 in
theorem rtnum_out (p : Nat) (D : Option Nat) (bs : List Nat) (a b n : Int) (k : Nat) (w : World) (hT : IsT w 103 p D (bs, false)) (hp : D ≠ some p) (hf : firstN bs = some (n, k)) (ho : n < a ∨ b < n) :
    Calls Try.prog 55 #[.pointer (some ⟨p, 0, none⟩), .int .i64 a, .int .i64 b] w (RetT 103 p D (.int .i64 0) (bs, true) w) := by
  have HT := Lib.hid hT
  have HV := Lib.hid (rfstV_some hf)
  have HD := Lib.hid hp
  obtain ⟨A, c, h1, h2, h3, h4, h5, h6, h7⟩ := hT
  simp only at h1 h2 h3 h4 h5 h6 h7
  have hk3 : ((k : Int) == 0) = false := by have := (firstN_some h6 hf).2.2.1; rw [beq_eq_false_iff_ne]; omega
  have c0 : w.cell? ⟨p, 0, none⟩ = some (.slice A bs.length c) := cell_at h1 0
  have c1 : w.cell? ⟨p, 1, none⟩ = some (.bool false) := cell_at h1 1
  have H1 := Lib.hid h1
  have H4 := Lib.hid h4
  have H6 := Lib.hid h6
  have H3 := Lib.hid h3
  have H57 := Lib.hid (And.intro h5 h7)
  clear h1 h3 h4 h5 h6 h7 hf hp
  by_cases hlt : n < a
  all_goals
    go_enter Try.func55, Try.ntmps55
    go_wp2_with fail
    refine (rfirst_any A c bs _ H4.out H6.out h2 H3.out).mono ?_
    rintro e w1 ⟨rfl, hb1⟩
    rw [HV.out]
    have hp1 := (Fr.of_below (B := 0) (T := []) (S := []) hb1).keep0 H1.out (by simp)
    have d1 : w1.cell? ⟨p, 1, none⟩ = some (.bool false) := cell_at hp1 1
    have d2 := frozen_at hp1 1
    have HF := Lib.hid (IsT.of_set1 hp1 h2 H3.out (H4.out.below hb1) H57.out.1 HD.out H6.out H57.out.2 true)
    have HB1 := Lib.hid hb1
    clear hb1 c0 c1 hp1
    go_wp2
    go_ret
    exact ⟨rfl, HF.out.1, (Fr.of_below HB1.out).trans HF.out.2⟩

set_option maxRecDepth 100000 in
set_option maxHeartbeats 1000000 in
theorem rtnum_in (p : Nat) (D : Option Nat) (bs : List Nat) (a b n : Int) (k : Nat) (w : World) (hT : IsT w 103 p D (bs, false)) (hp : D ≠ some p) (hf : firstN bs = some (n, k)) (ha : a ≤ n) (hnb : n ≤ b) :
    Calls Try.prog 55 #[.pointer (some ⟨p, 0, none⟩), .int .i64 a, .int .i64 b] w (RetT 103 p D (.int .i64 n) (bs.drop k, false) w) := by
  have HV := Lib.hid (rfstV_some hf)
  have HD := Lib.hid hp
  obtain ⟨A, c, h1, h2, h3, h4, h5, h6, h7⟩ := hT
  simp only at h1 h2 h3 h4 h5 h6 h7
  obtain ⟨_, _, hk1, hk2⟩ := firstN_some h6 hf
  obtain ⟨g, o, rfl, hg, _⟩ := h4.2 (by omega)
  have hk3 : ((k : Int) == 0) = false := by rw [beq_eq_false_iff_ne]; omega
  have c0 : w.cell? ⟨p, 0, none⟩ = some (.slice (some ⟨g, o, none⟩) bs.length c) := cell_at h1 0
  have c1 : w.cell? ⟨p, 1, none⟩ = some (.bool false) := cell_at h1 1
  have hm : c ≤ 9223372036854775807 := by unfold maxLen at h3; omega
  have H1 := Lib.hid h1
  have H4 := Lib.hid h4
  have H5 := Lib.hid h5
  have H6 := Lib.hid h6
  have H3 := Lib.hid h3
  have hdl : (bs.drop k).length = bs.length - k := by simp
  have HDL := Lib.hid hdl
  have hmd : (bs.drop k).map u8v = (bs.map u8v).drop (k * 1) := by simp
  have HMD := Lib.hid hmd
  have HB6 := Lib.hid (fun x hx => h6 x (List.mem_of_mem_drop (i := k) hx))
  clear h1 h3 h4 h5 h6 h7 hf hp hg hdl hmd
  by_cases hkc : c = k
  · subst hkc
    have hfull : bs.length = c := by omega
    have HFU := Lib.hid hfull
    clear hfull
    go_enter Try.func55, Try.ntmps55
    go_wp2_with fail
    refine (rfirst_any (some ⟨g, o, none⟩) c bs _ H4.out H6.out h2 H3.out).mono ?_
    rintro e w1 ⟨rfl, hb1⟩
    rw [HV.out]
    have hp1 := (Fr.of_below (B := 0) (T := []) (S := []) hb1).keep0 H1.out (by simp)
    have c0 : w1.cell? ⟨p, 0, none⟩ = some (.slice (some ⟨g, o, none⟩) bs.length c) := cell_at hp1 0
    have c1 := frozen_at hp1 0
    have HP1 := Lib.hid hp1
    have HB1 := Lib.hid hb1
    clear hb1 hp1
    go_wp2_with fail
    go_ret
    have hn : (bs.drop c).length = 0 := by rw [HDL.out]; omega
    have := IsT.of_set0 (D := D) (bs := bs.drop c) (A := some ⟨g, o, none⟩) (c := 0) HP1.out (by omega) (Nat.zero_le _) (by rw [List.eq_nil_of_length_eq_zero hn]; exact Rd.nil) (by omega) HD.out HB6.out (.inr ⟨_, _, rfl⟩)
    rw [hn] at this
    have e : bs.length - c = 0 := by omega
    try rw [e]
    exact ⟨rfl, this.1, (Fr.of_below HB1.out).trans this.2⟩
  · have hck : k < c := by omega
    clear hkc
    go_enter Try.func55, Try.ntmps55
    go_wp2_with fail
    refine (rfirst_any (some ⟨g, o, none⟩) c bs _ H4.out H6.out h2 H3.out).mono ?_
    rintro e w1 ⟨rfl, hb1⟩
    rw [HV.out]
    have hp1 := (Fr.of_below (B := 0) (T := []) (S := []) hb1).keep0 H1.out (by simp)
    have c0 : w1.cell? ⟨p, 0, none⟩ = some (.slice (some ⟨g, o, none⟩) bs.length c) := cell_at hp1 0
    have c1 := frozen_at hp1 0
    have HP1 := Lib.hid hp1
    have HB1 := Lib.hid hb1
    clear hb1 hp1
    go_wp2_with fail
    go_ret
    have hr1 := H4.out.below (HB1.out.mono (Nat.le_refl _))
    have := IsT.of_set0 (D := D) (bs := bs.drop k) (A := some ⟨g, o + k, none⟩) (c := c - k) HP1.out (by rw [HDL.out]; omega) (by have := H3.out; omega) (by rw [HMD.out, HDL.out]; exact hr1.drop hk2 (fun _ => by simp)) (fun hn a ha => by
      cases ha
      exact H5.out (by omega) ⟨g, o, none⟩ rfl) HD.out HB6.out (.inr ⟨_, _, rfl⟩)
    rw [HDL.out] at this
    exact ⟨rfl, this.1, (Fr.of_below HB1.out).trans this.2⟩

theorem rtnum_any (p : Nat) (D : Option Nat) (s : List Nat × Bool) (a b : Int) (w : World) (hT : IsT w 103 p D s) (hp : D ≠ some p) :
    Calls Try.prog 55 #[.pointer (some ⟨p, 0, none⟩), .int .i64 a, .int .i64 b] w (RetT 103 p D (.int .i64 (numT s a b).1) (numT s a b).2 w) := by
  obtain ⟨bs, bad⟩ := s
  cases bad with
  | true => rw [numT_bad rfl]; exact rtnum_bad p D bs a b w hT
  | false =>
    cases hf : firstN bs with
    | none => rw [numT_none rfl hf]; exact rtnum_none p D bs a b w hT hp hf
    | some q =>
      obtain ⟨n, k⟩ := q
      by_cases ho : n < a ∨ b < n
      · rw [numT_out rfl hf ho]; exact rtnum_out p D bs a b n k w hT hp hf ho
      · rw [numT_in rfl hf (by omega) (by omega)]; exact rtnum_in p D bs a b n k w hT hp hf (by omega) (by omega)

end Go.Proofs.Ytnmbblkfaoihfaa
