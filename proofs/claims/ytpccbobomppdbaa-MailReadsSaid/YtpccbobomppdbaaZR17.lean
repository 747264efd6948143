/- Joined: The contracts of the reference's Maker. Text, of makers and takers and of the reference's maker. What a maker's call keeps beside; the iterator over lists whose goods are short. -/
import Derived.Test.YtpccbobomppdbaaZR16
import Derived.Test.YtpccbobomppdbaaZR3
import Derived.Test.YtpccbobomppdbaaZR7
namespace Go.Proofs.Ytpccbobomppdbaa
open Go.RowKit

theorem Bs.rd' {w : World} {A : Option Addr} {n c : Nat} {bs : List Nat} (h : Bs w (.slice A n c) bs) : Rd w 1 A n (bs.map u8v) := by
  obtain ⟨A', c', h1, _, _, h4⟩ := h
  injection h1 with e1 e2 e3
  subst e1; subst e2
  exact h4
/-- What a call of the reference's maker leaves. -/
def RetR (q : Nat) (D : Option Nat) (s : List Nat × Bool) (w : World) (e : Ending) (w' : World) : Prop :=
  ∃ D', e = .returned (.tuple #[]) ∧ IsT w' 75 q D' s ∧ D' ≠ some q ∧ (D' = D ∨ ∀ g, D' = some g → w.heap.size ≤ g ∧ g < w'.heap.size) ∧ Fr 0 [] [q] w w'

set_option maxRecDepth 100000 in
set_option maxHeartbeats 1000000 in
theorem rput_over (q : Nat) (D : Option Nat) (s : List Nat × Bool) (v : Value) (bs : List Nat) (w : World) (hT : IsT w 75 q D s) (hD : D ≠ some q) (hv : Bs w v bs) (hl : s.2 = true ∨ 262144 - (s.1.length : Int) < bs.length) :
    Calls Try.prog 73 #[.pointer (some ⟨q, 0, none⟩), v] w (RetR q D (s.1, true) w) := by
  obtain ⟨rs, lg⟩ := s
  obtain ⟨A, c, h1, h2, h3, h4, h5, h6, h7⟩ := hT
  simp only at h1 h2 h3 h4 h5 h6 h7 hl
  have c0 : w.cell? ⟨q, 0, none⟩ = some (.slice A rs.length c) := cell_at h1 0
  have c1 : w.cell? ⟨q, 1, none⟩ = some (.bool lg) := cell_at h1 1
  have c2 := frozen_at h1 1
  have hm : c ≤ 9223372036854775807 := by unfold maxLen at h3; omega
  obtain ⟨Av, cv, rfl, k1, k2, _⟩ := hv
  have km : cv ≤ 9223372036854775807 := by unfold maxLen at k2; omega
  have HF := Lib.hid (IsT.of_set1 h1 h2 h3 h4 h5 hD h6 h7 true)
  have HD := Lib.hid hD
  clear h1 h3 h4 h5 h6 h7 hD k2
  cases lg
  · have hl' : 262144 - (rs.length : Int) < bs.length := by simpa using hl
    clear hl
    go_enter Try.func73, Try.ntmps73
    go_wp2
    go_end0
    exact ⟨D, rfl, HF.out.1, HD.out, .inl rfl, HF.out.2⟩
  · clear hl
    go_enter Try.func73, Try.ntmps73
    go_wp2
    go_end0
    exact ⟨D, rfl, HF.out.1, HD.out, .inl rfl, HF.out.2⟩

set_option maxRecDepth 100000 in
set_option maxHeartbeats 2000000 in
theorem rput_room (q : Nat) (D : Option Nat) (rs : List Nat) (v : Value) (bs : List Nat) (w : World) (hT : IsT w 75 q D (rs, false)) (hv : Bs w v bs) (hb : ∀ b ∈ bs, b < 256) (hl : ¬ 262144 - (rs.length : Int) < bs.length) :
    Calls Try.prog 73 #[.pointer (some ⟨q, 0, none⟩), v] w (RetR q D (rs ++ bs, false) w) := by
  obtain ⟨i0, hi0, hz0, hz1, hz2⟩ := info_parts Try.infoByte
  obtain ⟨A, c, h1, h2, h3, h4, h5, h6, h7⟩ := hT
  simp only at h1 h2 h3 h4 h5 h6 h7 hl
  have c0 : w.cell? ⟨q, 0, none⟩ = some (.slice A rs.length c) := cell_at h1 0
  have c1 : w.cell? ⟨q, 1, none⟩ = some (.bool false) := cell_at h1 1
  have HV := Lib.hid hv
  obtain ⟨Av, cv, rfl, k1, k2, _⟩ := hv
  have hdec : decide (262144 - (rs.length : Int) < (bs.length : Int)) = false := by simpa using hl
  have hsum : rs.length + bs.length ≤ 262144 := by omega
  have H1 := Lib.hid h1
  have H4 := Lib.hid h4
  have H6 := Lib.hid (And.intro h6 hb)
  have HOwn := Lib.hid (own_of_cells w #[] 0 (Nat.zero_le _) rfl)
  have hq := lt_of_block h1
  have b0 : Below w.heap.size w (w.alloc (.cells #[] 5)) := (Below.refl _ _).alloc (Nat.le_refl _) _
  have HB0 := Lib.hid b0
  have e1 := cell_at ((b0.block q hq).trans h1) 0
  clear h1 h3 h4 h5 h6 h7 k2 hb b0
  go_enter Try.func73, Try.ntmps73
  go_wp2_with (first
    | (at_builtin
       refine wpList_append_rd _ rfl (.tmp 23) (.tmp 27) 31 rfl w.heap.size 5 i0 (.int .u8 0) 1 1 Try.underlying31 hi0 hz0 hz1 hz2 rfl (by decide) (.slice (some ⟨w.heap.size, 0, none⟩) 0 0) 0 [] rfl HOwn.out A rs.length c (rs.map u8v) rfl (H4.out.below HB0.out) (u8_one' _) (by unfold maxLen; omega) (by omega) (by simp) ?_
       intro v2 w2 hown2 hgrow2 _
       have HO2 := Lib.hid hown2
       have hG2 := Fr.grown (B := w.heap.size) (T := [5]) (S := []) ((Fr.refl w).alloc (.cells #[] 5)) hgrow2 (fun j hj => by
         simp [Value.ownBlock] at hj
         subst hj
         exact ⟨Nat.le_refl _, .inr ⟨_, _, _, block_new _ _, by simp⟩⟩)
       have HB2 := Lib.hid (hG2.below (Nat.le_refl _))
       have hs2 : w.heap.size ≤ w2.heap.size := hG2.size
       clear hown2 hgrow2 hG2)
    | (at_builtin
       refine wpList_append_rd _ rfl (.tmp 28) (.tmp 29) 31 rfl w.heap.size 5 i0 (.int .u8 0) 1 1 Try.underlying31 hi0 hz0 hz1 hz2 rfl (by decide) _ _ _ rfl HO2.out Av bs.length cv (bs.map u8v) rfl (HV.out.rd'.below HB2.out) (u8_one' _) (by unfold maxLen; omega) (by omega) hs2 ?_
       intro v3 w3 hown3 hgrow3 _
       obtain ⟨A3, c3, rfl, g1, g2, g3, g4⟩ := own_slice hown3
       have f3 : Fr w.heap.size [5] [] w2 w3 := (Fr.refl w2).grown hgrow3 (fun j hj => by
         obtain ⟨hb, cs, hc⟩ := own_block HO2.out hj
         exact ⟨hb, .inr ⟨cs, _, _, hc, by simp⟩⟩)
       have HB3 := Lib.hid (HB2.out.trans (f3.below hs2) : Below w.heap.size w w3)
       have hq3 := (HB3.out.block q hq).trans H1.out
       have d0 : w3.cell? ⟨q, 0, none⟩ = some (.slice A rs.length c) := cell_at hq3 0
       have d2 := frozen_at hq3 0
       have HQ3 := Lib.hid hq3
       have HO3 := Lib.hid hown3
       have HG := Lib.hid (And.intro g2 (And.intro g3 g4))
       clear hown3 hgrow3 g2 g3 g4 f3 hq3))
  go_end0
  have hlen : 0 + rs.length + bs.length = (rs ++ bs).length := by simp
  obtain ⟨g2, g3, g4⟩ := HG.out
  have hfresh : ∀ d, (Value.slice A3 (0 + rs.length + bs.length) c3).ownBlock = some d → w.heap.size ≤ d ∧ d < w3.heap.size := fun d hd => by
    obtain ⟨h, cs, hc⟩ := own_block HO3.out hd
    exact ⟨h, lt_of_block hc⟩
  have hne : (Value.slice A3 (0 + rs.length + bs.length) c3).ownBlock ≠ some q := fun h => by have := hfresh q h; omega
  have hfin := IsT.of_set0 (T := 75) (D := (Value.slice A3 (0 + rs.length + bs.length) c3).ownBlock) (bs := rs ++ bs) (A := A3) (c := c3) HQ3.out (by rw [← hlen]; exact g1) g2 (by
    rw [← hlen, List.map_append]
    simpa using g3) (fun _ a ha => (g4 a ha).1) hne (fun b hb => by
    rcases List.mem_append.1 hb with h | h
    · exact H6.out.1 b h
    · exact H6.out.2 b h) (SlA.of_own HO3.out)
  rw [← hlen] at hfin
  simp only [Nat.zero_add] at hfin hne hfresh
  exact ⟨_, rfl, hfin.1, hne, .inr (fun g hg => ⟨(hfresh g hg).1, by have := (hfresh g hg).2; simpa [World.setCell] using this⟩), (Fr.of_below HB3.out).trans hfin.2⟩

theorem rput_any (q : Nat) (D : Option Nat) (s : List Nat × Bool) (v : Value) (bs : List Nat) (w : World) (hT : IsT w 75 q D s) (hD : D ≠ some q) (hv : Bs w v bs) (hb : ∀ b ∈ bs, b < 256) :
    Calls Try.prog 73 #[.pointer (some ⟨q, 0, none⟩), v] w (RetR q D (putS s bs) w) := by
  by_cases h1 : s.2 = true
  · rw [putS_long h1]; exact rput_over q D s v bs w hT hD hv (.inl h1)
  · by_cases h2 : 262144 - (s.1.length : Int) < bs.length
    · rw [putS_over h2]; exact rput_over q D s v bs w hT hD hv (.inr h2)
    · have h3 : s.2 = false := by simpa using h1
      rw [putS_fits h3 h2]
      obtain ⟨rs, lg⟩ := s
      simp only at h3
      subst h3
      exact rput_room q D rs v bs w hT hv hb h2

theorem RetR.then {q : Nat} {D : Option Nat} {s : List Nat × Bool} {w w1 w' : World} {e : Ending} (hb : Below w.heap.size w w1) (h : RetR q D s w1 e w') : RetR q D s w e w' := by
  obtain ⟨D', he, hT, hD, hg, hf⟩ := h
  refine ⟨D', he, hT, hD, ?_, (Fr.of_below hb).trans hf⟩
  rcases hg with h | h
  · exact .inl h
  · exact .inr fun g hg => ⟨Nat.le_trans hb.size (h g hg).1, (h g hg).2⟩

set_option maxHeartbeats 400000 in
theorem rmnum_any (q : Nat) (D : Option Nat) (s : List Nat × Bool) (n : Int) (w : World) (hT : IsT w 75 q D s) (hD : D ≠ some q) (hn : I64 n) :
    Calls Try.prog 44 #[.pointer (some ⟨q, 0, none⟩), .int .i64 n] w (RetR q D (putS s (numB n)) w) := by
  have HT := Lib.hid hT
  have HD := Lib.hid hD
  clear hT hD
  go_enter Try.func44, Try.ntmps44
  go_wp2_with fail
  refine (rnum_any n _ hn).mono ?_
  rintro e w1 ⟨v, rfl, hv, hb⟩
  have HV := Lib.hid hv
  have HB := Lib.hid hb
  clear hv hb
  go_wp2_with fail
  refine (rput_any q D s v (numB n) _ (HT.out.below HB.out) HD.out HV.out (numB_lt n)).mono ?_
  intro e w2 hr
  have HR := Lib.hid (RetR.then HB.out hr)
  obtain ⟨D', rfl, _⟩ := hr
  go_wp2
  go_end0
  exact HR.out

end Go.Proofs.Ytpccbobomppdbaa

namespace Go.Proofs.Ytpccbobomppdbaa
open Go.RowKit

set_option maxRecDepth 100000 in
set_option maxHeartbeats 400000 in
theorem mtext_any (p : Nat) (G : Option Nat) (s : List Nat × Bool) (t : ByteArray) (w : World) (hM : IsM w p G s) (ht : t.size ≤ 140737488351232) :
    Calls Try.prog 22 #[.pointer (some ⟨p, 0, none⟩), .string t] w (RetM p G (putS s (textB (natsOf t))) w) := by
  have HM := Lib.hid hM
  clear hM
  go_enter Try.func22, Try.ntmps22
  go_wp2_with fail
  refine (num_any _ _ ⟨by omega, by omega⟩).mono ?_
  rintro e w1 ⟨v, rfl, hv, hb⟩
  obtain ⟨k, W, hrun, hbs, hbW, hWs⟩ := str_bytes w1 t (by unfold maxLen; omega)
  have HV := Lib.hid hv
  have HB := Lib.hid hb
  have HS := Lib.hid hbs
  have HW := Lib.hid hbW
  obtain ⟨A, c, rfl, _, _, _⟩ := hv
  clear hb hbs hbW hWs
  go_wp2_with fail
  have b1 : Below w.heap.size w W := HB.out.trans (HW.out.mono HB.out.size)
  have hb2 := b1.alloc b1.size (.cells #[.slice A (numB t.size).length c, .slice (some ⟨w1.heap.size, 0, none⟩) t.size k] 31)
  have hlen := (numB_length t.size).2
  refine (put_any p G s _ [numB t.size, natsOf t] _ (HM.out.below hb2) (Bss.two (HV.out.below HW.out) HS.out) (by simp [natsOf_length]; omega)).mono ?_
  rintro e w2 ⟨G', rfl, hM2, hf, hG⟩
  have HM2 := Lib.hid hM2
  have HF := Lib.hid hf
  have HG := Lib.hid hG
  have HB2 := Lib.hid hb2
  clear hM2 hf hG hb2 b1
  go_wp2
  go_ret
  refine ⟨G', rfl, ?_, (Fr.of_below HB2.out).trans HF.out, ?_⟩
  · have := HM2.out
    simpa [textB, natsOf_length] using this
  · rcases HG.out with h | ⟨g, h, hg⟩
    · exact .inl h
    · exact .inr ⟨g, h, Nat.le_trans HB2.out.size hg⟩

set_option maxRecDepth 100000 in
set_option maxHeartbeats 400000 in
theorem mtext_nil (t : ByteArray) (w : World) (ht : t.size ≤ 140737488351232) :
    Calls Try.prog 22 #[.pointer none, .string t] w fun e w' => e = .returned (.pointer none) ∧ Below w.heap.size w w' := by
  go_enter Try.func22, Try.ntmps22
  go_wp2_with fail
  refine (num_any _ _ ⟨by omega, by omega⟩).mono ?_
  rintro e w1 ⟨v, rfl, ⟨A, c, rfl, _, _, _⟩, hb⟩
  obtain ⟨k, W, hrun, _, hbW, _⟩ := str_bytes w1 t (by unfold maxLen; omega)
  have HB := Lib.hid hb
  have HW := Lib.hid hbW
  clear hb hbW
  go_wp2_with fail
  refine (put_nil _ _).mono ?_
  rintro e w2 ⟨rfl, rfl⟩
  go_wp2
  go_ret
  have b1 : Below w.heap.size w W := HB.out.trans (HW.out.mono HB.out.size)
  exact ⟨rfl, b1.alloc b1.size _⟩

theorem textT_of (s : List Nat × Bool) (most : Int) {n : Int} {bs : List Nat} {bad : Bool} (h : numT s 0 most = (n, (bs, bad))) :
    textT s most = if bad = true then ([], (bs, bad)) else if (bs.length : Int) < n then ([], (bs, true)) else (bs.take n.toNat, (bs.drop n.toNat, false)) := by
  unfold textT; rw [h]

set_option maxHeartbeats 400000 in
theorem ttext_nil (b : Int) (w : World) : Calls Try.prog 40 #[.pointer none, .int .i64 b] w fun e w' => e = .returned (.string (strOf [])) ∧ w = w' := by
  go_enter Try.func40, Try.ntmps40
  go_wp2_with fail
  refine (tnum_nil _ _ _).mono ?_
  rintro e w' ⟨rfl, rfl⟩
  go_wp2_with (go_at_call 69; refine (may_nil _).mono ?_; rintro e w' ⟨rfl, rfl⟩)
  go_ret
  exact ⟨rfl, rfl⟩

set_option maxRecDepth 100000 in
set_option maxHeartbeats 1000000 in
theorem ttext_bad (p : Nat) (D : Option Nat) (s : List Nat × Bool) (b n : Int) (bs : List Nat) (w : World) (hT : IsT w 98 p D s) (hp : D ≠ some p) (hr : numT s 0 b = (n, (bs, true))) :
    Calls Try.prog 40 #[.pointer (some ⟨p, 0, none⟩), .int .i64 b] w (RetT 98 p D (.string (strOf [])) (bs, true) w) := by
  have HT := Lib.hid hT
  have HD := Lib.hid hp
  have HR := Lib.hid hr
  clear hT hp hr
  go_enter Try.func40, Try.ntmps40
  go_wp2_with fail
  refine (tnum_any p D s 0 b w HT.out HD.out).mono ?_
  rintro e w1 ⟨rfl, h1, hf⟩
  rw [HR.out] at h1 ⊢
  have H1 := Lib.hid h1
  have HF := Lib.hid hf
  clear h1 hf
  go_wp2_with (go_at_call 69; refine (may_any p D (bs, true) _ H1.out).mono ?_; rintro e w' ⟨rfl, rfl⟩)
  go_ret
  exact ⟨rfl, H1.out, HF.out⟩

set_option maxRecDepth 100000 in
set_option maxHeartbeats 1000000 in
theorem ttext_over (p : Nat) (D : Option Nat) (s : List Nat × Bool) (b n : Int) (bs : List Nat) (w : World) (hT : IsT w 98 p D s) (hp : D ≠ some p) (hr : numT s 0 b = (n, (bs, false))) (hn : (bs.length : Int) < n) :
    Calls Try.prog 40 #[.pointer (some ⟨p, 0, none⟩), .int .i64 b] w (RetT 98 p D (.string (strOf [])) (bs, true) w) := by
  have HT := Lib.hid hT
  have HD := Lib.hid hp
  have HR := Lib.hid hr
  clear hT hp hr
  go_enter Try.func40, Try.ntmps40
  go_wp2_with fail
  refine (tnum_any p D s 0 b w HT.out HD.out).mono ?_
  rintro e w1 ⟨rfl, h1, hf⟩
  rw [HR.out] at h1 ⊢
  have H1 := Lib.hid h1
  obtain ⟨A, c, k1, k2, k3, k4, k5, k6, k7⟩ := h1
  have c0 : w1.cell? ⟨p, 0, none⟩ = some (.slice A bs.length c) := cell_at k1 0
  have HF := Lib.hid hf
  clear k1 k2 k3 k4 k5 k6 k7 hf
  go_wp2_with (go_at_call 69; refine (may_any p D (bs, false) _ H1.out).mono ?_; rintro e w' ⟨rfl, rfl⟩)
  refine (fault_any p D (bs, false) _ H1.out HD.out).mono ?_
  rintro e w2 ⟨rfl, h2, hf2⟩
  have H2 := Lib.hid h2
  have HF2 := Lib.hid hf2
  clear h2 hf2
  go_wp2
  go_ret
  exact ⟨rfl, H2.out, (HF.out.mono (Nat.le_refl _) (by simp) (by simp)).trans HF2.out⟩

set_option maxRecDepth 100000 in
set_option maxHeartbeats 1000000 in
theorem ttext_in (p : Nat) (D : Option Nat) (s : List Nat × Bool) (b : Int) (n : Nat) (bs : List Nat) (w : World) (hT : IsT w 98 p D s) (hp : D ≠ some p) (hr : numT s 0 b = ((n : Int), (bs, false))) (hn : n ≤ bs.length) :
    Calls Try.prog 40 #[.pointer (some ⟨p, 0, none⟩), .int .i64 b] w (RetT 98 p D (.string (strOf (bs.take n))) (bs.drop n, false) w) := by
  have HT := Lib.hid hT
  have HD := Lib.hid hp
  have HR := Lib.hid hr
  clear hT hp hr
  have hdl : (bs.drop n).length = bs.length - n := by simp
  have HDL := Lib.hid hdl
  have hmd : (bs.drop n).map u8v = (bs.map u8v).drop (n * 1) := by simp
  have HMD := Lib.hid hmd
  have hmt : (bs.take n).map u8v = (bs.map u8v).take (n * 1) := by simp
  have HMT := Lib.hid hmt
  clear hdl hmd hmt
  go_enter Try.func40, Try.ntmps40
  go_wp2_with fail
  refine (tnum_any p D s 0 b w HT.out HD.out).mono ?_
  rintro e w1 ⟨rfl, h1, hf⟩
  rw [HR.out] at h1 ⊢
  have H1 := Lib.hid h1
  obtain ⟨A, c, k1, k2, k3, k4, k5, k6, k7⟩ := h1
  simp only at k1 k2 k3 k4 k5 k6 k7
  have c0 : w1.cell? ⟨p, 0, none⟩ = some (.slice A bs.length c) := cell_at k1 0
  have c1 := frozen_at k1 0
  have hm : c ≤ 9223372036854775807 := by unfold maxLen at k3; omega
  have hs0 := run_str w1 A n c (bs.take n) (by rw [HMT.out]; exact k4.take hn) (fun x hx => k6 x (List.mem_of_mem_take hx))
  have HF := Lib.hid hf
  have K1 := Lib.hid k1
  have K4 := Lib.hid k4
  have K5 := Lib.hid k5
  have K3 := Lib.hid k3
  have HB6 := Lib.hid (fun x hx => k6 x (List.mem_of_mem_drop (i := n) hx))
  clear k1 k3 k4 k5 k6 hf
  rcases k7 with rfl | ⟨g, o, rfl⟩
  · obtain rfl : n = 0 := by omega
    have hb0 : bs.length ≤ 0 := k2
    have hn : (bs.drop 0).length = 0 := by rw [HDL.out]; omega
    have hfin := IsT.of_set0 (D := D) (bs := bs.drop 0) (A := A) (c := 0) K1.out (by omega) (Nat.zero_le _) (by rw [List.eq_nil_of_length_eq_zero hn]; exact Rd.nil) (by omega) HD.out HB6.out (.inl rfl)
    rw [hn] at hfin
    have HFin := Lib.hid hfin
    clear hfin hn
    cases A
    all_goals
      go_wp2_with (go_at_call 69; refine (may_any p D (bs, false) _ H1.out).mono ?_; rintro e w' ⟨rfl, rfl⟩)
      go_ret
      exact ⟨rfl, HFin.out.1, (HF.out.mono (Nat.le_refl _) (by simp) (by simp)).trans HFin.out.2⟩
  · by_cases hnc : c = n
    · subst hnc
      go_wp2_with (go_at_call 69; refine (may_any p D (bs, false) _ H1.out).mono ?_; rintro e w' ⟨rfl, rfl⟩)
      go_ret
      have hn : (bs.drop c).length = 0 := by rw [HDL.out]; omega
      have e : bs.length - c = 0 := by omega
      have := IsT.of_set0 (D := D) (bs := bs.drop c) (A := some ⟨g, o, none⟩) (c := 0) K1.out (by omega) (Nat.zero_le _) (by rw [List.eq_nil_of_length_eq_zero hn]; exact Rd.nil) (by omega) HD.out HB6.out (.inr ⟨_, _, rfl⟩)
      rw [hn] at this
      try rw [e]
      exact ⟨rfl, this.1, (HF.out.mono (Nat.le_refl _) (by simp) (by simp)).trans this.2⟩
    · have hck : n < c := by omega
      clear hnc
      go_wp2_with (go_at_call 69; refine (may_any p D (bs, false) _ H1.out).mono ?_; rintro e w' ⟨rfl, rfl⟩)
      go_ret
      have := IsT.of_set0 (D := D) (bs := bs.drop n) (A := some ⟨g, o + n, none⟩) (c := c - n) K1.out (by rw [HDL.out]; omega) (by have := K3.out; omega) (by rw [HMD.out, HDL.out]; exact K4.out.drop hn (fun _ => by simp)) (fun hn a ha => by
        cases ha
        rw [HDL.out] at hn
        exact K5.out (by omega) ⟨g, o, none⟩ rfl) HD.out HB6.out (.inr ⟨_, _, rfl⟩)
      rw [HDL.out] at this
      exact ⟨rfl, this.1, (HF.out.mono (Nat.le_refl _) (by simp) (by simp)).trans this.2⟩

theorem ttext_any (p : Nat) (D : Option Nat) (s : List Nat × Bool) (b : Int) (w : World) (hT : IsT w 98 p D s) (hp : D ≠ some p) :
    Calls Try.prog 40 #[.pointer (some ⟨p, 0, none⟩), .int .i64 b] w (RetT 98 p D (.string (strOf (textT s b).1)) (textT s b).2 w) := by
  obtain ⟨n, bs, bad, hr⟩ : ∃ n bs bad, numT s 0 b = (n, (bs, bad)) := ⟨_, _, _, rfl⟩
  rw [textT_of s b hr]
  cases bad with
  | true => exact ttext_bad p D s b n bs w hT hp hr
  | false =>
    have h6 : ∀ x ∈ s.1, x < 256 := by
      obtain ⟨A, c, h1, h2, h3, h4, h5, h6, h7⟩ := hT
      exact h6
    have hg := numT_good h6 (a := 0) (b := b) (by rw [hr])
    rw [hr] at hg
    obtain ⟨_, k, _, h0, _⟩ := hg
    by_cases hn : (bs.length : Int) < n
    · rw [if_neg (by simp), if_pos hn]
      exact ttext_over p D s b n bs w hT hp hr hn
    · rw [if_neg (by simp), if_neg hn]
      obtain ⟨m, rfl⟩ : ∃ m : Nat, n = m := ⟨n.toNat, by simp only at h0; omega⟩
      rw [show (m : Int).toNat = m from by omega]
      exact ttext_in p D s b m bs w hT hp hr (by omega)
theorem mk_text {w W : World} {p : Nat} {s : List Nat × Bool} (h : Mk w p s W) (t : ByteArray) (ht : t.size ≤ 140737488351232) : Calls Try.prog 22 #[.pointer (some ⟨p, 0, none⟩), .string t] W fun e W' => e = .returned (.pointer (some ⟨p, 0, none⟩)) ∧ Mk w p (putS s (textB (natsOf t))) W' :=
  h.ret fun G hM => mtext_any p G s t W hM ht

theorem tk_text {w W : World} {p : Nat} {s : List Nat × Bool} (h : Tk w p s W) (b : Int) : Calls Try.prog 40 #[.pointer (some ⟨p, 0, none⟩), .int .i64 b] W fun e W' => e = .returned (.string (strOf (textT s b).1)) ∧ Tk w p (textT s b).2 W' :=
  h.ret fun D hT hD => ttext_any p D s b W hT hD
set_option maxRecDepth 100000 in
set_option maxHeartbeats 1000000 in
theorem rmtext_any (q : Nat) (D : Option Nat) (s : List Nat × Bool) (t : ByteArray) (w : World) (hT : IsT w 75 q D s) (hD : D ≠ some q) (ht : t.size ≤ 140737488351232) :
    Calls Try.prog 46 #[.pointer (some ⟨q, 0, none⟩), .string t] w (RetR q D (putS s (textB (natsOf t))) w) := by
  obtain ⟨i0, hi0, hz0, hz1, hz2⟩ := info_parts Try.infoByte
  have HT := Lib.hid hT
  have HD := Lib.hid hD
  clear hT hD
  go_enter Try.func46, Try.ntmps46
  go_wp2_with fail
  refine (rnum_own _ _ ⟨by omega, by omega⟩).mono ?_
  rintro e w1 ⟨v, rfl, ho, hb⟩
  have HO := Lib.hid ho
  have HB := Lib.hid hb
  have hl9 := (numB_length t.size).2
  obtain ⟨A, c, rfl, _, _, _, _⟩ := own_slice ho
  have hs1 : w.heap.size ≤ w1.heap.size := hb.size
  clear ho hb
  go_wp2_with (at_builtin
               refine Lib.wpList_append_own_string _ rfl (.tmp 7) (.tmp 8) 31 9 rfl w.heap.size 5 i0 Try.underlying31 Try.underlying9 hi0 hz0 hz1 hz2 _ _ _ rfl HO.out t rfl (by unfold maxLen; omega) (by omega) hs1 ?_
               intro v2 w2 hown2 hgrow2 _
               have f2 : Fr w.heap.size [5] [] w1 w2 := (Fr.refl w1).grown hgrow2 (fun j hj => by
                 obtain ⟨hb, cs, hc⟩ := own_block HO.out hj
                 exact ⟨hb, .inr ⟨cs, _, _, hc, by simp⟩⟩)
               have HB2 := Lib.hid (HB.out.trans (f2.below hs1) : Below w.heap.size w w2)
               have HO2 := Lib.hid hown2
               clear hown2 hgrow2 f2)
  have hbs : Bs w2 v2 (textB (natsOf t)) := by
    have h := HO2.out
    have e : (numB t.size).map u8v ++ Lib.strCells t = (textB (natsOf t)).map u8v := by
      unfold textB
      rw [List.map_append, natsOf_length]
      congr 1
      simp [Lib.strCells, natsOf]
      exact fun _ _ => rfl
    rw [e] at h
    exact Bs.own_n h
  refine (rput_any q D s v2 (textB (natsOf t)) _ (HT.out.below HB2.out) HD.out hbs (fun b hb => by
    unfold textB at hb
    rcases List.mem_append.1 hb with h | h
    · exact numB_lt _ b h
    · exact natsOf_lt t b h)).mono ?_
  intro e w3 hr
  have HR := Lib.hid (RetR.then HB2.out hr)
  obtain ⟨D', rfl, _⟩ := hr
  go_wp2
  go_end0
  exact HR.out
end Go.Proofs.Ytpccbobomppdbaa

namespace Go.Proofs.Ytpccbobomppdbaa
open Go.RowKit Go.Shelf
attribute [local go_sem] Oper.semAt_some

theorem own_grown {w w' : World} {row : Option Nat} {base : Nat} {e : TypeId} {size n : Nat} {v : Value} {xs : List Value} (ho : w.ownsRow base e size v n xs) (hg : w.grownBy w' row) (hr : ∀ r, row = some r → ∃ o : Obj, w.heap[r]? = some o ∧ o.isCells = false) : w'.ownsRow base e size v n xs := by
  refine ho.kept hg ?_
  rcases ho.2 with ⟨rfl, _⟩ | ⟨g, cap, cur, rfl, _, hgb, _⟩
  · exact .inl rfl
  · refine .inr fun e' => ?_
    obtain ⟨o, h1, h2⟩ := hr g (by rw [← e']; simp [Value.ownBlock])
    rw [hgb] at h1
    injection h1 with h1
    subst h1
    simp [Obj.isCells] at h2
theorem block_grown {w w' : World} {row : Option Nat} {k : Nat} {cs : Array Value} {t : TypeId} {f : Nat × Nat} (h : w.heap[k]? = some (.cells cs t f)) (hg : w.grownBy w' row) (hr : ∀ r, row = some r → ∃ o : Obj, w.heap[r]? = some o ∧ o.isCells = false) : w'.heap[k]? = some (.cells cs t f) := by
  rw [hg.block _ (lt_of_block h) ?_]
  · exact h
  · intro e
    obtain ⟨o, k1, k2⟩ := hr _ e.symm
    rw [h] at k1
    injection k1 with k1
    subst k1
    simp [Obj.isCells] at k2
/-- What a maker's call keeps beside. -/
theorem mk_keep {w W : World} {p : Nat} {s s' : List Nat × Bool} {f : FuncId} {args : Array Value} (h : Mk w p s W) (hc : ∀ G, IsM W p G s → Calls Try.prog f args W (RetM p G s' W)) :
    Calls Try.prog f args W fun e W' => e = .returned (.pointer (some ⟨p, 0, none⟩)) ∧ Mk w p s' W' ∧ KeepsOthers W W' ∧ Below w.heap.size W W' ∧ ∀ (k : Nat) (cs : Array Value) (T : TypeId) (f : Nat × Nat), W.heap[k]? = some (Obj.cells cs T f) → T ≠ 88 → T ≠ 5 → W'.heap[k]? = some (Obj.cells cs T f) := by
  obtain ⟨G, h1, h2, h3, h4⟩ := h
  refine (hc G h1).mono fun e W' ⟨G', he, hM, hf, hg⟩ => ⟨he, ⟨G', hM, h2, fun g hg' => ?_, h4.trans (hf.belowM h2 h3 h4.size)⟩, ?_, hf.belowM h2 h3 h4.size, fun k cs T f hk h5 h6 => ?_⟩
  · rcases hg with e | ⟨g', e, hn⟩
    · exact h3 g (e ▸ hg')
    · rw [hg'] at e
      injection e with e
      have := h4.size
      omega
  · obtain ⟨v, hp, ho, hv⟩ := h1
    refine ⟨hf.size, fun k o hk hn => (hf.block k (lt_of_block hk) (.inr ⟨fun _ _ _ _ => by simp, fun hm => ?_⟩)).trans hk⟩
    rcases List.mem_cons.1 hm with rfl | hm
    · rw [hp] at hk
      injection hk with hk
      subst hk
      simp [Obj.isCells] at hn
    · obtain ⟨_, cs, hb⟩ := own_block ho (k := k) (by rw [hv]; simpa using hm)
      rw [hb] at hk
      injection hk with hk
      subst hk
      simp [Obj.isCells] at hn
  · obtain ⟨v, hp, ho, hv⟩ := h1
    refine hf.keep hk (by simp) fun hm => ?_
    rcases List.mem_cons.1 hm with rfl | hm
    · rw [hp] at hk
      injection hk with hk
      injection hk with _ hk
      exact h5 hk.symm
    · obtain ⟨_, cs', hb⟩ := own_block ho (k := k) (by rw [hv]; simpa using hm)
      rw [hb] at hk
      injection hk with hk
      injection hk with _ hk
      exact h6 hk.symm
theorem mkk_num {w W : World} {p : Nat} {s : List Nat × Bool} (h : Mk w p s W) (n : Int) (hn : I64 n) : Calls Try.prog 20 #[.pointer (some ⟨p, 0, none⟩), .int .i64 n] W fun e W' => e = .returned (.pointer (some ⟨p, 0, none⟩)) ∧ Mk w p (putS s (numB n)) W' ∧ KeepsOthers W W' ∧ Below w.heap.size W W' ∧ ∀ (k : Nat) (cs : Array Value) (T : TypeId) (f : Nat × Nat), W.heap[k]? = some (Obj.cells cs T f) → T ≠ 88 → T ≠ 5 → W'.heap[k]? = some (Obj.cells cs T f) :=
  mk_keep h fun G hM => mnum_any p G s n W hM hn
theorem mkk_text {w W : World} {p : Nat} {s : List Nat × Bool} (h : Mk w p s W) (t : ByteArray) (ht : t.size ≤ 140737488351232) : Calls Try.prog 22 #[.pointer (some ⟨p, 0, none⟩), .string t] W fun e W' => e = .returned (.pointer (some ⟨p, 0, none⟩)) ∧ Mk w p (putS s (textB (natsOf t))) W' ∧ KeepsOthers W W' ∧ Below w.heap.size W W' ∧ ∀ (k : Nat) (cs : Array Value) (T : TypeId) (f : Nat × Nat), W.heap[k]? = some (Obj.cells cs T f) → T ≠ 88 → T ≠ 5 → W'.heap[k]? = some (Obj.cells cs T f) :=
  mk_keep h fun G hM => mtext_any p G s t W hM ht
/-- An item whose good is short. -/
abbrev PIt : Type := { z : It // z.good.size ≤ 16 ∧ -9223372036854775808 ≤ z.n ∧ z.n ≤ 9223372036854775807 }
theorem pits_of : ∀ {rs : List It}, (∀ z ∈ rs, z.good.size ≤ 16 ∧ -9223372036854775808 ≤ z.n ∧ z.n ≤ 9223372036854775807) → ∃ qs : List PIt, qs.map (·.1) = rs
  | [], _ => ⟨[], rfl⟩
  | z :: rs, h => by
    obtain ⟨qs, hq⟩ := pits_of (fun y hy => h y (by simp [hy]) : ∀ z ∈ rs, z.good.size ≤ 16 ∧ -9223372036854775808 ≤ z.n ∧ z.n ≤ 9223372036854775807)
    exact ⟨⟨z, h z (by simp)⟩ :: qs, by simp [hq]⟩
def encRowP (z : PIt) : Array Value := #[.string z.1.good, .int .i64 z.1.n]
set_option maxRecDepth 100000 in
set_option maxHeartbeats 2000000 in
theorem all_iterP (n n₀ Bx : Nat) (A : Option Addr) (c : Nat) (rs : List It) (qs : List PIt) (hq : qs.map (·.1) = rs) (w : World) (hb : w.cell? ⟨Bx, 0, none⟩ = some (.slice A rs.length c)) (hr : Rd w 2 A rs.length (rs.flatMap encI)) (hm : rs.length ≤ 4611686018427387903) (hn : 1 ≤ n) (hA : ∀ a, A = some a → 0 < rs.length → a.block < n₀) :
    SeqStopsK Fence.wide n Try.prog 54 #[.pointer (some ⟨Bx, 0, none⟩)] encRowP (Below n₀) (fun xs => xs = qs) (fun pre => pre <+: qs) rs.length w := fun l J Jx W hW hJ hJx hY h0 => by
  have hBn := World.block_lt_of_cell? w _ hb
  have hb' : W.cell? ⟨Bx, 0, none⟩ = some (.slice A rs.length c) := (hW.cell (p := ⟨Bx, 0, none⟩) hBn).trans hb
  have HRD := Lib.hid (hr.below hW)
  have HA := Lib.hid hA
  have hql : qs.length = rs.length := by rw [← hq]; simp
  have HQA : Hid (∀ k (h1 : k < qs.length) (h2 : k < rs.length), qs[k].1 = rs[k]) := Lib.hid (fun k h1 h2 => by simp only [← hq, List.getElem_map])
  have HQL := Lib.hid hql
  clear hb hW hr hA hq hql
  refine CallsIn.mono (R := fun e W' => (∃ v, e = .returned v) ∧ ((∃ xs, xs = qs ∧ J xs W') ∨ (∃ pre : List PIt, pre <+: qs ∧ Jx pre W'))) ?_ (fun _ _ h => h)
  refine callsIn_of_wp Try.func54 rfl trivial ?_ rfl
  simp only [Try.ntmps54, List.size_toArray, List.length_cons, List.length_nil, Nat.reduceAdd, Nat.reduceSub, Array.replicate_succ, Array.replicate_zero, List.push_toArray, List.append_toArray, List.nil_append, List.cons_append]
  gi_wp2
  gi_loopw [7] (fun i wr => ∃ k : Nat, k ≤ rs.length ∧ i = .int .i64 k ∧ J (qs.take k) wr ∧ (∀ a, A = some a → ∀ o, wr.cell? ⟨a.block, o, none⟩ = W.cell? ⟨a.block, o, none⟩) ∧ W.heap.size ≤ wr.heap.size) (fun i _ => rs.length - (intOf i).toNat)
  case atStart => exact ⟨0, Nat.zero_le _, rfl, by simpa using h0, fun _ _ _ => rfl, Nat.le_refl _⟩
  case round =>
    obtain ⟨k, hk, rfl, hJk, hsame, hsz⟩ := hrel
    have HS := Lib.hid hsame
    have HJk := Lib.hid hJk
    clear hsame hJk
    by_cases hlt : k < rs.length
    · obtain ⟨g, o, rfl, hg, c0', c1'⟩ := rdi_at HRD.out hlt
      have hg0 : g < n₀ := HA.out _ rfl (by omega)
      have hkq : k < qs.length := by have := HQL.out; omega
      have c0 : wr.cell? ⟨g, o + k * 2, none⟩ = some (.string rs[k].good) := (HS.out _ rfl _).trans c0'
      have c1 : wr.cell? ⟨g, o + k * 2 + 1, none⟩ = some (.int .i64 rs[k].n) := (HS.out _ rfl _).trans c1'
      obtain ⟨x, hx⟩ : ∃ x, qs[k] = x := ⟨_, rfl⟩
      rw [← HQA.out k hkq hlt, hx] at c0 c1
      have HX := Lib.hid hx
      have hJa := hJ _ _ (wr.alloc (.cells #[.string x.1.good, .int .i64 x.1.n] 46)) none HJk.out (World.grownBy_alloc wr _ none) (by intro r e; cases e)
      obtain ⟨fn, tmps, assign, body, hy, hR⟩ := hY (qs.take k) x _ hJa (by simp; omega)
      dsimp only [encRowP] at hy
      clear c0' c1' hx
      gi_wp2
      refine hR.mono ?_
      rintro e W3 (⟨rfl, hJ3, hk3⟩ | ⟨rfl, hJx3⟩)
      · have hs3 : ∀ o', W3.cell? ⟨g, o', none⟩ = W.cell? ⟨g, o', none⟩ := fun o' => by
          rw [hk3.cell (p := ⟨g, o', none⟩) hg0, World.cell?_alloc_lt wr _ ⟨g, o', none⟩ (by simp; omega)]
          exact HS.out _ rfl o'
        have hz3 : W.heap.size ≤ W3.heap.size := by have := hk3.size; simp at this; omega
        have HS3 := Lib.hid hs3
        have HJ3 := Lib.hid hJ3
        clear hs3 hJ3 hk3
        gi_wp2
        go_roundw
        case rel =>
          refine ⟨k + 1, by omega, by go_num, ?_, fun a ha o => by cases ha; exact HS3.out o, hz3⟩
          rw [List.take_succ_eq_append_getElem hkq, HX.out]
          exact HJ3.out
        case measure => simp [intOf]; omega
      · have HJx := Lib.hid hJx3
        clear hJx3
        gi_wp2
        refine bodyPost_ret (results_none rfl _ _ _) rfl ?_
        refine ⟨⟨_, rfl⟩, .inr ⟨qs.take (k + 1), List.take_prefix _ _, ?_⟩⟩
        rw [List.take_succ_eq_append_getElem hkq, HX.out]
        exact HJx.out
    · gi_wp2
      go_end0
      refine ⟨⟨_, rfl⟩, .inl ⟨qs, rfl, ?_⟩⟩
      have := HJk.out
      rwa [List.take_of_length_le (by have := HQL.out; omega)] at this
end Go.Proofs.Ytpccbobomppdbaa
