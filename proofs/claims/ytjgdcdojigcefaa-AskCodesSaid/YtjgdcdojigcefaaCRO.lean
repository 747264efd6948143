/- The reference's maker, whose bytes are the call's own: what each call makes of it, where there is room. -/
import Derived.Test.YtjgdcdojigcefaaCText
namespace Go.Proofs.Ytjgdcdojigcefaa
open Go.RowKit

/-- The reference's maker at q, that has come since w. -/
def Mr (w : World) (q : Nat) (bs : List Nat) (W : World) : Prop := ∃ v, W.heap[q]? = some (.cells #[v, .bool false] 64 (0, 0)) ∧ W.ownsRow w.heap.size 5 1 v bs.length (bs.map u8v) ∧ w.heap.size ≤ q ∧ Below w.heap.size w W
theorem Mr.below {w W : World} {q : Nat} {bs : List Nat} (h : Mr w q bs W) : Below w.heap.size w W := by obtain ⟨_, _, _, _, h⟩ := h; exact h
theorem Mr.keep {w W W' : World} {q : Nat} {bs : List Nat} (h : Mr w q bs W) (hb : Below W.heap.size W W') : Mr w q bs W' := by
  obtain ⟨v, h1, h2, h3, h4⟩ := h
  exact ⟨v, (hb.block _ (lt_of_block h1)).trans h1, (Fr.of_below (B := 0) (T := []) (S := []) hb).own h2 (by simp) (by simp), h3, h4.trans (hb.mono h4.size)⟩
theorem Mr.new {w W : World} (hb : Below w.heap.size w W) : Mr w W.heap.size [] (W.alloc (.cells #[.slice none 0 0, .bool false] 64)) :=
  ⟨_, block_new _ _, World.ownsRow_nil _ _ _ _, hb.size, hb.alloc hb.size _⟩
set_option maxRecDepth 100000 in
set_option maxHeartbeats 2000000 in
theorem mr_put {w0 w : World} {q : Nat} {rs : List Nat} (h : Mr w0 q rs w) (v : Value) (bs : List Nat) (hv : Bs w v bs) (hl : rs.length + bs.length ≤ 262144) :
    Calls Try.prog 62 #[.pointer (some ⟨q, 0, none⟩), v] w fun e W => e = .returned (.tuple #[]) ∧ Mr w0 q (rs ++ bs) W := by
  obtain ⟨i0, hi0, hz0, hz1, hz2⟩ := info_parts Try.infoByte
  obtain ⟨vm, h1, ho, hq0, hbw⟩ := h
  obtain ⟨A, c, rfl, h2, h3, h4, _⟩ := own_slice ho
  have c0 : w.cell? ⟨q, 0, none⟩ = some (.slice A rs.length c) := cell_at h1 0
  have c1 : w.cell? ⟨q, 1, none⟩ = some (.bool false) := cell_at h1 1
  have HV := Lib.hid hv
  obtain ⟨Av, cv, rfl, k1, k2, _⟩ := hv
  have hdec : decide (262144 - (rs.length : Int) < (bs.length : Int)) = false := by simp; omega
  have hsum : rs.length + bs.length ≤ 262144 := hl
  have H1 := Lib.hid h1
  have H4 := Lib.hid h4
  have HQ0 := Lib.hid hq0
  have HBW := Lib.hid hbw
  have HOwn := Lib.hid (own_of_cells w #[] 0 (Nat.zero_le _) rfl)
  have hq := lt_of_block h1
  have b0 : Below w.heap.size w (w.alloc (.cells #[] 5)) := (Below.refl _ _).alloc (Nat.le_refl _) _
  have HB0 := Lib.hid b0
  have e1 := cell_at ((b0.block q hq).trans h1) 0
  clear h1 h3 h4 k2 b0 hl ho hq0 hbw
  go_enter Try.func62, Try.ntmps62
  go_wp2_with (first
    | (at_builtin
       refine wpList_append_rd _ rfl (.tmp 23) (.tmp 27) 26 rfl w.heap.size 5 i0 (.int .u8 0) 1 1 Try.underlying26 hi0 hz0 hz1 hz2 rfl (by decide) (.slice (some ⟨w.heap.size, 0, none⟩) 0 0) 0 [] rfl HOwn.out A rs.length c (rs.map u8v) rfl (H4.out.below HB0.out) (u8_one' _) (by unfold maxLen; omega) (by omega) (by simp) ?_
       intro v2 w2 hown2 hgrow2 _
       have HO2 := Lib.hid hown2
       have hG2 := Fr.grown (B := w.heap.size) (T := [5]) (S := []) ((Fr.refl w).alloc (.cells #[] 5)) hgrow2 (fun j hj => by
         simp [Value.ownBlock] at hj
         subst hj
         exact ⟨Nat.le_refl _, .inr ⟨_, _, _, block_new _ _, by simp⟩⟩)
       have HB2 := Lib.hid (hG2.below (Nat.le_refl _))
       have hs2 : w.heap.size ≤ w2.heap.size := hG2.size
       clear hown2 hgrow2 hG2)
    | (at_builtin
       refine wpList_append_rd _ rfl (.tmp 28) (.tmp 29) 26 rfl w.heap.size 5 i0 (.int .u8 0) 1 1 Try.underlying26 hi0 hz0 hz1 hz2 rfl (by decide) _ _ _ rfl HO2.out Av bs.length cv (bs.map u8v) rfl (HV.out.rd'.below HB2.out) (u8_one' _) (by unfold maxLen; omega) (by omega) hs2 ?_
       intro v3 w3 hown3 hgrow3 _
       obtain ⟨A3, c3, rfl, g1, g2, g3, g4⟩ := own_slice hown3
       have f3 : Fr w.heap.size [5] [] w2 w3 := (Fr.refl w2).grown hgrow3 (fun j hj => by
         obtain ⟨hb, cs, hc⟩ := own_block HO2.out hj
         exact ⟨hb, .inr ⟨cs, _, _, hc, by simp⟩⟩)
       have HB3 := Lib.hid (HB2.out.trans (f3.below hs2) : Below w.heap.size w w3)
       have hq3 := (HB3.out.block q hq).trans H1.out
       have d0 : w3.cell? ⟨q, 0, none⟩ = some (.slice A rs.length c) := cell_at hq3 0
       have d2 := frozen_at hq3 0
       have HQ3 := Lib.hid hq3
       have HO3 := Lib.hid hown3
       have HG := Lib.hid (And.intro g2 (And.intro g3 g4))
       clear hown3 hgrow3 g2 g3 g4 f3 hq3))
  go_end0
  refine ⟨rfl, .slice A3 (0 + rs.length + bs.length) c3, ?_, ?_, HQ0.out, (HBW.out.trans (HB3.out.mono HBW.out.size)).setCell (p := ⟨q, 0, none⟩) HQ0.out _⟩
  · rw [show rs.length + bs.length = 0 + rs.length + bs.length by omega, block_set HQ3.out]
    rfl
  · have fs : Fr 0 [] [q] w3 (w3.setCell ⟨q, 0, none⟩ (.slice A3 (rs.length + bs.length) c3)) := (Fr.refl w3).setCell (p := ⟨q, 0, none⟩) _ (Nat.zero_le _) (.inl (by simp))
    have hh := fs.own HO3.out (by simp) (fun k hk hm => by
      obtain ⟨hb, cs, hc⟩ := own_block HO3.out hk
      simp at hm
      omega)
    have e : (rs ++ bs).length = 0 + rs.length + bs.length := by simp
    rw [e, List.map_append]
    have h9 := hh
    simp only [List.nil_append] at h9
    refine ⟨h9.1, ?_⟩
    rcases h9.2 with h | ⟨g, cap, cur, h1, h2, h3⟩
    · exact .inl h
    · exact .inr ⟨g, cap, cur, h1, Nat.le_trans HBW.out.size h2, h3⟩
theorem mr_num {w0 w : World} {q : Nat} {rs : List Nat} (h : Mr w0 q rs w) (n : Int) (hn : I64 n) (hl : rs.length ≤ 262000) :
    Calls Try.prog 46 #[.pointer (some ⟨q, 0, none⟩), .int .i64 n] w fun e W => e = .returned (.tuple #[]) ∧ Mr w0 q (rs ++ numB n) W := by
  have H := Lib.hid h
  have h9 := (numB_length n).2
  clear h
  go_enter Try.func46, Try.ntmps46
  go_wp2_with fail
  refine (rnum_any n _ hn).mono ?_
  rintro e w1 ⟨v, rfl, hv, hb⟩
  have HV := Lib.hid hv
  have HB := Lib.hid hb
  clear hv hb
  go_wp2_with fail
  refine (mr_put (H.out.keep HB.out) v (numB n) HV.out (by omega)).mono ?_
  rintro e w2 ⟨rfl, hM⟩
  have HM := Lib.hid hM
  clear hM
  go_wp2
  go_end0
  exact ⟨rfl, HM.out⟩
set_option maxRecDepth 100000 in
set_option maxHeartbeats 1000000 in
theorem mr_text {w0 w : World} {q : Nat} {rs : List Nat} (h : Mr w0 q rs w) (t : ByteArray) (ht : t.size ≤ 200000) (hl : rs.length ≤ 50000) :
    Calls Try.prog 47 #[.pointer (some ⟨q, 0, none⟩), .string t] w fun e W => e = .returned (.tuple #[]) ∧ Mr w0 q (rs ++ textB (natsOf t)) W := by
  obtain ⟨i0, hi0, hz0, hz1, hz2⟩ := info_parts Try.infoByte
  have H := Lib.hid h
  clear h
  go_enter Try.func47, Try.ntmps47
  go_wp2_with fail
  refine (rnum_own _ _ ⟨by omega, by omega⟩).mono ?_
  rintro e w1 ⟨v, rfl, ho, hb⟩
  have HO := Lib.hid ho
  have HB := Lib.hid hb
  have hl9 := (numB_length t.size).2
  obtain ⟨A, c, rfl, _, _, _, _⟩ := own_slice ho
  have hs1 : w.heap.size ≤ w1.heap.size := hb.size
  clear ho hb
  go_wp2_with (at_builtin
               refine Lib.wpList_append_own_string _ rfl (.tmp 7) (.tmp 8) 26 9 rfl w.heap.size 5 i0 Try.underlying26 Try.underlying9 hi0 hz0 hz1 hz2 _ _ _ rfl HO.out t rfl (by unfold maxLen; omega) (by omega) hs1 ?_
               intro v2 w2 hown2 hgrow2 _
               have f2 : Fr w.heap.size [5] [] w1 w2 := (Fr.refl w1).grown hgrow2 (fun j hj => by
                 obtain ⟨hb, cs, hc⟩ := own_block HO.out hj
                 exact ⟨hb, .inr ⟨cs, _, _, hc, by simp⟩⟩)
               have HB2 := Lib.hid (HB.out.trans (f2.below hs1) : Below w.heap.size w w2)
               have HO2 := Lib.hid hown2
               clear hown2 hgrow2 f2)
  have hbs : Bs w2 v2 (textB (natsOf t)) := by
    have h := HO2.out
    have e : (numB t.size).map u8v ++ Lib.strCells t = (textB (natsOf t)).map u8v := by
      unfold textB
      rw [List.map_append, natsOf_length]
      congr 1
      simp [Lib.strCells, natsOf]
      exact fun _ _ => rfl
    rw [e] at h
    exact Bs.own_n h
  have htb : (textB (natsOf t)).length ≤ 9 + t.size := by
    unfold textB
    rw [List.length_append, natsOf_length]
    have := (numB_length (t.size : Int)).2
    omega
  refine (mr_put (H.out.keep HB2.out) v2 (textB (natsOf t)) hbs (by omega)).mono ?_
  rintro e w3 ⟨rfl, hM⟩
  have HM := Lib.hid hM
  clear hM
  go_wp2
  go_end0
  exact ⟨rfl, HM.out⟩
end Go.Proofs.Ytjgdcdojigcefaa
