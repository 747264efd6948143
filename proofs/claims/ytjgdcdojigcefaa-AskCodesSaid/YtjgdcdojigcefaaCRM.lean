/- The contracts of the reference's Maker. -/
import Derived.Test.YtjgdcdojigcefaaCObj
import Derived.Test.YtjgdcdojigcefaaCRef
namespace Go.Proofs.Ytjgdcdojigcefaa
open Go.RowKit

theorem Bs.rd' {w : World} {A : Option Addr} {n c : Nat} {bs : List Nat} (h : Bs w (.slice A n c) bs) : Rd w 1 A n (bs.map u8v) := by
  obtain ⟨A', c', h1, _, _, h4⟩ := h
  injection h1 with e1 e2 e3
  subst e1; subst e2
  exact h4
/-- What a call of the reference's maker leaves. -/
def RetR (q : Nat) (D : Option Nat) (s : List Nat × Bool) (w : World) (e : Ending) (w' : World) : Prop :=
  ∃ D', e = .returned (.tuple #[]) ∧ IsT w' 64 q D' s ∧ D' ≠ some q ∧ (D' = D ∨ ∀ g, D' = some g → w.heap.size ≤ g ∧ g < w'.heap.size) ∧ Fr 0 [] [q] w w'

set_option maxRecDepth 100000 in
set_option maxHeartbeats 1000000 in
theorem rput_over (q : Nat) (D : Option Nat) (s : List Nat × Bool) (v : Value) (bs : List Nat) (w : World) (hT : IsT w 64 q D s) (hD : D ≠ some q) (hv : Bs w v bs) (hl : s.2 = true ∨ 262144 - (s.1.length : Int) < bs.length) :
    Calls Try.prog 62 #[.pointer (some ⟨q, 0, none⟩), v] w (RetR q D (s.1, true) w) := by
  obtain ⟨rs, lg⟩ := s
  obtain ⟨A, c, h1, h2, h3, h4, h5, h6, h7⟩ := hT
  simp only at h1 h2 h3 h4 h5 h6 h7 hl
  have c0 : w.cell? ⟨q, 0, none⟩ = some (.slice A rs.length c) := cell_at h1 0
  have c1 : w.cell? ⟨q, 1, none⟩ = some (.bool lg) := cell_at h1 1
  have c2 := frozen_at h1 1
  have hm : c ≤ 9223372036854775807 := by unfold maxLen at h3; omega
  obtain ⟨Av, cv, rfl, k1, k2, _⟩ := hv
  have km : cv ≤ 9223372036854775807 := by unfold maxLen at k2; omega
  have HF := Lib.hid (IsT.of_set1 h1 h2 h3 h4 h5 hD h6 h7 true)
  have HD := Lib.hid hD
  clear h1 h3 h4 h5 h6 h7 hD k2
  cases lg
  · have hl' : 262144 - (rs.length : Int) < bs.length := by simpa using hl
    clear hl
    go_enter Try.func62, Try.ntmps62
    go_wp2
    go_end0
    exact ⟨D, rfl, HF.out.1, HD.out, .inl rfl, HF.out.2⟩
  · clear hl
    go_enter Try.func62, Try.ntmps62
    go_wp2
    go_end0
    exact ⟨D, rfl, HF.out.1, HD.out, .inl rfl, HF.out.2⟩

set_option maxRecDepth 100000 in
set_option maxHeartbeats 2000000 in
theorem rput_room (q : Nat) (D : Option Nat) (rs : List Nat) (v : Value) (bs : List Nat) (w : World) (hT : IsT w 64 q D (rs, false)) (hv : Bs w v bs) (hb : ∀ b ∈ bs, b < 256) (hl : ¬ 262144 - (rs.length : Int) < bs.length) :
    Calls Try.prog 62 #[.pointer (some ⟨q, 0, none⟩), v] w (RetR q D (rs ++ bs, false) w) := by
  obtain ⟨i0, hi0, hz0, hz1, hz2⟩ := info_parts Try.infoByte
  obtain ⟨A, c, h1, h2, h3, h4, h5, h6, h7⟩ := hT
  simp only at h1 h2 h3 h4 h5 h6 h7 hl
  have c0 : w.cell? ⟨q, 0, none⟩ = some (.slice A rs.length c) := cell_at h1 0
  have c1 : w.cell? ⟨q, 1, none⟩ = some (.bool false) := cell_at h1 1
  have HV := Lib.hid hv
  obtain ⟨Av, cv, rfl, k1, k2, _⟩ := hv
  have hdec : decide (262144 - (rs.length : Int) < (bs.length : Int)) = false := by simpa using hl
  have hsum : rs.length + bs.length ≤ 262144 := by omega
  have H1 := Lib.hid h1
  have H4 := Lib.hid h4
  have H6 := Lib.hid (And.intro h6 hb)
  have HOwn := Lib.hid (own_of_cells w #[] 0 (Nat.zero_le _) rfl)
  have hq := lt_of_block h1
  have b0 : Below w.heap.size w (w.alloc (.cells #[] 5)) := (Below.refl _ _).alloc (Nat.le_refl _) _
  have HB0 := Lib.hid b0
  have e1 := cell_at ((b0.block q hq).trans h1) 0
  clear h1 h3 h4 h5 h6 h7 k2 hb b0
  go_enter Try.func62, Try.ntmps62
  go_wp2_with (first
    | (at_builtin
       refine wpList_append_rd _ rfl (.tmp 23) (.tmp 27) 26 rfl w.heap.size 5 i0 (.int .u8 0) 1 1 Try.underlying26 hi0 hz0 hz1 hz2 rfl (by decide) (.slice (some ⟨w.heap.size, 0, none⟩) 0 0) 0 [] rfl HOwn.out A rs.length c (rs.map u8v) rfl (H4.out.below HB0.out) (u8_one' _) (by unfold maxLen; omega) (by omega) (by simp) ?_
       intro v2 w2 hown2 hgrow2 _
       have HO2 := Lib.hid hown2
       have hG2 := Fr.grown (B := w.heap.size) (T := [5]) (S := []) ((Fr.refl w).alloc (.cells #[] 5)) hgrow2 (fun j hj => by
         simp [Value.ownBlock] at hj
         subst hj
         exact ⟨Nat.le_refl _, .inr ⟨_, _, _, block_new _ _, by simp⟩⟩)
       have HB2 := Lib.hid (hG2.below (Nat.le_refl _))
       have hs2 : w.heap.size ≤ w2.heap.size := hG2.size
       clear hown2 hgrow2 hG2)
    | (at_builtin
       refine wpList_append_rd _ rfl (.tmp 28) (.tmp 29) 26 rfl w.heap.size 5 i0 (.int .u8 0) 1 1 Try.underlying26 hi0 hz0 hz1 hz2 rfl (by decide) _ _ _ rfl HO2.out Av bs.length cv (bs.map u8v) rfl (HV.out.rd'.below HB2.out) (u8_one' _) (by unfold maxLen; omega) (by omega) hs2 ?_
       intro v3 w3 hown3 hgrow3 _
       obtain ⟨A3, c3, rfl, g1, g2, g3, g4⟩ := own_slice hown3
       have f3 : Fr w.heap.size [5] [] w2 w3 := (Fr.refl w2).grown hgrow3 (fun j hj => by
         obtain ⟨hb, cs, hc⟩ := own_block HO2.out hj
         exact ⟨hb, .inr ⟨cs, _, _, hc, by simp⟩⟩)
       have HB3 := Lib.hid (HB2.out.trans (f3.below hs2) : Below w.heap.size w w3)
       have hq3 := (HB3.out.block q hq).trans H1.out
       have d0 : w3.cell? ⟨q, 0, none⟩ = some (.slice A rs.length c) := cell_at hq3 0
       have d2 := frozen_at hq3 0
       have HQ3 := Lib.hid hq3
       have HO3 := Lib.hid hown3
       have HG := Lib.hid (And.intro g2 (And.intro g3 g4))
       clear hown3 hgrow3 g2 g3 g4 f3 hq3))
  go_end0
  have hlen : 0 + rs.length + bs.length = (rs ++ bs).length := by simp
  obtain ⟨g2, g3, g4⟩ := HG.out
  have hfresh : ∀ d, (Value.slice A3 (0 + rs.length + bs.length) c3).ownBlock = some d → w.heap.size ≤ d ∧ d < w3.heap.size := fun d hd => by
    obtain ⟨h, cs, hc⟩ := own_block HO3.out hd
    exact ⟨h, lt_of_block hc⟩
  have hne : (Value.slice A3 (0 + rs.length + bs.length) c3).ownBlock ≠ some q := fun h => by have := hfresh q h; omega
  have hfin := IsT.of_set0 (T := 64) (D := (Value.slice A3 (0 + rs.length + bs.length) c3).ownBlock) (bs := rs ++ bs) (A := A3) (c := c3) HQ3.out (by rw [← hlen]; exact g1) g2 (by
    rw [← hlen, List.map_append]
    simpa using g3) (fun _ a ha => (g4 a ha).1) hne (fun b hb => by
    rcases List.mem_append.1 hb with h | h
    · exact H6.out.1 b h
    · exact H6.out.2 b h) (SlA.of_own HO3.out)
  rw [← hlen] at hfin
  simp only [Nat.zero_add] at hfin hne hfresh
  exact ⟨_, rfl, hfin.1, hne, .inr (fun g hg => ⟨(hfresh g hg).1, by have := (hfresh g hg).2; simpa [World.setCell] using this⟩), (Fr.of_below HB3.out).trans hfin.2⟩

theorem rput_any (q : Nat) (D : Option Nat) (s : List Nat × Bool) (v : Value) (bs : List Nat) (w : World) (hT : IsT w 64 q D s) (hD : D ≠ some q) (hv : Bs w v bs) (hb : ∀ b ∈ bs, b < 256) :
    Calls Try.prog 62 #[.pointer (some ⟨q, 0, none⟩), v] w (RetR q D (putS s bs) w) := by
  by_cases h1 : s.2 = true
  · rw [putS_long h1]; exact rput_over q D s v bs w hT hD hv (.inl h1)
  · by_cases h2 : 262144 - (s.1.length : Int) < bs.length
    · rw [putS_over h2]; exact rput_over q D s v bs w hT hD hv (.inr h2)
    · have h3 : s.2 = false := by simpa using h1
      rw [putS_fits h3 h2]
      obtain ⟨rs, lg⟩ := s
      simp only at h3
      subst h3
      exact rput_room q D rs v bs w hT hv hb h2

theorem RetR.then {q : Nat} {D : Option Nat} {s : List Nat × Bool} {w w1 w' : World} {e : Ending} (hb : Below w.heap.size w w1) (h : RetR q D s w1 e w') : RetR q D s w e w' := by
  obtain ⟨D', he, hT, hD, hg, hf⟩ := h
  refine ⟨D', he, hT, hD, ?_, (Fr.of_below hb).trans hf⟩
  rcases hg with h | h
  · exact .inl h
  · exact .inr fun g hg => ⟨Nat.le_trans hb.size (h g hg).1, (h g hg).2⟩

set_option maxHeartbeats 400000 in
theorem rmnum_any (q : Nat) (D : Option Nat) (s : List Nat × Bool) (n : Int) (w : World) (hT : IsT w 64 q D s) (hD : D ≠ some q) (hn : I64 n) :
    Calls Try.prog 46 #[.pointer (some ⟨q, 0, none⟩), .int .i64 n] w (RetR q D (putS s (numB n)) w) := by
  have HT := Lib.hid hT
  have HD := Lib.hid hD
  clear hT hD
  go_enter Try.func46, Try.ntmps46
  go_wp2_with fail
  refine (rnum_any n _ hn).mono ?_
  rintro e w1 ⟨v, rfl, hv, hb⟩
  have HV := Lib.hid hv
  have HB := Lib.hid hb
  clear hv hb
  go_wp2_with fail
  refine (rput_any q D s v (numB n) _ (HT.out.below HB.out) HD.out HV.out (numB_lt n)).mono ?_
  intro e w2 hr
  have HR := Lib.hid (RetR.then HB.out hr)
  obtain ⟨D', rfl, _⟩ := hr
  go_wp2
  go_end0
  exact HR.out

end Go.Proofs.Ytjgdcdojigcefaa
