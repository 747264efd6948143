/- Joined: The contracts of the reference's Maker. Flag: of a taker. The contract of the reference's First: the number with whose cell bytes begin. -/
import Derived.Test.YtglfbihdbdcgiaaZBP23
import Derived.Test.YtglfbihdbdcgiaaZBP18
import Derived.Test.YtglfbihdbdcgiaaZBP21
import Derived.Test.YtglfbihdbdcgiaaZBP19
namespace Go.Proofs.Ytglfbihdbdcgiaa
open Go.RowKit

theorem Bs.rd' {w : World} {A : Option Addr} {n c : Nat} {bs : List Nat} (h : Bs w (.slice A n c) bs) : Rd w 1 A n (bs.map u8v) := by
  obtain ⟨A', c', h1, _, _, h4⟩ := h
  injection h1 with e1 e2 e3
  subst e1; subst e2
  exact h4
/-- What a call of the reference's maker leaves. -/
def RetR (q : Nat) (D : Option Nat) (s : List Nat × Bool) (w : World) (e : Ending) (w' : World) : Prop :=
  ∃ D', e = .returned (.tuple #[]) ∧ IsT w' 83 q D' s ∧ D' ≠ some q ∧ (D' = D ∨ ∀ g, D' = some g → w.heap.size ≤ g ∧ g < w'.heap.size) ∧ Fr 0 [] [q] w w'

set_option maxRecDepth 100000 in
set_option maxHeartbeats 1000000 in
theorem rput_over (q : Nat) (D : Option Nat) (s : List Nat × Bool) (v : Value) (bs : List Nat) (w : World) (hT : IsT w 83 q D s) (hD : D ≠ some q) (hv : Bs w v bs) (hl : s.2 = true ∨ 262144 - (s.1.length : Int) < bs.length) :
    Calls Try.prog 56 #[.pointer (some ⟨q, 0, none⟩), v] w (RetR q D (s.1, true) w) := by
  obtain ⟨rs, lg⟩ := s
  obtain ⟨A, c, h1, h2, h3, h4, h5, h6, h7⟩ := hT
  simp only at h1 h2 h3 h4 h5 h6 h7 hl
  have c0 : w.cell? ⟨q, 0, none⟩ = some (.slice A rs.length c) := cell_at h1 0
  have c1 : w.cell? ⟨q, 1, none⟩ = some (.bool lg) := cell_at h1 1
  have c2 := frozen_at h1 1
  have hm : c ≤ 9223372036854775807 := by unfold maxLen at h3; omega
  obtain ⟨Av, cv, rfl, k1, k2, _⟩ := hv
  have km : cv ≤ 9223372036854775807 := by unfold maxLen at k2; omega
  have HF := Lib.hid (IsT.of_set1 h1 h2 h3 h4 h5 hD h6 h7 true)
  have HD := Lib.hid hD
  clear h1 h3 h4 h5 h6 h7 hD k2
  cases lg
  · have hl' : 262144 - (rs.length : Int) < bs.length := by simpa using hl
    clear hl
    go_enter Try.func56, Try.ntmps56
    go_wp2
    go_end0
    exact ⟨D, rfl, HF.out.1, HD.out, .inl rfl, HF.out.2⟩
  · clear hl
    go_enter Try.func56, Try.ntmps56
    go_wp2
    go_end0
    exact ⟨D, rfl, HF.out.1, HD.out, .inl rfl, HF.out.2⟩

set_option maxRecDepth 100000 in
set_option maxHeartbeats 2000000 in
theorem rput_room (q : Nat) (D : Option Nat) (rs : List Nat) (v : Value) (bs : List Nat) (w : World) (hT : IsT w 83 q D (rs, false)) (hv : Bs w v bs) (hb : ∀ b ∈ bs, b < 256) (hl : ¬ 262144 - (rs.length : Int) < bs.length) :
    Calls Try.prog 56 #[.pointer (some ⟨q, 0, none⟩), v] w (RetR q D (rs ++ bs, false) w) := by
  obtain ⟨i0, hi0, hz0, hz1, hz2⟩ := info_parts Try.infoByte
  obtain ⟨A, c, h1, h2, h3, h4, h5, h6, h7⟩ := hT
  simp only at h1 h2 h3 h4 h5 h6 h7 hl
  have c0 : w.cell? ⟨q, 0, none⟩ = some (.slice A rs.length c) := cell_at h1 0
  have c1 : w.cell? ⟨q, 1, none⟩ = some (.bool false) := cell_at h1 1
  have HV := Lib.hid hv
  obtain ⟨Av, cv, rfl, k1, k2, _⟩ := hv
  have hdec : decide (262144 - (rs.length : Int) < (bs.length : Int)) = false := by simpa using hl
  have hsum : rs.length + bs.length ≤ 262144 := by omega
  have H1 := Lib.hid h1
  have H4 := Lib.hid h4
  have H6 := Lib.hid (And.intro h6 hb)
  have HOwn := Lib.hid (own_of_cells w #[] 0 (Nat.zero_le _) rfl)
  have hq := lt_of_block h1
  have b0 : Below w.heap.size w (w.alloc (.cells #[] 5)) := (Below.refl _ _).alloc (Nat.le_refl _) _
  have HB0 := Lib.hid b0
  have e1 := cell_at ((b0.block q hq).trans h1) 0
  clear h1 h3 h4 h5 h6 h7 k2 hb b0
  go_enter Try.func56, Try.ntmps56
  go_wp2_with (first
    | (at_builtin
       refine wpList_append_rd _ rfl (.tmp 23) (.tmp 27) 49 rfl w.heap.size 5 i0 (.int .u8 0) 1 1 Try.underlying49 hi0 hz0 hz1 hz2 rfl (by decide) (.slice (some ⟨w.heap.size, 0, none⟩) 0 0) 0 [] rfl HOwn.out A rs.length c (rs.map u8v) rfl (H4.out.below HB0.out) (u8_one' _) (by unfold maxLen; omega) (by omega) (by simp) ?_
       intro v2 w2 hown2 hgrow2 _
       have HO2 := Lib.hid hown2
       have hG2 := Fr.grown (B := w.heap.size) (T := [5]) (S := []) ((Fr.refl w).alloc (.cells #[] 5)) hgrow2 (fun j hj => by
         simp [Value.ownBlock] at hj
         subst hj
         exact ⟨Nat.le_refl _, .inr ⟨_, _, _, block_new _ _, by simp⟩⟩)
       have HB2 := Lib.hid (hG2.below (Nat.le_refl _))
       have hs2 : w.heap.size ≤ w2.heap.size := hG2.size
       clear hown2 hgrow2 hG2)
    | (at_builtin
       refine wpList_append_rd _ rfl (.tmp 28) (.tmp 29) 49 rfl w.heap.size 5 i0 (.int .u8 0) 1 1 Try.underlying49 hi0 hz0 hz1 hz2 rfl (by decide) _ _ _ rfl HO2.out Av bs.length cv (bs.map u8v) rfl (HV.out.rd'.below HB2.out) (u8_one' _) (by unfold maxLen; omega) (by omega) hs2 ?_
       intro v3 w3 hown3 hgrow3 _
       obtain ⟨A3, c3, rfl, g1, g2, g3, g4⟩ := own_slice hown3
       have f3 : Fr w.heap.size [5] [] w2 w3 := (Fr.refl w2).grown hgrow3 (fun j hj => by
         obtain ⟨hb, cs, hc⟩ := own_block HO2.out hj
         exact ⟨hb, .inr ⟨cs, _, _, hc, by simp⟩⟩)
       have HB3 := Lib.hid (HB2.out.trans (f3.below hs2) : Below w.heap.size w w3)
       have hq3 := (HB3.out.block q hq).trans H1.out
       have d0 : w3.cell? ⟨q, 0, none⟩ = some (.slice A rs.length c) := cell_at hq3 0
       have d2 := frozen_at hq3 0
       have HQ3 := Lib.hid hq3
       have HO3 := Lib.hid hown3
       have HG := Lib.hid (And.intro g2 (And.intro g3 g4))
       clear hown3 hgrow3 g2 g3 g4 f3 hq3))
  go_end0
  have hlen : 0 + rs.length + bs.length = (rs ++ bs).length := by simp
  obtain ⟨g2, g3, g4⟩ := HG.out
  have hfresh : ∀ d, (Value.slice A3 (0 + rs.length + bs.length) c3).ownBlock = some d → w.heap.size ≤ d ∧ d < w3.heap.size := fun d hd => by
    obtain ⟨h, cs, hc⟩ := own_block HO3.out hd
    exact ⟨h, lt_of_block hc⟩
  have hne : (Value.slice A3 (0 + rs.length + bs.length) c3).ownBlock ≠ some q := fun h => by have := hfresh q h; omega
  have hfin := IsT.of_set0 (T := 83) (D := (Value.slice A3 (0 + rs.length + bs.length) c3).ownBlock) (bs := rs ++ bs) (A := A3) (c := c3) HQ3.out (by rw [← hlen]; exact g1) g2 (by
    rw [← hlen, List.map_append]
    simpa using g3) (fun _ a ha => (g4 a ha).1) hne (fun b hb => by
    rcases List.mem_append.1 hb with h | h
    · exact H6.out.1 b h
    · exact H6.out.2 b h) (SlA.of_own HO3.out)
  rw [← hlen] at hfin
  simp only [Nat.zero_add] at hfin hne hfresh
  exact ⟨_, rfl, hfin.1, hne, .inr (fun g hg => ⟨(hfresh g hg).1, by have := (hfresh g hg).2; simpa [World.setCell] using this⟩), (Fr.of_below HB3.out).trans hfin.2⟩

theorem rput_any (q : Nat) (D : Option Nat) (s : List Nat × Bool) (v : Value) (bs : List Nat) (w : World) (hT : IsT w 83 q D s) (hD : D ≠ some q) (hv : Bs w v bs) (hb : ∀ b ∈ bs, b < 256) :
    Calls Try.prog 56 #[.pointer (some ⟨q, 0, none⟩), v] w (RetR q D (putS s bs) w) := by
  by_cases h1 : s.2 = true
  · rw [putS_long h1]; exact rput_over q D s v bs w hT hD hv (.inl h1)
  · by_cases h2 : 262144 - (s.1.length : Int) < bs.length
    · rw [putS_over h2]; exact rput_over q D s v bs w hT hD hv (.inr h2)
    · have h3 : s.2 = false := by simpa using h1
      rw [putS_fits h3 h2]
      obtain ⟨rs, lg⟩ := s
      simp only at h3
      subst h3
      exact rput_room q D rs v bs w hT hv hb h2

theorem RetR.then {q : Nat} {D : Option Nat} {s : List Nat × Bool} {w w1 w' : World} {e : Ending} (hb : Below w.heap.size w w1) (h : RetR q D s w1 e w') : RetR q D s w e w' := by
  obtain ⟨D', he, hT, hD, hg, hf⟩ := h
  refine ⟨D', he, hT, hD, ?_, (Fr.of_below hb).trans hf⟩
  rcases hg with h | h
  · exact .inl h
  · exact .inr fun g hg => ⟨Nat.le_trans hb.size (h g hg).1, (h g hg).2⟩

set_option maxHeartbeats 400000 in
theorem rmnum_any (q : Nat) (D : Option Nat) (s : List Nat × Bool) (n : Int) (w : World) (hT : IsT w 83 q D s) (hD : D ≠ some q) (hn : I64 n) :
    Calls Try.prog 47 #[.pointer (some ⟨q, 0, none⟩), .int .i64 n] w (RetR q D (putS s (numB n)) w) := by
  have HT := Lib.hid hT
  have HD := Lib.hid hD
  clear hT hD
  go_enter Try.func47, Try.ntmps47
  go_wp2_with fail
  refine (rnum_any n _ hn).mono ?_
  rintro e w1 ⟨v, rfl, hv, hb⟩
  have HV := Lib.hid hv
  have HB := Lib.hid hb
  clear hv hb
  go_wp2_with fail
  refine (rput_any q D s v (numB n) _ (HT.out.below HB.out) HD.out HV.out (numB_lt n)).mono ?_
  intro e w2 hr
  have HR := Lib.hid (RetR.then HB.out hr)
  obtain ⟨D', rfl, _⟩ := hr
  go_wp2
  go_end0
  exact HR.out

end Go.Proofs.Ytglfbihdbdcgiaa

namespace Go.Proofs.Ytglfbihdbdcgiaa
open Go.RowKit

set_option maxHeartbeats 400000 in
theorem mflag_any (p : Nat) (G : Option Nat) (s : List Nat × Bool) (b : Bool) (w : World) (hM : IsM w p G s) :
    Calls Try.prog 45 #[.pointer (some ⟨p, 0, none⟩), .bool b] w (RetM p G (putS s (flagB b)) w) := by
  have HM := Lib.hid hM
  clear hM
  cases b
  all_goals
    go_enter Try.func45, Try.ntmps45
    go_wp2_with fail
    refine (mnum_any p G s _ _ HM.out (by unfold I64; omega)).mono ?_
    rintro e w2 ⟨G', rfl, hM2, hf, hG⟩
    have HM2 := Lib.hid hM2
    have HF := Lib.hid hf
    have HG := Lib.hid hG
    clear hM2 hf hG
    go_wp2
    go_ret
    exact ⟨G', rfl, HM2.out, HF.out, HG.out⟩

set_option maxHeartbeats 400000 in
theorem mflag_nil (b : Bool) (w : World) : Calls Try.prog 45 #[.pointer none, .bool b] w fun e w' => e = .returned (.pointer none) ∧ Below w.heap.size w w' := by
  cases b
  all_goals
    go_enter Try.func45, Try.ntmps45
    go_wp2_with fail
    refine (mnum_nil _ _ (by unfold I64; omega)).mono ?_
    rintro e w2 ⟨rfl, hb⟩
    go_wp2
    go_ret
    exact ⟨rfl, hb⟩

set_option maxHeartbeats 400000 in
theorem tflag_nil (w : World) : Calls Try.prog 39 #[.pointer none] w fun e w' => e = .returned (.bool false) ∧ w = w' := by
  go_enter Try.func39, Try.ntmps39
  go_wp2_with (go_at_call 38; refine (tnum_nil _ _ _).mono ?_; rintro e w' ⟨rfl, rfl⟩)
  go_ret
  exact ⟨rfl, rfl⟩
set_option maxHeartbeats 400000 in
theorem tflag_any (p : Nat) (D : Option Nat) (s : List Nat × Bool) (w : World) (hT : IsT w 88 p D s) (hp : D ≠ some p) :
    Calls Try.prog 39 #[.pointer (some ⟨p, 0, none⟩)] w (RetT 88 p D (.bool (flagT s).1) (flagT s).2 w) := by
  have HT := Lib.hid hT
  have HD := Lib.hid hp
  clear hT hp
  obtain ⟨r, hr⟩ : ∃ r, numT s 0 1 = r := ⟨_, rfl⟩
  have HR := Lib.hid hr
  clear hr
  go_enter Try.func39, Try.ntmps39
  go_wp2_with fail
  refine (tnum_any p D s 0 1 w HT.out HD.out).mono ?_
  rintro e w1 ⟨rfl, h1, hf⟩
  rw [HR.out] at h1 ⊢
  have H1 := Lib.hid h1
  have HF := Lib.hid hf
  clear h1 hf
  go_wp2
  go_ret
  refine ⟨?_, ?_, HF.out⟩
  · unfold flagT; rw [HR.out]; rfl
  · unfold flagT; rw [HR.out]; exact H1.out
end Go.Proofs.Ytglfbihdbdcgiaa

namespace Go.Proofs.Ytglfbihdbdcgiaa
open Go.RowKit

/-- What the reference's First tells. -/
def rfstV (bs : List Nat) : Value := match firstN bs with | some (n, k) => .tuple #[.int .i64 n, .int .i64 k] | none => .tuple #[.int .i64 0, .int .i64 0]
theorem rfstV_some {bs : List Nat} {n : Int} {k : Nat} (h : firstN bs = some (n, k)) : rfstV bs = .tuple #[.int .i64 n, .int .i64 k] := by unfold rfstV; rw [h]
theorem rfstV_none {bs : List Nat} (h : firstN bs = none) : rfstV bs = .tuple #[.int .i64 0, .int .i64 0] := by unfold rfstV; rw [h]

set_option maxRecDepth 100000 in
set_option maxHeartbeats 400000 in
theorem rfirst_nil (A : Option Addr) (c : Nat) (w : World) : Calls Try.prog 53 #[.slice A 0 c] w fun e w' => e = .returned (rfstV []) ∧ Below w.heap.size w w' := by
  have HV := Lib.hid (rfstV_none (bs := []) rfl)
  go_enter Try.func53, Try.ntmps53
  go_wp2
  go_ret2
  rw [HV.out]
  exact ⟨rfl, Below.refl _ _⟩

set_option maxRecDepth 100000 in
set_option maxHeartbeats 400000 in
theorem rfirst_small (g o c : Nat) (w : World) (h : Nat) (t : List Nat) (n : Nat) (hn : 0 < n) (hc : w.cell? ⟨g, o, none⟩ = some (.int .u8 h)) (hh : h < 128) : Calls Try.prog 53 #[.slice (some ⟨g, o, none⟩) n c] w fun e w' => e = .returned (rfstV (h :: t)) ∧ Below w.heap.size w w' := by
  have HV := Lib.hid (rfstV_some (bs := h :: t) (n := h) (k := 1) (by rw [firstN, if_pos hh]))
  go_enter Try.func53, Try.ntmps53
  go_wp2
  go_ret2
  rw [HV.out]
  exact ⟨rfl, Below.refl _ _⟩

set_option maxRecDepth 100000 in
set_option maxHeartbeats 400000 in
theorem rfirst_odd (g o c : Nat) (w : World) (h : Nat) (t : List Nat) (n : Nat) (hn : 0 < n) (hc : w.cell? ⟨g, o, none⟩ = some (.int .u8 h)) (hh : h = 128 ∨ (137 ≤ h ∧ h < 144) ∨ (153 ≤ h ∧ h < 256)) (hf : firstN (h :: t) = none) :
    Calls Try.prog 53 #[.slice (some ⟨g, o, none⟩) n c] w fun e w' => e = .returned (rfstV (h :: t)) ∧ Below w.heap.size w w' := by
  have HV := Lib.hid (rfstV_none hf)
  clear hf
  rcases hh with rfl | ⟨h1, h2⟩ | ⟨h1, h2⟩
  all_goals
    go_enter Try.func53, Try.ntmps53
    go_wp2
    go_ret2
    rw [HV.out]
    exact ⟨rfl, Below.refl _ _⟩

set_option maxRecDepth 100000 in
set_option maxHeartbeats 1000000 in
theorem rfirst_shortP (g o c : Nat) (w : World) (z : Nat) (t : List Nat) (n : Nat) (hn : n = 1 + t.length) (hnm : n ≤ 9223372036854775807) (hc : w.cell? ⟨g, o, none⟩ = some (.int .u8 ((128 + z : Nat) : Int))) (hz0 : 1 ≤ z) (hz8 : z ≤ 8) (hz : t.length < z) :
    Calls Try.prog 53 #[.slice (some ⟨g, o, none⟩) n c] w fun e w' => e = .returned (rfstV ((128 + z) :: t)) ∧ Below w.heap.size w w' := by
  have hs : sizeH (128 + z) = z := by unfold sizeH; split <;> omega
  have HV := Lib.hid (rfstV_none (bs := (128 + z) :: t) (by rw [firstN, if_neg (by omega), hs, if_pos (.inr hz)]))
  clear hs
  go_enter Try.func53, Try.ntmps53
  go_wp2
  go_ret2
  rw [HV.out]
  exact ⟨rfl, Below.refl _ _⟩

set_option maxRecDepth 100000 in
set_option maxHeartbeats 8000000 in
theorem rfirst_goodP (g o c : Nat) (w : World) (z : Nat) (t : List Nat) (n : Nat) (hn : n = 1 + t.length) (hnc : n ≤ c) (hnm : c ≤ 9223372036854775807) (hr : Rd w 1 (some ⟨g, o, none⟩) n (((128 + z) :: t).map u8v)) (hb : ∀ b ∈ (128 + z) :: t, b < 256) (hz0 : 1 ≤ z) (hz8 : z ≤ 8) (hz : z ≤ t.length) :
    Calls Try.prog 53 #[.slice (some ⟨g, o, none⟩) n c] w fun e w' => e = .returned (rfstV ((128 + z) :: t)) ∧ Below w.heap.size w w' := by
  have hcell : ∀ (j : Nat) (hj : j < t.length), w.cell? ⟨g, o + (1 + j), none⟩ = some (.int .u8 (t[j] : Int)) := by
    obtain ⟨g', o', ha, _, hcc⟩ := hr.2 (by omega)
    cases ha
    intro j hj
    exact hcc (1 + j) (u8v t[j]) (by simp [Nat.add_comm 1 j, hj])
  have hc : w.cell? ⟨g, o, none⟩ = some (.int .u8 ((128 + z : Nat) : Int)) := by
    obtain ⟨g', o', ha, _, hcc⟩ := hr.2 (by omega)
    cases ha
    exact hcc 0 (u8v (128 + z)) (by simp)
  have HCell := Lib.hid hcell
  have HR := Lib.hid hr
  have HB := Lib.hid hb
  clear hr hb hcell
  go_enter Try.func53, Try.ntmps53
  go_wp2_with fail
  have ez : (128 + (z : Int) - 128) = z := by omega
  simp only [ez]
  clear ez
  go_loopw [6, 7] (fun u i wr => FstRel t z u i ∧ wr = w) (fun _ i _ => (z - (intOf i).toNat))
  case atStart => exact ⟨⟨0, Nat.zero_le _, rfl, rfl⟩, rfl⟩
  case round =>
    obtain ⟨⟨k, hk, rfl, rfl⟩, rfl⟩ := hrel
    by_cases hlt : k < z
    · have hk1 := HCell.out k (by omega)
      have hu : val (t.take k) < 72057594037927936 := by
        have h1 := val_lt (t.take k) (fun b hb => HB.out b (List.mem_cons_of_mem _ (List.mem_of_mem_take hb)))
        have h2 : (t.take k).length ≤ 7 := by rw [List.length_take]; omega
        have h3 : 256 ^ (t.take k).length ≤ 256 ^ 7 := Nat.pow_le_pow_right (by omega) h2
        have h4 : (256 : Nat) ^ 7 = 72057594037927936 := by rfl
        omega
      have hlk : k < t.length := by omega
      have htk : t[k] < 256 := HB.out _ (List.mem_cons_of_mem _ (List.getElem_mem hlk))
      have hval : val (t.take (k + 1)) = val (t.take k) * 256 + t[k] := by rw [List.take_succ_eq_append_getElem hlk, val_snoc]
      have HVal := Lib.hid hval
      obtain ⟨x, hx⟩ : ∃ x, val (t.take k) = x := ⟨_, rfl⟩
      obtain ⟨b, hbk⟩ : ∃ b, t[k] = b := ⟨_, rfl⟩
      rw [hx] at hu HVal
      rw [hbk] at htk hk1 HVal
      simp only [hx]
      clear hx hbk hval
      go_wp2_with fail
      go_roundw
      case rel =>
        refine ⟨⟨k + 1, hlt, by go_num, ?_⟩, trivial⟩
        rw [HVal.out]
        simp
      case measure => simp [intOf]; omega
    · obtain rfl : k = z := by omega
      have hx64 : val (t.take k) < 18446744073709551616 := by
        have h1 := val_lt (t.take k) (fun b hb => HB.out b (List.mem_cons_of_mem _ (List.mem_of_mem_take hb)))
        have h2 : (t.take k).length ≤ 8 := by rw [List.length_take]; omega
        have h3 : 256 ^ (t.take k).length ≤ 256 ^ 8 := Nat.pow_le_pow_right (by omega) h2
        have h4 : (256 : Nat) ^ 8 = 18446744073709551616 := by rfl
        omega
      obtain ⟨x, hx⟩ : ∃ x, val (t.take k) = x := ⟨_, rfl⟩
      rw [hx] at hx64
      have hs : sizeH (128 + k) = k := by unfold sizeH; split <;> omega
      by_cases hx63 : x < 9223372036854775808
      · have hN : numH (128 + k) x = (x : Int) := by unfold numH; split <;> omega
        have hcmp := first_cmp (128 + k) k x t ((x : Int)) hz8 (by omega) hz hx.symm hx64 ⟨fun _ => hN.symm, fun h => by omega⟩
        have hr1 : Rd wr 1 (some ⟨g, o, none⟩) (1 + k) ((((128 + k) :: t).take (1 + k)).map u8v) := by
          have := HR.out.take (k := 1 + k) (by omega)
          simpa [List.map_take] using this
        have hbt : ∀ b ∈ ((128 + k) :: t).take (1 + k), b < 256 := fun b hb => HB.out b (List.mem_of_mem_take hb)
        have HCmp := Lib.hid hcmp
        have HR1 := Lib.hid hr1
        have HBT := Lib.hid hbt
        have d1 : decide ((9223372036854775808 : Int) ≤ (x : Int)) = false := by
          rw [decide_eq_false_iff_not]
          omega
        have d2 : wrap64 (x : Int) = x := by unfold wrap64; omega
        have HX := Lib.hid hx63
        clear hcmp hr1 hbt hs hN hx63 hx64
        try simp only [hx]
        clear hx
        go_wp2_with fail
        have hI : I64 ((x : Int)) := by have := HX.out; unfold I64; omega
        obtain ⟨N, hNd⟩ : ∃ N, (x : Int) = N := ⟨_, rfl⟩
        rw [hNd] at hI HCmp
        simp only [hNd]
        have d3 : wrap64 N = N := by unfold I64 at hI; unfold wrap64; omega
        have D3 := Lib.hid d3
        clear hNd d1 d2 d3
        refine (rnum_any N wr hI).mono ?_
        rintro e w5 ⟨v, rfl, ⟨A5, c5, rfl, hl5, hm5, hr5⟩, hb5⟩
        have hr5d : Rd w5.drew 1 A5 (numB N).length ((numB N).map u8v) := hr5
        have hs5 := run_str w5.drew A5 _ c5 (numB N) hr5d (numB_lt _)
        have hs6 := run_str w5.drew (some ⟨g, o, none⟩) (1 + k) c _ ((HR1.out.below hb5).below (Below.refl _ _).drew) HBT.out
        have s1 : IntKind.i64.wrap (1 + (k : Int)) = 1 + k := IntWalk.i64_in _ (by omega)
        have s2 : (1 + (k : Int)).toNat = 1 + k := by omega
        have HB5 := Lib.hid hb5
        clear hl5 hm5 hr5 hr5d hb5
        go_wp2_with fail
        go_region
        all_goals rw [strOf_beq (numB_lt _) HBT.out]
        all_goals
          by_cases hEq : numB N = ((128 + k) :: t).take (1 + k)
          · have hd : decide (numB N = ((128 + k) :: t).take (1 + k)) = true := by simpa using hEq
            rw [hd]
            have HVal := Lib.hid (rfstV_some (HCmp.out.trans (if_pos hEq)))
            clear hd hEq hs5 hs6
            go_wp2
            go_ret2
            rw [HVal.out]
            exact ⟨by simp [D3.out], HB5.out.trans (((Below.refl _ _).drew).mono HB5.out.size)⟩
          · have hd : decide (numB N = ((128 + k) :: t).take (1 + k)) = false := by simpa using hEq
            rw [hd]
            have HVal := Lib.hid (rfstV_none (HCmp.out.trans (if_neg hEq)))
            clear hd hEq hs5 hs6
            go_wp2
            go_ret2
            rw [HVal.out]
            exact ⟨rfl, HB5.out.trans (((Below.refl _ _).drew).mono HB5.out.size)⟩
      · have HVal := Lib.hid (rfstV_none (bs := (128 + k) :: t) (by rw [firstN, if_neg (by omega), hs, if_neg (by omega), hx, if_neg (fun h => hx63 h.1)]))
        have d1 : decide ((9223372036854775808 : Int) ≤ (x : Int)) = true := by
          rw [decide_eq_true_iff]
          omega
        try simp only [hx]
        clear hs hx hx63 hx64
        go_wp2
        go_ret2
        rw [HVal.out]
        exact ⟨rfl, Below.refl _ _⟩

end Go.Proofs.Ytglfbihdbdcgiaa
