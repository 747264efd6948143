/- The contracts of cells.Taker: what each call takes off a taker that lies in memory. -/
import Derived.Test.YtjgdcdojigcefaaCMaker
import Derived.Test.YtjgdcdojigcefaaCFst2
namespace Go.Proofs.Ytjgdcdojigcefaa
open Go.RowKit

theorem IsT.of_set0 {w : World} {T : TypeId} {p : Nat} {D : Option Nat} {v : Value} {l : Bool} {bs : List Nat} {A : Option Addr} {c : Nat} (h : w.heap[p]? = some (.cells #[v, .bool l] T (0, 0))) (hnc : bs.length ≤ c) (hcm : c ≤ maxLen)
    (hr : Rd w 1 A bs.length (bs.map u8v)) (hD : 0 < bs.length → ∀ a, A = some a → D = some a.block) (hp : D ≠ some p) (hb : ∀ b ∈ bs, b < 256) (hA : SlA A c) :
    IsT (w.setCell ⟨p, 0, none⟩ (.slice A bs.length c)) T p D (bs, l) ∧ Fr 0 [] [p] w (w.setCell ⟨p, 0, none⟩ (.slice A bs.length c)) := by
  have f : Fr 0 [] [p] w (w.setCell ⟨p, 0, none⟩ (.slice A bs.length c)) := (Fr.refl w).setCell (p := ⟨p, 0, none⟩) _ (Nat.zero_le _) (.inl (by simp))
  refine ⟨⟨A, c, ?_, hnc, hcm, hr.frame f (fun hn a ha => ?_), hD, hb, hA⟩, f⟩
  · rw [block_set h]; rfl
  · simp
    intro e
    exact hp ((hD hn a ha).trans (by rw [e]))
theorem IsT.of_set1 {w : World} {T : TypeId} {p : Nat} {D : Option Nat} {l : Bool} {bs : List Nat} {A : Option Addr} {c : Nat} (h : w.heap[p]? = some (.cells #[.slice A bs.length c, .bool l] T (0, 0))) (hnc : bs.length ≤ c) (hcm : c ≤ maxLen)
    (hr : Rd w 1 A bs.length (bs.map u8v)) (hD : 0 < bs.length → ∀ a, A = some a → D = some a.block) (hp : D ≠ some p) (hb : ∀ b ∈ bs, b < 256) (hA : SlA A c) (l' : Bool) :
    IsT (w.setCell ⟨p, 1, none⟩ (.bool l')) T p D (bs, l') ∧ Fr 0 [] [p] w (w.setCell ⟨p, 1, none⟩ (.bool l')) := by
  have f : Fr 0 [] [p] w (w.setCell ⟨p, 1, none⟩ (.bool l')) := (Fr.refl w).setCell (p := ⟨p, 1, none⟩) _ (Nat.zero_le _) (.inl (by simp))
  refine ⟨⟨A, c, ?_, hnc, hcm, hr.frame f (fun hn a ha => ?_), hD, hb, hA⟩, f⟩
  · rw [block_set h]; rfl
  · simp
    intro e
    exact hp ((hD hn a ha).trans (by rw [e]))

/-- What Take hands back: a taker in new memory. -/
def RetTk (bs : List Nat) (w : World) (e : Ending) (w' : World) : Prop :=
  ∃ p D, e = .returned (.pointer (some ⟨p, 0, none⟩)) ∧ w.heap.size ≤ p ∧ IsT w' 85 p D (bs, false) ∧ D ≠ some p ∧ (∀ d, D = some d → w.heap.size ≤ d ∧ d < w'.heap.size) ∧ Below w.heap.size w w'

set_option maxHeartbeats 400000 in
theorem take_any (v : Value) (bs : List Nat) (w : World) (hv : Bs w v bs) (hb : ∀ b ∈ bs, b < 256) (ht : bs.length ≤ 140737488355328) : Calls Try.prog 41 #[v] w (RetTk bs w) := by
  have HV := Lib.hid hv
  obtain ⟨A, c, rfl, _, _, _⟩ := hv
  go_enter Try.func41, Try.ntmps41
  go_wp2_with fail
  refine (clone_any _ bs _ HV.out ht).mono ?_
  rintro e w1 ⟨v, rfl, ho, hb1⟩
  obtain ⟨A1, c1, rfl, hnc1, hcm1, hr1, hA1⟩ := own_slice ho
  have HO := Lib.hid ho
  have HR := Lib.hid hr1
  have HB1 := Lib.hid hb1
  have HM := Lib.hid hcm1
  have HA := Lib.hid hA1
  clear ho hr1 hb1 hcm1 hA1
  go_wp2
  go_ret
  have b2 := HB1.out.alloc HB1.out.size (.cells #[.slice A1 bs.length c1, .bool false] 85)
  have hlt : ∀ d, (Value.slice A1 bs.length c1).ownBlock = some d → d < w1.heap.size := fun d hd => by
    obtain ⟨_, cs, h⟩ := own_block HO.out hd
    exact lt_of_block h
  refine ⟨w1.heap.size, (Value.slice A1 bs.length c1).ownBlock, rfl, HB1.out.size, ⟨A1, c1, block_new _ _, hnc1, HM.out, HR.out.below ((Below.refl _ _).alloc (Nat.le_refl _) _), fun _ a ha => (HA.out a ha).1, hb, SlA.of_own HO.out⟩, ?_, fun d hd => ⟨(own_block HO.out hd).1, by have := hlt d hd; simp; omega⟩, b2⟩
  intro h
  have := hlt _ h
  omega

set_option maxHeartbeats 400000 in
theorem may_nil (w : World) : Calls Try.prog 59 #[.pointer none] w fun e w' => e = .returned (.bool false) ∧ w = w' := by
  go_enter Try.func59, Try.ntmps59
  go_wp2
  go_ret
  exact ⟨rfl, rfl⟩
set_option maxHeartbeats 400000 in
theorem may_any (p : Nat) (D : Option Nat) (s : List Nat × Bool) (w : World) (hT : IsT w 85 p D s) : Calls Try.prog 59 #[.pointer (some ⟨p, 0, none⟩)] w fun e w' => e = .returned (.bool (!s.2)) ∧ w = w' := by
  obtain ⟨A, c, h1, _⟩ := hT
  have c1 : w.cell? ⟨p, 1, none⟩ = some (.bool s.2) := cell_at h1 1
  clear h1
  go_enter Try.func59, Try.ntmps59
  go_wp2
  go_ret
  exact ⟨rfl, rfl⟩
set_option maxHeartbeats 400000 in
theorem fault_any (p : Nat) (D : Option Nat) (s : List Nat × Bool) (w : World) (hT : IsT w 85 p D s) (hp : D ≠ some p) : Calls Try.prog 61 #[.pointer (some ⟨p, 0, none⟩)] w (RetT 85 p D (.tuple #[]) (s.1, true) w) := by
  obtain ⟨A, c, h1, h2, h3, h4, h5, h6, h7⟩ := hT
  have c0 := cell_at h1 1
  have c1 := frozen_at h1 1
  have HF := Lib.hid (IsT.of_set1 h1 h2 h3 h4 h5 hp h6 h7 true)
  clear h1 h2 h3 h4 h5 h6 h7
  go_enter Try.func61, Try.ntmps61
  go_wp2
  go_end0
  exact ⟨rfl, HF.out.1, HF.out.2⟩

theorem fstV_some' {bs : List Nat} {n : Int} {k : Nat} (h : firstN bs = some (n, k)) : fstV bs = .tuple #[.int .i64 n, .int .i64 k, .int .i64 0] := fstV_some h

set_option maxRecDepth 100000 in
set_option maxHeartbeats 400000 in
theorem tnum_nil (a b : Int) (w : World) : Calls Try.prog 43 #[.pointer none, .int .i64 a, .int .i64 b] w fun e w' => e = .returned (.int .i64 0) ∧ w = w' := by
  go_enter Try.func43, Try.ntmps43
  go_wp2_with (go_at_call 59; refine (may_nil _).mono ?_; rintro e w' ⟨rfl, rfl⟩)
  go_ret
  exact ⟨rfl, rfl⟩

set_option maxRecDepth 100000 in
set_option maxHeartbeats 400000 in
theorem tnum_bad (p : Nat) (D : Option Nat) (bs : List Nat) (a b : Int) (w : World) (hT : IsT w 85 p D (bs, true)) :
    Calls Try.prog 43 #[.pointer (some ⟨p, 0, none⟩), .int .i64 a, .int .i64 b] w (RetT 85 p D (.int .i64 0) (bs, true) w) := by
  have HT := Lib.hid hT
  clear hT
  go_enter Try.func43, Try.ntmps43
  go_wp2_with (go_at_call 59; refine (may_any p D (bs, true) _ HT.out).mono ?_; rintro e w' ⟨rfl, rfl⟩)
  go_ret
  exact ⟨rfl, HT.out, Fr.refl _⟩

set_option maxRecDepth 100000 in
set_option maxHeartbeats 1000000 in
theorem tnum_none (p : Nat) (D : Option Nat) (bs : List Nat) (a b : Int) (w : World) (hT : IsT w 85 p D (bs, false)) (hp : D ≠ some p) (hf : firstN bs = none) :
    Calls Try.prog 43 #[.pointer (some ⟨p, 0, none⟩), .int .i64 a, .int .i64 b] w (RetT 85 p D (.int .i64 0) (bs, true) w) := by
  have HT := Lib.hid hT
  have HV := Lib.hid (fstV_none hf)
  have HD := Lib.hid hp
  obtain ⟨A, c, h1, h2, h3, h4, h5, h6, h7⟩ := hT
  have c0 : w.cell? ⟨p, 0, none⟩ = some (.slice A bs.length c) := cell_at h1 0
  have H4 := Lib.hid h4
  have H6 := Lib.hid h6
  have H3 := Lib.hid h3
  clear h1 h3 h4 h5 h6 h7 hf hp
  go_enter Try.func43, Try.ntmps43
  go_wp2_with (go_at_call 59; refine (may_any p D (bs, false) _ HT.out).mono ?_; rintro e w' ⟨rfl, rfl⟩)
  refine (first_any A c bs _ H4.out H6.out h2 H3.out).mono ?_
  rintro e w1 ⟨rfl, hb1⟩
  rw [HV.out]
  have HB1 := Lib.hid hb1
  clear hb1 c0
  go_wp2_with fail
  refine (fault_any p D (bs, false) _ (HT.out.below HB1.out) HD.out).mono ?_
  rintro e w2 ⟨rfl, h2, hf2⟩
  have H2 := Lib.hid h2
  have HF2 := Lib.hid hf2
  clear h2 hf2
  go_wp2
  go_ret
  exact ⟨rfl, H2.out, (Fr.of_below HB1.out).trans HF2.out⟩

set_option maxRecDepth 100000 in
set_option maxHeartbeats 1000000 in
theorem tnum_out (p : Nat) (D : Option Nat) (bs : List Nat) (a b n : Int) (k : Nat) (w : World) (hT : IsT w 85 p D (bs, false)) (hp : D ≠ some p) (hf : firstN bs = some (n, k)) (ho : n < a ∨ b < n) :
    Calls Try.prog 43 #[.pointer (some ⟨p, 0, none⟩), .int .i64 a, .int .i64 b] w (RetT 85 p D (.int .i64 0) (bs, true) w) := by
  have HT := Lib.hid hT
  have HV := Lib.hid (fstV_some hf)
  have HD := Lib.hid hp
  obtain ⟨A, c, h1, h2, h3, h4, h5, h6, h7⟩ := hT
  have c0 : w.cell? ⟨p, 0, none⟩ = some (.slice A bs.length c) := cell_at h1 0
  have H4 := Lib.hid h4
  have H6 := Lib.hid h6
  have H3 := Lib.hid h3
  clear h1 h3 h4 h5 h6 h7 hf hp
  by_cases hlt : n < a
  all_goals
    go_enter Try.func43, Try.ntmps43
    go_wp2_with (go_at_call 59; refine (may_any p D (bs, false) _ HT.out).mono ?_; rintro e w' ⟨rfl, rfl⟩)
    refine (first_any A c bs _ H4.out H6.out h2 H3.out).mono ?_
    rintro e w1 ⟨rfl, hb1⟩
    rw [HV.out]
    have HB1 := Lib.hid hb1
    clear hb1 c0
    go_wp2_with fail
    refine (fault_any p D (bs, false) _ (HT.out.below HB1.out) HD.out).mono ?_
    rintro e w2 ⟨rfl, h2, hf2⟩
    have H2 := Lib.hid h2
    have HF2 := Lib.hid hf2
    clear h2 hf2
    go_wp2
    go_ret
    exact ⟨rfl, H2.out, (Fr.of_below HB1.out).trans HF2.out⟩

set_option maxRecDepth 100000 in
set_option maxHeartbeats 1000000 in
theorem tnum_in (p : Nat) (D : Option Nat) (bs : List Nat) (a b n : Int) (k : Nat) (w : World) (hT : IsT w 85 p D (bs, false)) (hp : D ≠ some p) (hf : firstN bs = some (n, k)) (ha : a ≤ n) (hnb : n ≤ b) :
    Calls Try.prog 43 #[.pointer (some ⟨p, 0, none⟩), .int .i64 a, .int .i64 b] w (RetT 85 p D (.int .i64 n) (bs.drop k, false) w) := by
  have HT := Lib.hid hT
  have HV := Lib.hid (fstV_some hf)
  have HD := Lib.hid hp
  obtain ⟨A, c, h1, h2, h3, h4, h5, h6, h7⟩ := hT
  simp only at h1 h2 h3 h4 h5 h6
  clear h7
  obtain ⟨_, _, hk1, hk2⟩ := firstN_some h6 hf
  obtain ⟨g, o, rfl, hg, _⟩ := h4.2 (by omega)
  have c0 : w.cell? ⟨p, 0, none⟩ = some (.slice (some ⟨g, o, none⟩) bs.length c) := cell_at h1 0
  have hm : c ≤ 9223372036854775807 := by unfold maxLen at h3; omega
  have H1 := Lib.hid h1
  have H4 := Lib.hid h4
  have H5 := Lib.hid h5
  have H6 := Lib.hid h6
  have H3 := Lib.hid h3
  have hdl : (bs.drop k).length = bs.length - k := by simp
  have HDL := Lib.hid hdl
  have hmd : (bs.drop k).map u8v = (bs.map u8v).drop (k * 1) := by simp
  have HMD := Lib.hid hmd
  have HB6 := Lib.hid (fun x hx => h6 x (List.mem_of_mem_drop (i := k) hx))
  clear h1 h3 h4 h5 h6 hf hp hg hdl hmd
  by_cases hkc : c = k
  · subst hkc
    have hfull : bs.length = c := by omega
    have HFU := Lib.hid hfull
    clear hfull
    go_enter Try.func43, Try.ntmps43
    go_wp2_with (go_at_call 59; refine (may_any p D (bs, false) _ HT.out).mono ?_; rintro e w' ⟨rfl, rfl⟩)
    refine (first_any (some ⟨g, o, none⟩) c bs _ H4.out H6.out h2 H3.out).mono ?_
    rintro e w1 ⟨rfl, hb1⟩
    rw [HV.out]
    have hp1 := (Fr.of_below (B := 0) (T := []) (S := []) hb1).keep0 H1.out (by simp)
    have c0 : w1.cell? ⟨p, 0, none⟩ = some (.slice (some ⟨g, o, none⟩) bs.length c) := cell_at hp1 0
    have c1 := frozen_at hp1 0
    have HP1 := Lib.hid hp1
    have HB1 := Lib.hid hb1
    clear hb1 hp1
    go_wp2_with fail
    go_ret
    have hn : (bs.drop c).length = 0 := by rw [HDL.out]; omega
    have := IsT.of_set0 (D := D) (bs := bs.drop c) (A := some ⟨g, o, none⟩) (c := 0) HP1.out (by omega) (Nat.zero_le _) (by rw [List.eq_nil_of_length_eq_zero hn]; exact Rd.nil) (by omega) HD.out HB6.out (.inr ⟨_, _, rfl⟩)
    rw [hn] at this
    have e : bs.length - c = 0 := by omega
    try rw [e]
    exact ⟨rfl, this.1, (Fr.of_below HB1.out).trans this.2⟩
  · have hck : k < c := by omega
    clear hkc
    go_enter Try.func43, Try.ntmps43
    go_wp2_with (go_at_call 59; refine (may_any p D (bs, false) _ HT.out).mono ?_; rintro e w' ⟨rfl, rfl⟩)
    refine (first_any (some ⟨g, o, none⟩) c bs _ H4.out H6.out h2 H3.out).mono ?_
    rintro e w1 ⟨rfl, hb1⟩
    rw [HV.out]
    have hp1 := (Fr.of_below (B := 0) (T := []) (S := []) hb1).keep0 H1.out (by simp)
    have c0 : w1.cell? ⟨p, 0, none⟩ = some (.slice (some ⟨g, o, none⟩) bs.length c) := cell_at hp1 0
    have c1 := frozen_at hp1 0
    have HP1 := Lib.hid hp1
    have HB1 := Lib.hid hb1
    clear hb1 hp1
    go_wp2_with fail
    go_ret
    have hr1 := H4.out.below (HB1.out.mono (Nat.le_refl _))
    have := IsT.of_set0 (D := D) (bs := bs.drop k) (A := some ⟨g, o + k, none⟩) (c := c - k) HP1.out (by rw [HDL.out]; omega) (by have := H3.out; omega) (by rw [HMD.out, HDL.out]; exact hr1.drop hk2 (fun _ => by simp)) (fun hn a ha => by
      cases ha
      exact H5.out (by omega) ⟨g, o, none⟩ rfl) HD.out HB6.out (.inr ⟨_, _, rfl⟩)
    rw [HDL.out] at this
    exact ⟨rfl, this.1, (Fr.of_below HB1.out).trans this.2⟩

theorem tnum_any (p : Nat) (D : Option Nat) (s : List Nat × Bool) (a b : Int) (w : World) (hT : IsT w 85 p D s) (hp : D ≠ some p) :
    Calls Try.prog 43 #[.pointer (some ⟨p, 0, none⟩), .int .i64 a, .int .i64 b] w (RetT 85 p D (.int .i64 (numT s a b).1) (numT s a b).2 w) := by
  obtain ⟨bs, bad⟩ := s
  cases bad with
  | true => rw [numT_bad rfl]; exact tnum_bad p D bs a b w hT
  | false =>
    cases hf : firstN bs with
    | none => rw [numT_none rfl hf]; exact tnum_none p D bs a b w hT hp hf
    | some q =>
      obtain ⟨n, k⟩ := q
      by_cases ho : n < a ∨ b < n
      · rw [numT_out rfl hf ho]; exact tnum_out p D bs a b n k w hT hp hf ho
      · rw [numT_in rfl hf (by omega) (by omega)]; exact tnum_in p D bs a b n k w hT hp hf (by omega) (by omega)

set_option maxHeartbeats 400000 in
theorem tdone_nil (w : World) : Calls Try.prog 45 #[.pointer none] w fun e w' => e = .returned (.int .i64 6) ∧ w = w' := by
  go_enter Try.func45, Try.ntmps45
  go_wp2
  go_ret
  exact ⟨rfl, rfl⟩
set_option maxHeartbeats 400000 in
theorem tdone_any (p : Nat) (D : Option Nat) (s : List Nat × Bool) (w : World) (hT : IsT w 85 p D s) :
    Calls Try.prog 45 #[.pointer (some ⟨p, 0, none⟩)] w fun e w' => e = .returned (.int .i64 (doneT s)) ∧ w = w' := by
  obtain ⟨bs, bad⟩ := s
  obtain ⟨A, c, h1, h2, h3, h4, h5, h6, h7⟩ := hT
  have c0 : w.cell? ⟨p, 0, none⟩ = some (.slice A bs.length c) := cell_at h1 0
  have c1 : w.cell? ⟨p, 1, none⟩ = some (.bool bad) := cell_at h1 1
  have hm : c ≤ 9223372036854775807 := by unfold maxLen at h3; omega
  clear h1 h3 h4 h5 h6 h7
  cases bad
  · by_cases h0 : 0 < bs.length
    · have HV := Lib.hid (show doneT (bs, false) = 10 by simp [doneT]; intro e; subst e; simp at h0)
      go_enter Try.func45, Try.ntmps45
      go_wp2
      go_ret
      exact ⟨ret_int HV.out.symm, rfl⟩
    · have HV := Lib.hid (show doneT (bs, false) = 0 by unfold doneT; rw [if_neg]; simpa using h0)
      go_enter Try.func45, Try.ntmps45
      go_wp2
      go_ret
      exact ⟨ret_int HV.out.symm, rfl⟩
  · have HV := Lib.hid (show doneT (bs, true) = 10 by simp [doneT])
    go_enter Try.func45, Try.ntmps45
    go_wp2
    go_ret
    exact ⟨ret_int HV.out.symm, rfl⟩
end Go.Proofs.Ytjgdcdojigcefaa
