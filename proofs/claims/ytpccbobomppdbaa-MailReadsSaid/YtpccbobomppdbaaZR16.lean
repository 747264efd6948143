/- Joined: The contracts of cells.Taker: what each call takes off a taker that lies in memory. Makers and takers that are kept where others are turned. Makers and takers of a law's own, seen from the world in which the law began. The contracts of the reference's digits and Num: the digits of any number, the cell of any number, in new memory. -/
import Derived.Test.YtpccbobomppdbaaZR14
import Derived.Test.YtpccbobomppdbaaZR15
import Derived.Test.YtpccbobomppdbaaZR6
import Derived.Test.YtpccbobomppdbaaZR3
namespace Go.Proofs.Ytpccbobomppdbaa
open Go.RowKit

theorem IsT.of_set0 {w : World} {T : TypeId} {p : Nat} {D : Option Nat} {v : Value} {l : Bool} {bs : List Nat} {A : Option Addr} {c : Nat} (h : w.heap[p]? = some (.cells #[v, .bool l] T (0, 0))) (hnc : bs.length ≤ c) (hcm : c ≤ maxLen)
    (hr : Rd w 1 A bs.length (bs.map u8v)) (hD : 0 < bs.length → ∀ a, A = some a → D = some a.block) (hp : D ≠ some p) (hb : ∀ b ∈ bs, b < 256) (hA : SlA A c) :
    IsT (w.setCell ⟨p, 0, none⟩ (.slice A bs.length c)) T p D (bs, l) ∧ Fr 0 [] [p] w (w.setCell ⟨p, 0, none⟩ (.slice A bs.length c)) := by
  have f : Fr 0 [] [p] w (w.setCell ⟨p, 0, none⟩ (.slice A bs.length c)) := (Fr.refl w).setCell (p := ⟨p, 0, none⟩) _ (Nat.zero_le _) (.inl (by simp))
  refine ⟨⟨A, c, ?_, hnc, hcm, hr.frame f (fun hn a ha => ?_), hD, hb, hA⟩, f⟩
  · rw [block_set h]; rfl
  · simp
    intro e
    exact hp ((hD hn a ha).trans (by rw [e]))
theorem IsT.of_set1 {w : World} {T : TypeId} {p : Nat} {D : Option Nat} {l : Bool} {bs : List Nat} {A : Option Addr} {c : Nat} (h : w.heap[p]? = some (.cells #[.slice A bs.length c, .bool l] T (0, 0))) (hnc : bs.length ≤ c) (hcm : c ≤ maxLen)
    (hr : Rd w 1 A bs.length (bs.map u8v)) (hD : 0 < bs.length → ∀ a, A = some a → D = some a.block) (hp : D ≠ some p) (hb : ∀ b ∈ bs, b < 256) (hA : SlA A c) (l' : Bool) :
    IsT (w.setCell ⟨p, 1, none⟩ (.bool l')) T p D (bs, l') ∧ Fr 0 [] [p] w (w.setCell ⟨p, 1, none⟩ (.bool l')) := by
  have f : Fr 0 [] [p] w (w.setCell ⟨p, 1, none⟩ (.bool l')) := (Fr.refl w).setCell (p := ⟨p, 1, none⟩) _ (Nat.zero_le _) (.inl (by simp))
  refine ⟨⟨A, c, ?_, hnc, hcm, hr.frame f (fun hn a ha => ?_), hD, hb, hA⟩, f⟩
  · rw [block_set h]; rfl
  · simp
    intro e
    exact hp ((hD hn a ha).trans (by rw [e]))

/-- What Take hands back: a taker in new memory. -/
def RetTk (bs : List Nat) (w : World) (e : Ending) (w' : World) : Prop :=
  ∃ p D, e = .returned (.pointer (some ⟨p, 0, none⟩)) ∧ w.heap.size ≤ p ∧ IsT w' 98 p D (bs, false) ∧ D ≠ some p ∧ (∀ d, D = some d → w.heap.size ≤ d ∧ d < w'.heap.size) ∧ Below w.heap.size w w'

set_option maxHeartbeats 400000 in
theorem take_any (v : Value) (bs : List Nat) (w : World) (hv : Bs w v bs) (hb : ∀ b ∈ bs, b < 256) (ht : bs.length ≤ 140737488355328) : Calls Try.prog 38 #[v] w (RetTk bs w) := by
  have HV := Lib.hid hv
  obtain ⟨A, c, rfl, _, _, _⟩ := hv
  go_enter Try.func38, Try.ntmps38
  go_wp2_with fail
  refine (clone_any _ bs _ HV.out ht).mono ?_
  rintro e w1 ⟨v, rfl, ho, hb1⟩
  obtain ⟨A1, c1, rfl, hnc1, hcm1, hr1, hA1⟩ := own_slice ho
  have HO := Lib.hid ho
  have HR := Lib.hid hr1
  have HB1 := Lib.hid hb1
  have HM := Lib.hid hcm1
  have HA := Lib.hid hA1
  clear ho hr1 hb1 hcm1 hA1
  go_wp2
  go_ret
  have b2 := HB1.out.alloc HB1.out.size (.cells #[.slice A1 bs.length c1, .bool false] 98)
  have hlt : ∀ d, (Value.slice A1 bs.length c1).ownBlock = some d → d < w1.heap.size := fun d hd => by
    obtain ⟨_, cs, h⟩ := own_block HO.out hd
    exact lt_of_block h
  refine ⟨w1.heap.size, (Value.slice A1 bs.length c1).ownBlock, rfl, HB1.out.size, ⟨A1, c1, block_new _ _, hnc1, HM.out, HR.out.below ((Below.refl _ _).alloc (Nat.le_refl _) _), fun _ a ha => (HA.out a ha).1, hb, SlA.of_own HO.out⟩, ?_, fun d hd => ⟨(own_block HO.out hd).1, by have := hlt d hd; simp; omega⟩, b2⟩
  intro h
  have := hlt _ h
  omega

set_option maxHeartbeats 400000 in
theorem may_nil (w : World) : Calls Try.prog 69 #[.pointer none] w fun e w' => e = .returned (.bool false) ∧ w = w' := by
  go_enter Try.func69, Try.ntmps69
  go_wp2
  go_ret
  exact ⟨rfl, rfl⟩
set_option maxHeartbeats 400000 in
theorem may_any (p : Nat) (D : Option Nat) (s : List Nat × Bool) (w : World) (hT : IsT w 98 p D s) : Calls Try.prog 69 #[.pointer (some ⟨p, 0, none⟩)] w fun e w' => e = .returned (.bool (!s.2)) ∧ w = w' := by
  obtain ⟨A, c, h1, _⟩ := hT
  have c1 : w.cell? ⟨p, 1, none⟩ = some (.bool s.2) := cell_at h1 1
  clear h1
  go_enter Try.func69, Try.ntmps69
  go_wp2
  go_ret
  exact ⟨rfl, rfl⟩
set_option maxHeartbeats 400000 in
theorem fault_any (p : Nat) (D : Option Nat) (s : List Nat × Bool) (w : World) (hT : IsT w 98 p D s) (hp : D ≠ some p) : Calls Try.prog 71 #[.pointer (some ⟨p, 0, none⟩)] w (RetT 98 p D (.tuple #[]) (s.1, true) w) := by
  obtain ⟨A, c, h1, h2, h3, h4, h5, h6, h7⟩ := hT
  have c0 := cell_at h1 1
  have c1 := frozen_at h1 1
  have HF := Lib.hid (IsT.of_set1 h1 h2 h3 h4 h5 hp h6 h7 true)
  clear h1 h2 h3 h4 h5 h6 h7
  go_enter Try.func71, Try.ntmps71
  go_wp2
  go_end0
  exact ⟨rfl, HF.out.1, HF.out.2⟩

theorem fstV_some' {bs : List Nat} {n : Int} {k : Nat} (h : firstN bs = some (n, k)) : fstV bs = .tuple #[.int .i64 n, .int .i64 k, .int .i64 0] := fstV_some h

set_option maxRecDepth 100000 in
set_option maxHeartbeats 400000 in
theorem tnum_nil (a b : Int) (w : World) : Calls Try.prog 39 #[.pointer none, .int .i64 a, .int .i64 b] w fun e w' => e = .returned (.int .i64 0) ∧ w = w' := by
  go_enter Try.func39, Try.ntmps39
  go_wp2_with (go_at_call 69; refine (may_nil _).mono ?_; rintro e w' ⟨rfl, rfl⟩)
  go_ret
  exact ⟨rfl, rfl⟩

set_option maxRecDepth 100000 in
set_option maxHeartbeats 400000 in
theorem tnum_bad (p : Nat) (D : Option Nat) (bs : List Nat) (a b : Int) (w : World) (hT : IsT w 98 p D (bs, true)) :
    Calls Try.prog 39 #[.pointer (some ⟨p, 0, none⟩), .int .i64 a, .int .i64 b] w (RetT 98 p D (.int .i64 0) (bs, true) w) := by
  have HT := Lib.hid hT
  clear hT
  go_enter Try.func39, Try.ntmps39
  go_wp2_with (go_at_call 69; refine (may_any p D (bs, true) _ HT.out).mono ?_; rintro e w' ⟨rfl, rfl⟩)
  go_ret
  exact ⟨rfl, HT.out, Fr.refl _⟩

set_option maxRecDepth 100000 in
set_option maxHeartbeats 1000000 in
theorem tnum_none (p : Nat) (D : Option Nat) (bs : List Nat) (a b : Int) (w : World) (hT : IsT w 98 p D (bs, false)) (hp : D ≠ some p) (hf : firstN bs = none) :
    Calls Try.prog 39 #[.pointer (some ⟨p, 0, none⟩), .int .i64 a, .int .i64 b] w (RetT 98 p D (.int .i64 0) (bs, true) w) := by
  have HT := Lib.hid hT
  have HV := Lib.hid (fstV_none hf)
  have HD := Lib.hid hp
  obtain ⟨A, c, h1, h2, h3, h4, h5, h6, h7⟩ := hT
  have c0 : w.cell? ⟨p, 0, none⟩ = some (.slice A bs.length c) := cell_at h1 0
  have H4 := Lib.hid h4
  have H6 := Lib.hid h6
  have H3 := Lib.hid h3
  clear h1 h3 h4 h5 h6 h7 hf hp
  go_enter Try.func39, Try.ntmps39
  go_wp2_with (go_at_call 69; refine (may_any p D (bs, false) _ HT.out).mono ?_; rintro e w' ⟨rfl, rfl⟩)
  refine (first_any A c bs _ H4.out H6.out h2 H3.out).mono ?_
  rintro e w1 ⟨rfl, hb1⟩
  rw [HV.out]
  have HB1 := Lib.hid hb1
  clear hb1 c0
  go_wp2_with fail
  refine (fault_any p D (bs, false) _ (HT.out.below HB1.out) HD.out).mono ?_
  rintro e w2 ⟨rfl, h2, hf2⟩
  have H2 := Lib.hid h2
  have HF2 := Lib.hid hf2
  clear h2 hf2
  go_wp2
  go_ret
  exact ⟨rfl, H2.out, (Fr.of_below HB1.out).trans HF2.out⟩

set_option maxRecDepth 100000 in
set_option maxHeartbeats 1000000 in
theorem tnum_out (p : Nat) (D : Option Nat) (bs : List Nat) (a b n : Int) (k : Nat) (w : World) (hT : IsT w 98 p D (bs, false)) (hp : D ≠ some p) (hf : firstN bs = some (n, k)) (ho : n < a ∨ b < n) :
    Calls Try.prog 39 #[.pointer (some ⟨p, 0, none⟩), .int .i64 a, .int .i64 b] w (RetT 98 p D (.int .i64 0) (bs, true) w) := by
  have HT := Lib.hid hT
  have HV := Lib.hid (fstV_some hf)
  have HD := Lib.hid hp
  obtain ⟨A, c, h1, h2, h3, h4, h5, h6, h7⟩ := hT
  have c0 : w.cell? ⟨p, 0, none⟩ = some (.slice A bs.length c) := cell_at h1 0
  have H4 := Lib.hid h4
  have H6 := Lib.hid h6
  have H3 := Lib.hid h3
  clear h1 h3 h4 h5 h6 h7 hf hp
  by_cases hlt : n < a
  all_goals
    go_enter Try.func39, Try.ntmps39
    go_wp2_with (go_at_call 69; refine (may_any p D (bs, false) _ HT.out).mono ?_; rintro e w' ⟨rfl, rfl⟩)
    refine (first_any A c bs _ H4.out H6.out h2 H3.out).mono ?_
    rintro e w1 ⟨rfl, hb1⟩
    rw [HV.out]
    have HB1 := Lib.hid hb1
    clear hb1 c0
    go_wp2_with fail
    refine (fault_any p D (bs, false) _ (HT.out.below HB1.out) HD.out).mono ?_
    rintro e w2 ⟨rfl, h2, hf2⟩
    have H2 := Lib.hid h2
    have HF2 := Lib.hid hf2
    clear h2 hf2
    go_wp2
    go_ret
    exact ⟨rfl, H2.out, (Fr.of_below HB1.out).trans HF2.out⟩

set_option maxRecDepth 100000 in
set_option maxHeartbeats 1000000 in
theorem tnum_in (p : Nat) (D : Option Nat) (bs : List Nat) (a b n : Int) (k : Nat) (w : World) (hT : IsT w 98 p D (bs, false)) (hp : D ≠ some p) (hf : firstN bs = some (n, k)) (ha : a ≤ n) (hnb : n ≤ b) :
    Calls Try.prog 39 #[.pointer (some ⟨p, 0, none⟩), .int .i64 a, .int .i64 b] w (RetT 98 p D (.int .i64 n) (bs.drop k, false) w) := by
  have HT := Lib.hid hT
  have HV := Lib.hid (fstV_some hf)
  have HD := Lib.hid hp
  obtain ⟨A, c, h1, h2, h3, h4, h5, h6, h7⟩ := hT
  simp only at h1 h2 h3 h4 h5 h6
  clear h7
  obtain ⟨_, _, hk1, hk2⟩ := firstN_some h6 hf
  obtain ⟨g, o, rfl, hg, _⟩ := h4.2 (by omega)
  have c0 : w.cell? ⟨p, 0, none⟩ = some (.slice (some ⟨g, o, none⟩) bs.length c) := cell_at h1 0
  have hm : c ≤ 9223372036854775807 := by unfold maxLen at h3; omega
  have H1 := Lib.hid h1
  have H4 := Lib.hid h4
  have H5 := Lib.hid h5
  have H6 := Lib.hid h6
  have H3 := Lib.hid h3
  have hdl : (bs.drop k).length = bs.length - k := by simp
  have HDL := Lib.hid hdl
  have hmd : (bs.drop k).map u8v = (bs.map u8v).drop (k * 1) := by simp
  have HMD := Lib.hid hmd
  have HB6 := Lib.hid (fun x hx => h6 x (List.mem_of_mem_drop (i := k) hx))
  clear h1 h3 h4 h5 h6 hf hp hg hdl hmd
  by_cases hkc : c = k
  · subst hkc
    have hfull : bs.length = c := by omega
    have HFU := Lib.hid hfull
    clear hfull
    go_enter Try.func39, Try.ntmps39
    go_wp2_with (go_at_call 69; refine (may_any p D (bs, false) _ HT.out).mono ?_; rintro e w' ⟨rfl, rfl⟩)
    refine (first_any (some ⟨g, o, none⟩) c bs _ H4.out H6.out h2 H3.out).mono ?_
    rintro e w1 ⟨rfl, hb1⟩
    rw [HV.out]
    have hp1 := (Fr.of_below (B := 0) (T := []) (S := []) hb1).keep0 H1.out (by simp)
    have c0 : w1.cell? ⟨p, 0, none⟩ = some (.slice (some ⟨g, o, none⟩) bs.length c) := cell_at hp1 0
    have c1 := frozen_at hp1 0
    have HP1 := Lib.hid hp1
    have HB1 := Lib.hid hb1
    clear hb1 hp1
    go_wp2_with fail
    go_ret
    have hn : (bs.drop c).length = 0 := by rw [HDL.out]; omega
    have := IsT.of_set0 (D := D) (bs := bs.drop c) (A := some ⟨g, o, none⟩) (c := 0) HP1.out (by omega) (Nat.zero_le _) (by rw [List.eq_nil_of_length_eq_zero hn]; exact Rd.nil) (by omega) HD.out HB6.out (.inr ⟨_, _, rfl⟩)
    rw [hn] at this
    have e : bs.length - c = 0 := by omega
    try rw [e]
    exact ⟨rfl, this.1, (Fr.of_below HB1.out).trans this.2⟩
  · have hck : k < c := by omega
    clear hkc
    go_enter Try.func39, Try.ntmps39
    go_wp2_with (go_at_call 69; refine (may_any p D (bs, false) _ HT.out).mono ?_; rintro e w' ⟨rfl, rfl⟩)
    refine (first_any (some ⟨g, o, none⟩) c bs _ H4.out H6.out h2 H3.out).mono ?_
    rintro e w1 ⟨rfl, hb1⟩
    rw [HV.out]
    have hp1 := (Fr.of_below (B := 0) (T := []) (S := []) hb1).keep0 H1.out (by simp)
    have c0 : w1.cell? ⟨p, 0, none⟩ = some (.slice (some ⟨g, o, none⟩) bs.length c) := cell_at hp1 0
    have c1 := frozen_at hp1 0
    have HP1 := Lib.hid hp1
    have HB1 := Lib.hid hb1
    clear hb1 hp1
    go_wp2_with fail
    go_ret
    have hr1 := H4.out.below (HB1.out.mono (Nat.le_refl _))
    have := IsT.of_set0 (D := D) (bs := bs.drop k) (A := some ⟨g, o + k, none⟩) (c := c - k) HP1.out (by rw [HDL.out]; omega) (by have := H3.out; omega) (by rw [HMD.out, HDL.out]; exact hr1.drop hk2 (fun _ => by simp)) (fun hn a ha => by
      cases ha
      exact H5.out (by omega) ⟨g, o, none⟩ rfl) HD.out HB6.out (.inr ⟨_, _, rfl⟩)
    rw [HDL.out] at this
    exact ⟨rfl, this.1, (Fr.of_below HB1.out).trans this.2⟩

theorem tnum_any (p : Nat) (D : Option Nat) (s : List Nat × Bool) (a b : Int) (w : World) (hT : IsT w 98 p D s) (hp : D ≠ some p) :
    Calls Try.prog 39 #[.pointer (some ⟨p, 0, none⟩), .int .i64 a, .int .i64 b] w (RetT 98 p D (.int .i64 (numT s a b).1) (numT s a b).2 w) := by
  obtain ⟨bs, bad⟩ := s
  cases bad with
  | true => rw [numT_bad rfl]; exact tnum_bad p D bs a b w hT
  | false =>
    cases hf : firstN bs with
    | none => rw [numT_none rfl hf]; exact tnum_none p D bs a b w hT hp hf
    | some q =>
      obtain ⟨n, k⟩ := q
      by_cases ho : n < a ∨ b < n
      · rw [numT_out rfl hf ho]; exact tnum_out p D bs a b n k w hT hp hf ho
      · rw [numT_in rfl hf (by omega) (by omega)]; exact tnum_in p D bs a b n k w hT hp hf (by omega) (by omega)

set_option maxHeartbeats 400000 in
theorem tdone_nil (w : World) : Calls Try.prog 43 #[.pointer none] w fun e w' => e = .returned (.int .i64 6) ∧ w = w' := by
  go_enter Try.func43, Try.ntmps43
  go_wp2
  go_ret
  exact ⟨rfl, rfl⟩
set_option maxHeartbeats 400000 in
theorem tdone_any (p : Nat) (D : Option Nat) (s : List Nat × Bool) (w : World) (hT : IsT w 98 p D s) :
    Calls Try.prog 43 #[.pointer (some ⟨p, 0, none⟩)] w fun e w' => e = .returned (.int .i64 (doneT s)) ∧ w = w' := by
  obtain ⟨bs, bad⟩ := s
  obtain ⟨A, c, h1, h2, h3, h4, h5, h6, h7⟩ := hT
  have c0 : w.cell? ⟨p, 0, none⟩ = some (.slice A bs.length c) := cell_at h1 0
  have c1 : w.cell? ⟨p, 1, none⟩ = some (.bool bad) := cell_at h1 1
  have hm : c ≤ 9223372036854775807 := by unfold maxLen at h3; omega
  clear h1 h3 h4 h5 h6 h7
  cases bad
  · by_cases h0 : 0 < bs.length
    · have HV := Lib.hid (show doneT (bs, false) = 10 by simp [doneT]; intro e; subst e; simp at h0)
      go_enter Try.func43, Try.ntmps43
      go_wp2
      go_ret
      exact ⟨ret_int HV.out.symm, rfl⟩
    · have HV := Lib.hid (show doneT (bs, false) = 0 by unfold doneT; rw [if_neg]; simpa using h0)
      go_enter Try.func43, Try.ntmps43
      go_wp2
      go_ret
      exact ⟨ret_int HV.out.symm, rfl⟩
  · have HV := Lib.hid (show doneT (bs, true) = 10 by simp [doneT])
    go_enter Try.func43, Try.ntmps43
    go_wp2
    go_ret
    exact ⟨ret_int HV.out.symm, rfl⟩
end Go.Proofs.Ytpccbobomppdbaa

namespace Go.Proofs.Ytpccbobomppdbaa
open Go.RowKit

theorem Bs.of_block {w : World} {k : Nat} {cs : Array Value} {T : TypeId} {f : Nat × Nat} {bs : List Nat} (h : w.heap[k]? = some (.cells cs T f)) (hc : cs.toList = bs.map u8v) (hm : bs.length ≤ maxLen) {n : Nat} (hn : n = bs.length) : Bs w (.slice (some ⟨k, 0, none⟩) n n) bs := by
  subst hn
  exact ⟨_, _, rfl, Nat.le_refl _, hm, by simp, fun _ => ⟨_, _, rfl, lt_of_block h, fun j u hu => by
    rw [cell_at h, Nat.zero_add, ← Array.getElem?_toList, hc]; exact hu⟩⟩
theorem IsT.keepM {w w' : World} {T : TypeId} {p q : Nat} {D G : Option Nat} {s : List Nat × Bool} (h : IsT w T p D s) (f : Fr 0 [] (q :: G.toList) w w') (hpq : p ≠ q) (hD : D ≠ some q) (hG : ∀ g, G = some g → g ≠ p ∧ D ≠ some g) : IsT w' T p D s := by
  refine h.keep f ?_ ?_
  · intro hm
    rcases List.mem_cons.1 hm with e | e
    · exact hpq e
    · exact (hG p (by simpa using e)).1 rfl
  · intro d hd hm
    rcases List.mem_cons.1 hm with e | e
    · exact hD (by rw [hd, e])
    · exact (hG d (by simpa using e)).2 hd
theorem IsM.keepT {w w' : World} {p q : Nat} {G : Option Nat} {s : List Nat × Bool} (h : IsM w p G s) (f : Fr 0 [] [q] w w') (hpq : p ≠ q) (hG : G ≠ some q) : IsM w' p G s :=
  h.keep f (by simpa using hpq) (fun g hg => by simp; intro e; exact hG (by rw [hg, e]))
theorem Fr.belowM {w w' : World} {B p : Nat} {G : Option Nat} (f : Fr 0 [] (p :: G.toList) w w') (hp : B ≤ p) (hG : ∀ g, G = some g → B ≤ g) (hB : B ≤ w.heap.size) : Below B w w' :=
  ⟨f.os, f.tape, f.output, f.size, fun k hk => f.block k (by omega) (.inr ⟨by simp, fun hm => by
    rcases List.mem_cons.1 hm with e | e
    · omega
    · have := hG k (by simpa using e)
      omega⟩)⟩
theorem Fr.belowT {w w' : World} {B p : Nat} (f : Fr 0 [] [p] w w') (hp : B ≤ p) (hB : B ≤ w.heap.size) : Below B w w' :=
  ⟨f.os, f.tape, f.output, f.size, fun k hk => f.block k (by omega) (.inr ⟨by simp, fun hm => by simp at hm; omega⟩)⟩
/-- A maker's block is not older than B, and is no block of a taker's. -/
def Free (B : Nat) (q : Nat) (D G : Option Nat) : Prop := ∀ g, G = some g → B ≤ g ∧ g ≠ q ∧ D ≠ some g
theorem Free.none {B q : Nat} {D : Option Nat} : Free B q D none := by intro g hg; cases hg
theorem Free.next {B q n : Nat} {D G G' : Option Nat} (h : Free B q D G) (hg : G' = G ∨ ∃ g, G' = some g ∧ n ≤ g) (hB : B ≤ n) (hq : q < n) (hD : ∀ d, D = some d → d < n) : Free B q D G' := by
  intro g he
  rcases hg with e | ⟨g', e, hn⟩
  · exact h g (e ▸ he)
  · rw [he] at e
    injection e with e
    subst e
    exact ⟨by omega, by omega, fun hd => by have := hD _ hd; omega⟩
/-- What comes back is in the maker's own block, or in a new one. -/
theorem fresh_ne {G G' : Option Nat} {n q : Nat} (h : G' = G ∨ ∃ g, G' = some g ∧ n ≤ g) (hq : q < n) (hG : G ≠ some q) : G' ≠ some q := by
  rcases h with h | ⟨g, h, hg⟩
  · rw [h]; exact hG
  · rw [h]; intro e; injection e with e; omega
end Go.Proofs.Ytpccbobomppdbaa

namespace Go.Proofs.Ytpccbobomppdbaa
open Go.RowKit

/-- A maker that has come since w; all that was there at w is as it was. -/
def Mk (w : World) (p : Nat) (s : List Nat × Bool) (W : World) : Prop := ∃ G, IsM W p G s ∧ w.heap.size ≤ p ∧ (∀ g, G = some g → w.heap.size ≤ g) ∧ Below w.heap.size w W
theorem Mk.below {w W : World} {p : Nat} {s : List Nat × Bool} (h : Mk w p s W) : Below w.heap.size w W := by obtain ⟨G, _, _, _, h⟩ := h; exact h
theorem Mk.keep {w W W' : World} {p : Nat} {s : List Nat × Bool} (h : Mk w p s W) (hb : Below W.heap.size W W') : Mk w p s W' := by
  obtain ⟨G, h1, h2, h3, h4⟩ := h
  exact ⟨G, h1.below hb, h2, h3, h4.trans (hb.mono h4.size)⟩
theorem mk_new {w W : World} (hb : Below w.heap.size w W) : Calls Try.prog 19 #[] W fun e W' => e = .returned (.pointer (some ⟨W.heap.size, 0, none⟩)) ∧ Mk w W.heap.size ([], false) W' :=
  (new_any W).mono fun e W' ⟨he, hM, hb'⟩ => ⟨he, none, hM, hb.size, by simp, hb.trans (hb'.mono hb.size)⟩
theorem Mk.ret {w W : World} {p : Nat} {s s' : List Nat × Bool} {f : FuncId} {args : Array Value} (h : Mk w p s W) (hc : ∀ G, IsM W p G s → Calls Try.prog f args W (RetM p G s' W)) :
    Calls Try.prog f args W fun e W' => e = .returned (.pointer (some ⟨p, 0, none⟩)) ∧ Mk w p s' W' := by
  obtain ⟨G, h1, h2, h3, h4⟩ := h
  refine (hc G h1).mono fun e W' ⟨G', he, hM, hf, hg⟩ => ⟨he, G', hM, h2, fun g hg' => ?_, h4.trans (hf.belowM h2 h3 h4.size)⟩
  rcases hg with e | ⟨g', e, hn⟩
  · exact h3 g (e ▸ hg')
  · rw [hg'] at e
    injection e with e
    have := h4.size
    omega
theorem mk_num {w W : World} {p : Nat} {s : List Nat × Bool} (h : Mk w p s W) (n : Int) (hn : I64 n) : Calls Try.prog 20 #[.pointer (some ⟨p, 0, none⟩), .int .i64 n] W fun e W' => e = .returned (.pointer (some ⟨p, 0, none⟩)) ∧ Mk w p (putS s (numB n)) W' :=
  h.ret fun G hM => mnum_any p G s n W hM hn
/-- What Done hands back, seen from w. -/
def RetDone (w : World) (p : Nat) (s : List Nat × Bool) (e : Ending) (W' : World) : Prop :=
  ∃ v, e = .returned (.tuple #[v, .int .i64 (if s.2 then 3 else 0)]) ∧ Bs W' v (if s.2 then [] else s.1) ∧ (∀ g, v.ownBlock = some g → w.heap.size ≤ g) ∧ (∀ A n c, v = .slice A n c → SlA A c) ∧ Mk w p s W'
theorem mk_done {w W : World} {p : Nat} {s : List Nat × Bool} (h : Mk w p s W) (hl : s.1.length ≤ 262144) : Calls Try.prog 24 #[.pointer (some ⟨p, 0, none⟩)] W (RetDone w p s) := by
  have hk := h
  obtain ⟨G, h1, h2, h3, h4⟩ := h
  refine (mdone_any p G s W h1 hl).mono fun _ _ ⟨v, he, ho, hb⟩ => ⟨v, he, ?_, fun g hg => Nat.le_trans h4.size (own_block ho hg).1, fun A n c hv => by subst hv; exact SlA.of_own ho, hk.keep hb⟩
  obtain ⟨bs, lg⟩ := s
  cases lg with
  | true => exact Bs.own_n (bs := []) ho
  | false => exact Bs.own_n ho
theorem putS_len {s : List Nat × Bool} (h : s.1.length ≤ 262144) (c : List Nat) : (putS s c).1.length ≤ 262144 := by
  unfold putS
  split
  · exact h
  · rename_i h'
    simp only [List.length_append]
    omega

/-- A taker that has come since w. -/
def Tk (w : World) (p : Nat) (s : List Nat × Bool) (W : World) : Prop := ∃ D, IsT W 98 p D s ∧ D ≠ some p ∧ w.heap.size ≤ p ∧ Below w.heap.size w W
theorem Tk.below {w W : World} {p : Nat} {s : List Nat × Bool} (h : Tk w p s W) : Below w.heap.size w W := by obtain ⟨D, _, _, _, h⟩ := h; exact h
theorem Tk.lt {w W : World} {p : Nat} {s : List Nat × Bool} (h : Tk w p s W) : ∀ b ∈ s.1, b < 256 := by
  obtain ⟨D, ⟨A, c, _, _, _, _, _, h, _⟩, _⟩ := h
  exact h
theorem Tk.keep {w W W' : World} {p : Nat} {s : List Nat × Bool} (h : Tk w p s W) (hb : Below W.heap.size W W') : Tk w p s W' := by
  obtain ⟨G, h1, h2, h3, h4⟩ := h
  exact ⟨G, h1.below hb, h2, h3, h4.trans (hb.mono h4.size)⟩
def RetTake (w : World) (bs : List Nat) (e : Ending) (W' : World) : Prop := ∃ p, e = .returned (.pointer (some ⟨p, 0, none⟩)) ∧ Tk w p (bs, false) W'
theorem tk_take {w W : World} (hb : Below w.heap.size w W) (v : Value) (bs : List Nat) (hv : Bs W v bs) (hl : ∀ b ∈ bs, b < 256) (ht : bs.length ≤ 140737488355328) : Calls Try.prog 38 #[v] W (RetTake w bs) :=
  (take_any v bs W hv hl ht).mono fun _ _ ⟨p, D, he, hp, hT, hD, _, hb'⟩ => ⟨p, he, D, hT, hD, Nat.le_trans hb.size hp, hb.trans (hb'.mono hb.size)⟩
theorem Tk.ret {w W : World} {p : Nat} {s s' : List Nat × Bool} {f : FuncId} {args : Array Value} {val : Value} (h : Tk w p s W) (hc : ∀ D, IsT W 98 p D s → D ≠ some p → Calls Try.prog f args W (RetT 98 p D val s' W)) :
    Calls Try.prog f args W fun e W' => e = .returned val ∧ Tk w p s' W' := by
  obtain ⟨D, h1, h2, h3, h4⟩ := h
  exact (hc D h1 h2).mono fun e W' ⟨he, hT, hf⟩ => ⟨he, D, hT, h2, h3, h4.trans (hf.belowT h3 h4.size)⟩
theorem tk_num {w W : World} {p : Nat} {s : List Nat × Bool} (h : Tk w p s W) (a b : Int) : Calls Try.prog 39 #[.pointer (some ⟨p, 0, none⟩), .int .i64 a, .int .i64 b] W fun e W' => e = .returned (.int .i64 (numT s a b).1) ∧ Tk w p (numT s a b).2 W' :=
  h.ret fun D hT hD => tnum_any p D s a b W hT hD
theorem tk_done {w W : World} {p : Nat} {s : List Nat × Bool} (h : Tk w p s W) : Calls Try.prog 43 #[.pointer (some ⟨p, 0, none⟩)] W fun e W' => e = .returned (.int .i64 (doneT s)) ∧ W = W' := by
  obtain ⟨D, h1, _⟩ := h
  exact tdone_any p D s W h1
theorem strOf_natsOf (s : ByteArray) : strOf (natsOf s) = s := by
  unfold strOf natsOf
  rw [List.map_map]
  have : (UInt8.ofNat ∘ UInt8.toNat) = id := by funext x; simp
  rw [this, List.map_id]
end Go.Proofs.Ytpccbobomppdbaa

namespace Go.Proofs.Ytpccbobomppdbaa
open Go.RowKit

theorem digF_more (f u : Nat) (h : u < 256 ^ f) : digF (f + 1) u = digF f u := by
  induction f generalizing u with
  | zero => simp at h; subst h; simp [digF]
  | succ f ih =>
    by_cases h0 : u = 0
    · subst h0
      rw [digF_zero, digF_zero]
    · have e1 : digF (f + 1 + 1) u = digF (f + 1) (u / 256) ++ [u % 256] := by rw [digF, if_neg h0]
      have e2 : digF (f + 1) u = digF f (u / 256) ++ [u % 256] := by rw [digF, if_neg h0]
      rw [e1, e2, ih (u / 256) (by rw [Nat.div_lt_iff_lt_mul (by omega), ← Nat.pow_succ]; exact h)]
theorem dig_step (u : Nat) (h : u < 18446744073709551616) (h0 : 0 < u) : dig u = dig (u / 256) ++ [u % 256] := by
  unfold dig
  rw [digF, if_neg (by omega), digF_more 7 (u / 256) (by have : (256 : Nat) ^ 7 = 72057594037927936 := by rfl
                                                         omega)]
theorem dig_nil : dig 0 = [] := digF_zero 8
theorem u8_one (bs : List Nat) : ∀ u ∈ bs.map u8v, u.oneCell' = true := by
  intro u hu
  obtain ⟨b, _, rfl⟩ := List.mem_map.1 hu
  rfl
theorem Bs.own_lt {w : World} {B e : Nat} {v : Value} {n : Nat} {bs : List Nat} (h : w.ownsRow B e 1 v n (bs.map u8v)) : Bs w v bs := by
  have : bs.length = n := by simpa using h.1
  subst this
  exact Bs.of_own h

/-- What holds between two rounds of digits. -/
def DigRel (w : World) (U : Nat) (u o : Value) (wr : World) : Prop := ∃ (m : Nat) (bs : List Nat), u = .int .u64 m ∧ m ≤ U ∧ dig U = dig m ++ bs ∧ Bs wr o bs ∧ Below w.heap.size w wr

set_option maxRecDepth 100000 in
set_option maxHeartbeats 2000000 in
theorem digits_any (U : Nat) (w : World) (hU : U < 18446744073709551616) : Calls Try.prog 82 #[.int .u64 U] w (RetB (dig U) w) := by
  obtain ⟨i0, hi0, hz0, hz1, hz2⟩ := info_parts Try.infoByte
  go_enter Try.func82, Try.ntmps82
  go_wp2_with fail
  go_loopw [0, 3] (fun u o wr => DigRel w U u o wr) (fun u _ _ => (intOf u).toNat)
  case atStart => exact ⟨U, [], rfl, Nat.le_refl _, by simp, ⟨none, 0, rfl, Nat.le_refl _, Nat.zero_le _, by simp, fun h => absurd h (by simp)⟩, Below.refl _ _⟩
  case round =>
    obtain ⟨m, bs, rfl, hm, hd, ⟨A, c, rfl, hbc, hcm, hrd⟩, hb⟩ := hrel
    have HC := Lib.hid hcm
    have HD := Lib.hid hd
    have HR := Lib.hid hrd
    have hbl : bs.length ≤ 8 := by
      have h1 := congrArg List.length hd
      have h2 := dig_le U
      simp at h1
      omega
    clear hcm hd hrd
    by_cases h0 : m = 0
    · subst h0
      go_wp2
      go_ret
      refine ⟨_, rfl, ?_, hb⟩
      rw [HD.out, dig_nil, List.nil_append]
      exact ⟨A, c, rfl, hbc, HC.out, HR.out⟩
    · have hpos : 0 < m := by omega
      go_wp2_with (at_builtin
                   refine wpList_append_rd _ rfl (.tmp 9) (.tmp 10) 31 rfl wr.heap.size 5 i0 (.int .u8 0) 1 1 Try.underlying31 hi0 hz0 hz1 hz2 rfl (by decide) (.slice (some ⟨wr.heap.size, 0, none⟩) 1 1) 1 ([m % 256].map u8v) rfl (own_byte wr _ (m % 256) (by omega)) A bs.length c (bs.map u8v) rfl (HR.out.below ((Below.refl _ _).alloc (Nat.le_refl _) _)) (u8_one bs) (by unfold maxLen; omega) (by omega) (by simp) ?_
                   intro v5 w5 hown5 hgrow5 _
                   have HO5 := Lib.hid hown5
                   have HG5 := Lib.hid hgrow5
                   clear hown5 hgrow5)
      go_roundw
      case rel =>
        have f5 : Fr wr.heap.size [5] [] wr w5 := ((Fr.refl wr).alloc _).grown HG5.out (fun j hj => by
          simp [Value.ownBlock] at hj
          subst hj
          exact ⟨Nat.le_refl _, .inr ⟨_, _, _, block_new _ _, by simp⟩⟩)
        refine ⟨m / 256, m % 256 :: bs, by go_num, by omega, ?_, Bs.own_lt (bs := m % 256 :: bs) (by simpa using HO5.out), hb.trans ((f5.below (Nat.le_refl _)).mono hb.size)⟩
        rw [HD.out, dig_step m (by omega) hpos, List.append_assoc]
        rfl
      case measure => simp [intOf]; omega

/-- A call that hands back bytes in new memory that is the caller's own. -/
def RetN (bs : List Nat) (w : World) (e : Ending) (w' : World) : Prop := ∃ v, e = .returned v ∧ w'.ownsRow w.heap.size 5 1 v bs.length (bs.map u8v) ∧ Below w.heap.size w w'
theorem own_base {w : World} {B B' e n : Nat} {v : Value} {bs : List Nat} (h : w.ownsRow B e 1 v n (bs.map u8v)) (hB : B' ≤ B) : w.ownsRow B' e 1 v bs.length (bs.map u8v) := by
  have hl : bs.length = n := by simpa using h.1
  subst hl
  refine ⟨h.1, ?_⟩
  rcases h.2 with h | ⟨g, cap, cur, h1, h2, h3⟩
  · exact .inl h
  · exact .inr ⟨g, cap, cur, h1, Nat.le_trans hB h2, h3⟩

set_option maxRecDepth 100000 in
set_option maxHeartbeats 400000 in
theorem rnum_small (n : Int) (w : World) (h0 : 0 ≤ n) (h1 : n < 128) : Calls Try.prog 74 #[.int .i64 n] w (RetN (numB n) w) := by
  have hn : numB n = [n.toNat] := by unfold numB; rw [if_pos ⟨h0, h1⟩]
  have HN := Lib.hid hn
  clear hn
  go_enter Try.func74, Try.ntmps74
  go_wp2
  go_ret
  refine ⟨_, rfl, ?_, (Below.refl _ _).alloc (Nat.le_refl _) _⟩
  rw [HN.out]
  exact own_byte w n n.toNat (by omega)

set_option maxRecDepth 100000 in
set_option maxHeartbeats 2000000 in
theorem rnum_pos (n : Int) (w : World) (h0 : 128 ≤ n) (h1 : n ≤ 9223372036854775807) : Calls Try.prog 74 #[.int .i64 n] w (RetN (numB n) w) := by
  obtain ⟨i0, hi0, hz0, hz1, hz2⟩ := info_parts Try.infoByte
  have hnum : numB n = (128 + (dig n.toNat).length) :: dig n.toNat := by
    unfold numB
    rw [if_neg (by omega), if_pos (by omega)]
  have HNum := Lib.hid hnum
  clear hnum
  obtain ⟨u, rfl⟩ : ∃ u : Nat, n = u := ⟨n.toNat, by omega⟩
  go_enter Try.func74, Try.ntmps74
  go_wp2_with fail
  refine (digits_any u w (by omega)).mono ?_
  rintro e w1 ⟨v, rfl, ⟨A, c, rfl, hbc, hcm, hrd⟩, hb⟩
  have hd8 := dig_le u
  have HR := Lib.hid hrd
  clear hcm hrd h0 h1
  obtain ⟨d, hdd⟩ : ∃ d, (dig u).length = d := ⟨_, rfl⟩
  have HDD := Lib.hid hdd
  rw [hdd] at hd8 hbc
  simp only [hdd]
  clear hdd
  go_wp2_with (at_builtin
               refine wpList_append_rd _ rfl (.tmp 28) (.tmp 29) 31 rfl w1.heap.size 5 i0 (.int .u8 0) 1 1 Try.underlying31 hi0 hz0 hz1 hz2 rfl (by decide) (.slice (some ⟨w1.heap.size, 0, none⟩) 1 1) 1 ([128 + d].map u8v) rfl (own_byte w1 _ (128 + d) (by omega)) A d c ((dig u).map u8v) rfl ((HDD.out ▸ HR.out : Rd w1 1 A d ((dig u).map u8v)).below ((Below.refl _ _).alloc (Nat.le_refl _) _)) (u8_one _) (by unfold maxLen; omega) (by omega) (by simp) ?_
               intro v5 w5 hown5 hgrow5 _
               have HO5 := Lib.hid hown5
               have HG5 := Lib.hid hgrow5
               clear hown5 hgrow5)
  go_ret
  refine ⟨_, rfl, ?_, ?_⟩
  · rw [HNum.out]
    exact own_base (bs := (128 + (dig u).length) :: dig u) (B := w1.heap.size) (n := 1 + d) (by rw [HDD.out]; simpa using HO5.out) hb.size
  · have f5 : Fr w1.heap.size [5] [] w1 w5 := ((Fr.refl w1).alloc _).grown HG5.out (fun j hj => by
      simp [Value.ownBlock] at hj
      subst hj
      exact ⟨Nat.le_refl _, .inr ⟨_, _, _, block_new _ _, by simp⟩⟩)
    exact hb.trans ((f5.below (Nat.le_refl _)).mono hb.size)

set_option maxRecDepth 100000 in
set_option maxHeartbeats 2000000 in
theorem rnum_neg (n : Int) (w : World) (h0 : n < 0) (h1 : -9223372036854775808 ≤ n) : Calls Try.prog 74 #[.int .i64 n] w (RetN (numB n) w) := by
  obtain ⟨i0, hi0, hz0, hz1, hz2⟩ := info_parts Try.infoByte
  have hnum : numB n = (144 + (dig (-1 - n).toNat).length) :: dig (-1 - n).toNat := by
    unfold numB
    rw [if_neg (by omega), if_neg (by omega)]
  have HNum := Lib.hid hnum
  have hwrap : IntKind.u64.wrap n = ((n + 18446744073709551616).toNat : Int) := by
    simp only [IntKind.wrap, IntKind.bits, IntKind.signed]
    simp
    omega
  have HW := Lib.hid hwrap
  clear hnum hwrap
  have d0 : decide (n < 0) = true := by simpa using h0
  have d1 : decide (0 ≤ n) = false := by simp; omega
  have H0 := Lib.hid h0
  have H1 := Lib.hid h1
  clear h0 h1
  go_enter Try.func74, Try.ntmps74
  go_wp2_with fail
  rw [HW.out]
  have h0 := H0.out
  have h1 := H1.out
  refine (digits_any _ w (by omega)).mono ?_
  rintro e w1 ⟨v, rfl, _, hb1⟩
  obtain ⟨u, hu⟩ : ∃ u : Nat, n = -1 - u := ⟨(-1 - n).toNat, by omega⟩
  subst hu
  clear HW H0 H1 d0 d1
  have HNum' : Hid (numB (-1 - (u : Int)) = (144 + (dig u).length) :: dig u) := by
    have := HNum.out
    rw [show (-1 - (-1 - (u : Int))).toNat = u by omega] at this
    exact this
  clear HNum
  go_wp2_with fail
  rw [show (-1 - (-1 - (u : Int))) = u by omega]
  refine (digits_any u w1 (by omega)).mono ?_
  rintro e w2 ⟨v2, rfl, ⟨A, c, rfl, hbc, hcm, hrd⟩, hb⟩
  have hd8 := dig_le u
  have HR := Lib.hid hrd
  clear hcm hrd h0 h1
  obtain ⟨d, hdd⟩ : ∃ d, (dig u).length = d := ⟨_, rfl⟩
  have HDD := Lib.hid hdd
  rw [hdd] at hd8 hbc
  simp only [hdd]
  clear hdd
  go_wp2_with (at_builtin
               refine wpList_append_rd _ rfl (.tmp 28) (.tmp 29) 31 rfl w2.heap.size 5 i0 (.int .u8 0) 1 1 Try.underlying31 hi0 hz0 hz1 hz2 rfl (by decide) (.slice (some ⟨w2.heap.size, 0, none⟩) 1 1) 1 ([144 + d].map u8v) rfl (own_byte w2 _ (144 + d) (by omega)) A d c ((dig u).map u8v) rfl ((HDD.out ▸ HR.out : Rd w2 1 A d ((dig u).map u8v)).below ((Below.refl _ _).alloc (Nat.le_refl _) _)) (u8_one _) (by unfold maxLen; omega) (by omega) (by simp) ?_
               intro v5 w5 hown5 hgrow5 _
               have HO5 := Lib.hid hown5
               have HG5 := Lib.hid hgrow5
               clear hown5 hgrow5)
  go_ret
  refine ⟨_, rfl, ?_, ?_⟩
  · rw [HNum'.out]
    exact own_base (bs := (144 + (dig u).length) :: dig u) (B := w2.heap.size) (n := 1 + d) (by rw [HDD.out]; simpa using HO5.out) (Nat.le_trans hb1.size hb.size)
  · have f5 : Fr w2.heap.size [5] [] w2 w5 := ((Fr.refl w2).alloc _).grown HG5.out (fun j hj => by
      simp [Value.ownBlock] at hj
      subst hj
      exact ⟨Nat.le_refl _, .inr ⟨_, _, _, block_new _ _, by simp⟩⟩)
    exact hb1.trans ((hb.trans ((f5.below (Nat.le_refl _)).mono hb.size)).mono hb1.size)

theorem rnum_own (n : Int) (w : World) (h : I64 n) : Calls Try.prog 74 #[.int .i64 n] w (RetN (numB n) w) := by
  by_cases h0 : n < 0
  · exact rnum_neg n w h0 h.1
  · by_cases h1 : n < 128
    · exact rnum_small n w (by omega) h1
    · exact rnum_pos n w (by omega) h.2
theorem rnum_any (n : Int) (w : World) (h : I64 n) : Calls Try.prog 74 #[.int .i64 n] w (RetB (numB n) w) :=
  (rnum_own n w h).mono fun _ _ ⟨v, he, ho, hb⟩ => ⟨v, he, Bs.own_lt ho, hb⟩

end Go.Proofs.Ytpccbobomppdbaa
