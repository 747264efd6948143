/- The contracts of package backlog's functions: what each call does to a backlog that lies in memory. -/
import Derived.Test.YtglfbihdbdcgiaaRows
import Derived.Test.YtglfbihdbdcgiaaMem
import Derived.Deep.QuietTactic
import Derived.BigQuiet
namespace Go.Proofs.Ytglfbihdbdcgiaa
open Go.RowKit

/-- Rows as cells. -/
def flat (rs : List (Int × Bool)) : List Value := rs.flatMap fun r => [.int .i64 r.1, .bool r.2]
theorem flat_length (rs : List (Int × Bool)) : (flat rs).length = rs.length * 2 := by
  induction rs with
  | nil => rfl
  | cons r rs ih => simp [flat] at ih ⊢; omega
theorem flat_append (a b : List (Int × Bool)) : flat (a ++ b) = flat a ++ flat b := by simp [flat]
theorem flat_fst {rs : List (Int × Bool)} {k : Nat} (h : k < rs.length) : (flat rs)[k * 2]? = some (.int .i64 rs[k].1) := by
  induction rs generalizing k with
  | nil => simp at h
  | cons r rs ih =>
    cases k with
    | zero => simp [flat]
    | succ k =>
      have := ih (k := k) (by simpa using h)
      simp only [flat, List.flatMap_cons, Nat.succ_mul] at this ⊢
      simpa using this
theorem flat_snd {rs : List (Int × Bool)} {k : Nat} (h : k < rs.length) : (flat rs)[k * 2 + 1]? = some (.bool rs[k].2) := by
  induction rs generalizing k with
  | nil => simp at h
  | cons r rs ih =>
    cases k with
    | zero => simp [flat]
    | succ k =>
      have := ih (k := k) (by simpa using h)
      simp only [flat, List.flatMap_cons, Nat.succ_mul] at this ⊢
      simpa using this

/-- The place of the first that meets q; -1: none. -/
def idx (q : Int × Bool → Bool) (rs : List (Int × Bool)) : Int := match rs.findIdx? q with | some i => (i : Int) | none => -1
theorem idx_none {q : Int × Bool → Bool} {rs : List (Int × Bool)} (h : ∀ r ∈ rs, q r = false) : idx q rs = -1 := by
  have : rs.findIdx? q = none := by rw [List.findIdx?_eq_none_iff]; exact h
  simp [idx, this]
theorem idx_some {q : Int × Bool → Bool} {rs : List (Int × Bool)} {k : Nat} (hk : k < rs.length) (hq : q rs[k] = true) (h : ∀ j (hj : j < k), q (rs[j]'(by omega)) = false) : idx q rs = k := by
  have : rs.findIdx? q = some k := by
    rw [List.findIdx?_eq_some_iff_getElem]
    exact ⟨hk, hq, fun j hj => by simp [h j hj]⟩
  simp [idx, this]

set_option maxHeartbeats 400000 in
/-- The closure of Place: does the row bear the order that was captured? -/
theorem place1_any (o : Int) (rd : Bool) (n : Int) (b : Nat) (w : World) (hb : w.cell? ⟨b, 0, none⟩ = some (.int .i64 n)) :
    Calls Try.prog 34 #[.agg #[.int .i64 o, .bool rd], .pointer (some ⟨b, 0, none⟩)] w fun e w' => e = .returned (.bool (o == n)) ∧ Below w.heap.size w w' := by
  have hlt := World.block_lt_of_cell? w _ hb
  simp only at hlt
  go_enter Try.func34, Try.ntmps34
  go_wp2
  go_ret
  exact ⟨rfl, (Below.refl _ _).alloc (Nat.le_refl _) _⟩

set_option maxHeartbeats 400000 in
/-- The closure of Try: is the row ready? -/
theorem try1_any (o : Int) (rd : Bool) (w : World) :
    Calls Try.prog 33 #[.agg #[.int .i64 o, .bool rd]] w fun e w' => e = .returned (.bool rd) ∧ Below w.heap.size w w' := by
  go_enter Try.func33, Try.ntmps33
  go_wp2
  go_ret
  exact ⟨rfl, (Below.refl _ _).alloc (Nat.le_refl _) _⟩


set_option maxHeartbeats 1000000 in
/-- slices.IndexFunc over rows, with the closure of Place. -/
theorem indexPlace (n : Int) (b : Nat) (rs : List (Int × Bool)) (A : Option Addr) (c : Nat) (w : World) (hm : rs.length ≤ maxLen) (hr : Rd w 2 A rs.length (flat rs)) (hbx : w.cell? ⟨b, 0, none⟩ = some (.int .i64 n)) :
    Calls Try.prog 32 #[.slice A rs.length c, .func (.func 34) #[] #[.pointer (some ⟨b, 0, none⟩)]] w fun e w' => e = .returned (.int .i64 (idx (fun r => r.1 == n) rs)) ∧ Below w.heap.size w w' := by
  unfold maxLen at hm
  go_enter Try.func32, Try.ntmps32
  go_wp2
  go_loopw [8] (fun i wr => ∃ k : Nat, k ≤ rs.length ∧ i = .int .i64 k ∧ Below w.heap.size w wr ∧ ∀ j (hj : j < rs.length), j < k → (fun r => r.1 == n) rs[j] = false) (fun i _ => rs.length - (intOf i).toNat)
  case atStart => exact ⟨0, Nat.zero_le _, rfl, Below.refl _ _, fun j hj hk => absurd hk (by omega)⟩
  case round =>
    obtain ⟨k, hk, rfl, hb, hq⟩ := hrel
    have HQ := Lib.hid hq
    clear hq
    by_cases hlt : k < rs.length
    · obtain ⟨g, o, rfl, hg, hcell⟩ := hr.2 (by omega)
      have c0 : wr.cell? ⟨g, o + k * 2, none⟩ = some (.int .i64 rs[k].1) := (hb.cell (p := ⟨g, o + k * 2, none⟩) hg).trans (hcell _ _ (flat_fst hlt))
      have c1 : wr.cell? ⟨g, o + k * 2 + 1, none⟩ = some (.bool rs[k].2) := (hb.cell (p := ⟨g, o + k * 2 + 1, none⟩) hg).trans (hcell (k * 2 + 1) _ (flat_snd hlt))
      have HC := Lib.hid hcell
      have HR := Lib.hid hr
      clear hcell hr
      have hbx1 : wr.cell? ⟨b, 0, none⟩ = some (.int .i64 n) := (hb.cell (p := ⟨b, 0, none⟩) (World.block_lt_of_cell? w _ hbx)).trans hbx
      by_cases hval : (fun r => r.1 == n) rs[k] = true
      · have hval' : (rs[k].1 == n) = true := hval
        have HV := Lib.hid hval
        clear hval
        go_wp2_with (go_at_call 34; refine (place1_any _ _ n b _ hbx1).mono ?_; rintro e w1 ⟨rfl, hb1⟩)
        go_ret
        exact ⟨ret_int (idx_some hlt HV.out (fun j hj => HQ.out j (by omega) hj)).symm, hb.trans (hb1.mono hb.size)⟩
      · have hval' : (rs[k].1 == n) = false := by simpa using hval
        have HV := Lib.hid hval
        clear hval
        go_wp2_with (go_at_call 34; refine (place1_any _ _ n b _ hbx1).mono ?_; rintro e w1 ⟨rfl, hb1⟩)
        go_roundw
        case rel =>
          refine ⟨k + 1, by omega, by go_num, hb.trans (hb1.mono hb.size), fun j hj hk => ?_⟩
          rcases Nat.lt_or_ge j k with h | h
          · exact HQ.out j hj h
          · obtain rfl : j = k := by omega
            simpa using HV.out
        case measure => simp [intOf]; omega
    · go_wp2
      go_ret
      exact ⟨ret_int (idx_none (fun r hr => by
        obtain ⟨j, hj, rfl⟩ := List.getElem_of_mem hr
        exact HQ.out j hj (by omega))).symm, hb⟩

set_option maxHeartbeats 1000000 in
/-- slices.IndexFunc over rows, with the closure of Try. -/
theorem indexTry (rs : List (Int × Bool)) (A : Option Addr) (c : Nat) (w : World) (hm : rs.length ≤ maxLen) (hr : Rd w 2 A rs.length (flat rs)) :
    Calls Try.prog 32 #[.slice A rs.length c, .func (.func 33) #[] #[]] w fun e w' => e = .returned (.int .i64 (idx (fun r => r.2) rs)) ∧ Below w.heap.size w w' := by
  unfold maxLen at hm
  go_enter Try.func32, Try.ntmps32
  go_wp2
  go_loopw [8] (fun i wr => ∃ k : Nat, k ≤ rs.length ∧ i = .int .i64 k ∧ Below w.heap.size w wr ∧ ∀ j (hj : j < rs.length), j < k → (fun r => r.2) rs[j] = false) (fun i _ => rs.length - (intOf i).toNat)
  case atStart => exact ⟨0, Nat.zero_le _, rfl, Below.refl _ _, fun j hj hk => absurd hk (by omega)⟩
  case round =>
    obtain ⟨k, hk, rfl, hb, hq⟩ := hrel
    have HQ := Lib.hid hq
    clear hq
    by_cases hlt : k < rs.length
    · obtain ⟨g, o, rfl, hg, hcell⟩ := hr.2 (by omega)
      have c0 : wr.cell? ⟨g, o + k * 2, none⟩ = some (.int .i64 rs[k].1) := (hb.cell (p := ⟨g, o + k * 2, none⟩) hg).trans (hcell _ _ (flat_fst hlt))
      have c1 : wr.cell? ⟨g, o + k * 2 + 1, none⟩ = some (.bool rs[k].2) := (hb.cell (p := ⟨g, o + k * 2 + 1, none⟩) hg).trans (hcell (k * 2 + 1) _ (flat_snd hlt))
      have HC := Lib.hid hcell
      have HR := Lib.hid hr
      clear hcell hr
      by_cases hval : (fun r => r.2) rs[k] = true
      · have hval' : rs[k].2 = true := hval
        have HV := Lib.hid hval
        clear hval
        go_wp2_with (go_at_call 33; refine (try1_any _ _ _).mono ?_; rintro e w1 ⟨rfl, hb1⟩)
        go_ret
        exact ⟨ret_int (idx_some hlt HV.out (fun j hj => HQ.out j (by omega) hj)).symm, hb.trans (hb1.mono hb.size)⟩
      · have hval' : rs[k].2 = false := by simpa using hval
        have HV := Lib.hid hval
        clear hval
        go_wp2_with (go_at_call 33; refine (try1_any _ _ _).mono ?_; rintro e w1 ⟨rfl, hb1⟩)
        go_roundw
        case rel =>
          refine ⟨k + 1, by omega, by go_num, hb.trans (hb1.mono hb.size), fun j hj hk => ?_⟩
          rcases Nat.lt_or_ge j k with h | h
          · exact HQ.out j hj h
          · obtain rfl : j = k := by omega
            simpa using HV.out
        case measure => simp [intOf]; omega
    · go_wp2
      go_ret
      exact ⟨ret_int (idx_none (fun r hr => by
        obtain ⟨j, hj, rfl⟩ := List.getElem_of_mem hr
        exact HQ.out j hj (by omega))).symm, hb⟩

end Go.Proofs.Ytglfbihdbdcgiaa
