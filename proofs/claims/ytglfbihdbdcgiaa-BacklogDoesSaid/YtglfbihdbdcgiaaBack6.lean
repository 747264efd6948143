/- The contracts of package backlog's methods, each in one theorem; and lives. -/
import Derived.Test.YtglfbihdbdcgiaaBack3
import Derived.Test.YtglfbihdbdcgiaaBack5
namespace Go.Proofs.Ytglfbihdbdcgiaa
open Go.RowKit

theorem push_any (n : Int) (B p : Nat) (rs : List (Int × Bool)) (out : Int) (w : World) (hi : IsB w B p rs out) (hm : rs.length ≤ 256) :
    Calls Try.prog 12 #[.pointer (some ⟨p, 0, none⟩), .int .i64 n] w fun e w' => e = .returned (.int .i64 (pushR rs n)) ∧ IsB w' B p (pushS rs n) out ∧ FrB B w w' := by
  unfold pushR pushS
  by_cases h : n < 1
  · rw [if_pos h, if_pos h]
    refine (push_arg n p w h).mono ?_
    rintro e w' ⟨rfl, rfl⟩
    exact ⟨rfl, hi, Fr.refl _⟩
  · rw [if_neg h, if_neg h]
    by_cases hx : idx (fun r => r.1 == n) rs = -1
    · rw [if_pos hx, if_pos hx]
      by_cases hl : 256 ≤ rs.length
      · rw [if_pos hl, if_pos hl]
        refine (push_full n B p rs out w hi (by omega) h hx).mono ?_
        rintro e w' ⟨rfl, hb⟩
        exact ⟨rfl, hi.below hb, Fr.of_below hb⟩
      · rw [if_neg hl, if_neg hl]
        exact push_ok n B p rs out w hi (by omega) h hx
    · rw [if_neg hx, if_neg hx]
      refine (push_twice n B p rs out w hi hm h hx).mono ?_
      rintro e w' ⟨rfl, hb⟩
      exact ⟨rfl, hi.below hb, Fr.of_below hb⟩
theorem pushS_length (rs : List (Int × Bool)) (n : Int) (hm : rs.length ≤ 256) : (pushS rs n).length ≤ 256 := by
  unfold pushS
  split
  · exact hm
  · split
    · split
      · exact hm
      · simp; omega
    · exact hm

theorem back_any (n : Int) (B p : Nat) (rs : List (Int × Bool)) (out : Int) (w : World) (h : IsB w B p rs out) :
    Calls Try.prog 16 #[.pointer (some ⟨p, 0, none⟩), .int .i64 n] w fun e w' => e = .returned (.bool (backB out n)) ∧ IsB w' B p rs (backO out n) ∧ FrB B w w' := by
  unfold backB backO
  by_cases hn : out = 0 ∨ out ≠ n
  · rw [if_pos hn]
    refine (back_no n B p rs out w h hn).mono ?_
    rintro e w' ⟨rfl, hb⟩
    exact ⟨ret_bool (by rcases hn with h | h <;> simp [h]), h.below hb, Fr.of_below hb⟩
  · rw [if_neg hn]
    obtain ⟨h0, rfl⟩ : out ≠ 0 ∧ out = n := by omega
    refine (back_yes out B p rs w h h0).mono ?_
    rintro e w' ⟨rfl, hb⟩
    exact ⟨ret_bool (by simp [h0]), hb⟩

/-- What Try answers, which rows stand behind it, who is out. -/
def tryX (rs : List (Int × Bool)) (out : Int) : Int := if out = 0 then (match rs.findIdx? (fun r => r.2) with | some k => (rs.getD k (0, false)).1 | none => 0) else 0
def tryB (rs : List (Int × Bool)) (out : Int) : Bool := if out = 0 then (rs.findIdx? (fun r => r.2)).isSome else false
def tryS (rs : List (Int × Bool)) (out : Int) : List (Int × Bool) := if out = 0 then (match rs.findIdx? (fun r => r.2) with | some k => rs.set k ((rs.getD k (0, false)).1, false) | none => rs) else rs
def tryO (rs : List (Int × Bool)) (out : Int) : Int := if out = 0 then (match rs.findIdx? (fun r => r.2) with | some k => (rs.getD k (0, false)).1 | none => 0) else out
theorem try_any (B p : Nat) (rs : List (Int × Bool)) (out : Int) (w : World) (h : IsB w B p rs out) :
    Calls Try.prog 14 #[.pointer (some ⟨p, 0, none⟩)] w fun e w' => e = .returned (.tuple #[.int .i64 (tryX rs out), .bool (tryB rs out)]) ∧ IsB w' B p (tryS rs out) (tryO rs out) ∧ FrB B w w' := by
  unfold tryX tryB tryS tryO
  by_cases h0 : out = 0
  · subst h0
    cases hf : rs.findIdx? (fun r => r.2) with
    | none =>
      refine (try_none B p rs w h (by simp [idx, hf])).mono ?_
      rintro e w' ⟨rfl, hb⟩
      exact ⟨rfl, h.below hb, Fr.of_below hb⟩
    | some k =>
      have hk := (List.findIdx?_eq_some_iff_getElem.1 hf).1
      have hg : rs.getD k (0, false) = rs[k] := by simp [List.getD, hk]
      refine (try_some B p rs w h k hk (by simp [idx, hf])).mono ?_
      rintro e w' ⟨rfl, hb⟩
      simp only [hg]
      exact ⟨rfl, hb⟩
  · simp only [if_neg h0]
    refine (try_out B p rs out w h h0).mono ?_
    rintro e w' ⟨rfl, hb⟩
    exact ⟨rfl, h.below hb, Fr.of_below hb⟩
theorem tryS_length (rs : List (Int × Bool)) (out : Int) : (tryS rs out).length = rs.length := by
  unfold tryS
  split
  · split <;> simp
  · rfl

set_option maxHeartbeats 400000 in
theorem all_any (p : Option Addr) (w : World) :
    Calls Try.prog 26 #[.pointer p] w fun e w' => e = .returned (.func (.func 36) #[] #[.pointer (some ⟨w.heap.size, 0, none⟩)]) ∧ w.alloc (.cells #[.pointer p] 23) = w' := by
  have hmf : ∀ (fn : Fn) (first cap : Array Value) (w : World), (Instr.makeFunc fn first cap).run Try.prog w = .ok (.func fn first cap) w := fun _ _ _ _ => rfl
  go_enter Try.func26, Try.ntmps26
  go_wp2
  go_ret
  exact ⟨rfl, rfl⟩

theorem pushR_5 : pushR [] 5 = 0 := by decide
theorem pushS_5 : pushS [] 5 = [(5, false)] := by decide
theorem pushR_7 : pushR [(5, false)] 7 = 0 := by decide
theorem pushS_7 : pushS [(5, false)] 7 = [(5, false), (7, false)] := by decide
theorem news_57 : [((5 : Int), false), (7, false)].map (newsRow 0) = [(5, true), (7, true)] := by decide
theorem tryAll1 : tryX [(5, true), (7, true)] 0 = 5 ∧ tryB [(5, true), (7, true)] 0 = true ∧ tryS [(5, true), (7, true)] 0 = [(5, false), (7, true)] ∧ tryO [(5, true), (7, true)] 0 = 5 := by decide
theorem tryAll2 : tryX [(5, false), (7, true)] 5 = 0 ∧ tryB [(5, false), (7, true)] 5 = false ∧ tryS [(5, false), (7, true)] 5 = [(5, false), (7, true)] ∧ tryO [(5, false), (7, true)] 5 = 5 := by decide
theorem backAll : backB 5 5 = true ∧ backO 5 5 = 0 := by decide
theorem tryAll3 : tryX [(5, false), (7, true)] 0 = 7 ∧ tryB [(5, false), (7, true)] 0 = true ∧ tryS [(5, false), (7, true)] 0 = [(5, false), (7, false)] ∧ tryO [(5, false), (7, true)] 0 = 7 := by decide
theorem idx_7 : idx (fun r => r.1 == 7) [(5, false), (7, false)] = 1 := by decide

set_option maxRecDepth 100000 in
set_option maxHeartbeats 2000000 in
theorem lives_any (w : World) : Calls Try.prog 11 #[] w fun e w' => e = .returned (.bool true) ∧ Below w.heap.size w w' := by
  have hfn : ∀ (fn : Fn) (a b : Array Value) (w : World), (binOp .eql 46 (.func fn a b) .nilFunc).run Try.prog w = .ok (.bool false) w := fun _ _ _ _ => by rfl
  go_enter Try.func11, Try.ntmps11
  go_wp2_with fail
  refine (new_any _ w.heap.size (Nat.le_refl _)).mono ?_
  rintro e w1 ⟨rfl, i1, b1⟩
  go_wp2_with fail
  refine (all_any _ _).mono ?_
  rintro e w1' ⟨rfl, hw1⟩
  have i2 := i1.below (w' := w1') (by rw [← hw1]; exact (Below.refl _ _).alloc (Nat.le_refl _) _)
  have b2 : Below w.heap.size w w1' := b1.trans (by rw [← hw1]; exact (Below.refl _ _).alloc b1.size _)
  clear hw1 i1 b1
  go_wp2_with fail
  refine (push_any 5 _ _ _ _ _ i2 (by simp)).mono ?_
  rintro e w3 ⟨rfl, i3, f3⟩
  rw [pushR_5] at *
  rw [pushS_5] at *
  have b3 := b2.trans (f3.below b2.size)
  clear i2 f3 b2
  go_wp2_with fail
  refine (push_any 7 _ _ _ _ _ i3 (by simp)).mono ?_
  rintro e w4 ⟨rfl, i4, f4⟩
  rw [pushR_7]
  rw [pushS_7] at i4
  have b4 := b3.trans (f4.below b3.size)
  clear i3 f4 b3
  go_wp2_with fail
  refine (news_any _ _ _ _ _ i4).mono ?_
  rintro e w5 ⟨rfl, i5, f5⟩
  rw [news_57] at i5
  have b5 := b4.trans (f5.below b4.size)
  clear i4 f5 b4
  go_wp2_with fail
  refine (try_any _ _ _ _ _ i5).mono ?_
  rintro e w6 ⟨rfl, i6, f6⟩
  rw [tryAll1.1, tryAll1.2.1]
  rw [tryAll1.2.2.1, tryAll1.2.2.2] at i6
  have b6 := b5.trans (f6.below b5.size)
  clear i5 f6 b5
  go_wp2_with fail
  refine (try_any _ _ _ _ _ i6).mono ?_
  rintro e w7 ⟨rfl, i7, f7⟩
  rw [tryAll2.1, tryAll2.2.1]
  rw [tryAll2.2.2.1, tryAll2.2.2.2] at i7
  have b7 := b6.trans (f7.below b6.size)
  clear i6 f7 b6
  go_wp2_with fail
  refine (back_any 5 _ _ _ _ _ i7).mono ?_
  rintro e w8 ⟨rfl, i8, f8⟩
  rw [backAll.1]
  rw [backAll.2] at i8
  have b8 := b7.trans (f8.below b7.size)
  clear i7 f8 b7
  go_wp2_with fail
  refine (try_any _ _ _ _ _ i8).mono ?_
  rintro e w9 ⟨rfl, i9, f9⟩
  rw [tryAll3.1, tryAll3.2.1]
  rw [tryAll3.2.2.1, tryAll3.2.2.2] at i9
  have b9 := b8.trans (f9.below b8.size)
  clear i8 f9 b8
  go_wp2_with fail
  refine (len_any _ _ _ _ _ i9).mono ?_
  rintro e w9 ⟨rfl, rfl⟩
  go_wp2_with fail
  refine (place_any 7 _ _ _ _ _ i9 (by simp)).mono ?_
  rintro e w10 ⟨rfl, b10⟩
  rw [idx_7]
  have b11 := b9.trans (b10.mono b9.size)
  clear b9 b10
  go_wp2
  go_ret
  exact ⟨rfl, b11⟩

end Go.Proofs.Ytglfbihdbdcgiaa
