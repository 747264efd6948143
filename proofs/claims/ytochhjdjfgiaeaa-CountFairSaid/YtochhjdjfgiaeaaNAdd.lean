/- Package count: Add, Less, Move. -/
import Derived.Test.YtochhjdjfgiaeaaNMay
namespace Go.Proofs.Ytochhjdjfgiaeaa
open Go.RowKit

theorem rd_fresh (w : World) (T : TypeId) (xs : List Value) : Rd (w.alloc (.cells xs.toArray T)) 1 (some ⟨w.heap.size, 0, none⟩) xs.length xs :=
  ⟨by omega, fun _ => ⟨_, _, rfl, by simp, fun j u hu => by
    rw [cell_at (block_new w (.cells xs.toArray T)), Nat.zero_add]
    simpa using hu⟩⟩
/-- What Add answers. -/
def addE (a b : Int) : Int := if mayN a = true ∧ mayN b = true then (if 1099511627776 - a < b then 50 else 0) else 1
def addR (a b : Int) : Int := if addE a b = 0 then a + b else 0
def lessE (a b : Int) : Int := if mayN a = true ∧ mayN b = true then (if a < b then 51 else 0) else 1
def lessR (a b : Int) : Int := if lessE a b = 0 then a - b else 0
theorem noneN_two (a b : Int) : noneN [a, b] = !(mayN a && mayN b) := by simp [noneN]
theorem noneN_three (a b c : Int) : noneN [a, b, c] = !(mayN a && mayN b && mayN c) := by simp [noneN, Bool.or_assoc]

set_option maxHeartbeats 400000 in
theorem add_any (a b : Int) (w : World) : Calls Try.prog 10 #[.int .i64 a, .int .i64 b] w fun e w' => e = .returned (.tuple #[.int .i64 (addR a b), .int .i64 (addE a b)]) ∧ Below w.heap.size w w' := by
  have HN : Hid (Rd (w.alloc (.cells #[.int .i64 a, .int .i64 b] 3)) 1 (some ⟨w.heap.size, 0, none⟩) 2 ([a, b].map i64v)) := Lib.hid (rd_fresh w 3 [.int .i64 a, .int .i64 b])
  have HB : Hid (Below w.heap.size w (w.alloc (.cells #[.int .i64 a, .int .i64 b] 3))) := Lib.hid ((Below.refl _ w).alloc (Nat.le_refl _) _)
  go_enter Try.func10, Try.ntmps10
  go_wp2_with fail
  refine (none_any _ 2 [a, b] _ (by simp) HN.out).mono ?_
  rintro e w1 ⟨rfl, rfl⟩
  rw [noneN_two]
  by_cases h : mayN a = true ∧ mayN b = true
  · have ha := mayN_iff.1 h.1
    have hb := mayN_iff.1 h.2
    by_cases ho : 1099511627776 - a < b
    · have HE : Hid (addE a b = 50) := Lib.hid (by unfold addE; rw [if_pos h, if_pos ho])
      have HR : Hid (addR a b = 0) := Lib.hid (by unfold addR; rw [HE.out]; rfl)
      rw [h.1, h.2]
      clear h
      go_wp2
      go_ret2
      exact ⟨by rw [HE.out, HR.out]; rfl, HB.out⟩
    · have HE : Hid (addE a b = 0) := Lib.hid (by unfold addE; rw [if_pos h, if_neg ho])
      have HR : Hid (addR a b = a + b) := Lib.hid (by unfold addR; rw [HE.out]; rfl)
      rw [h.1, h.2]
      clear h
      go_wp2
      go_ret2
      exact ⟨by rw [HE.out, HR.out]; rfl, HB.out⟩
  · have HE : Hid (addE a b = 1) := Lib.hid (by unfold addE; rw [if_neg h])
    have HR : Hid (addR a b = 0) := Lib.hid (by unfold addR; rw [HE.out]; rfl)
    have hn : (mayN a && mayN b) = false := by simpa using h
    rw [hn]
    clear h hn
    go_wp2
    go_ret2
    exact ⟨by rw [HE.out, HR.out]; rfl, HB.out⟩

set_option maxHeartbeats 400000 in
theorem less_any (a b : Int) (w : World) : Calls Try.prog 11 #[.int .i64 a, .int .i64 b] w fun e w' => e = .returned (.tuple #[.int .i64 (lessR a b), .int .i64 (lessE a b)]) ∧ Below w.heap.size w w' := by
  have HN : Hid (Rd (w.alloc (.cells #[.int .i64 a, .int .i64 b] 3)) 1 (some ⟨w.heap.size, 0, none⟩) 2 ([a, b].map i64v)) := Lib.hid (rd_fresh w 3 [.int .i64 a, .int .i64 b])
  have HB : Hid (Below w.heap.size w (w.alloc (.cells #[.int .i64 a, .int .i64 b] 3))) := Lib.hid ((Below.refl _ w).alloc (Nat.le_refl _) _)
  go_enter Try.func11, Try.ntmps11
  go_wp2_with fail
  refine (none_any _ 2 [a, b] _ (by simp) HN.out).mono ?_
  rintro e w1 ⟨rfl, rfl⟩
  rw [noneN_two]
  by_cases h : mayN a = true ∧ mayN b = true
  · have ha := mayN_iff.1 h.1
    have hb := mayN_iff.1 h.2
    by_cases ho : a < b
    · have HE : Hid (lessE a b = 51) := Lib.hid (by unfold lessE; rw [if_pos h, if_pos ho])
      have HR : Hid (lessR a b = 0) := Lib.hid (by unfold lessR; rw [HE.out]; rfl)
      rw [h.1, h.2]
      clear h
      go_wp2
      go_ret2
      exact ⟨by rw [HE.out, HR.out]; rfl, HB.out⟩
    · have HE : Hid (lessE a b = 0) := Lib.hid (by unfold lessE; rw [if_pos h, if_neg ho])
      have HR : Hid (lessR a b = a - b) := Lib.hid (by unfold lessR; rw [HE.out]; rfl)
      rw [h.1, h.2]
      clear h
      go_wp2
      go_ret2
      exact ⟨by rw [HE.out, HR.out]; rfl, HB.out⟩
  · have HE : Hid (lessE a b = 1) := Lib.hid (by unfold lessE; rw [if_neg h])
    have HR : Hid (lessR a b = 0) := Lib.hid (by unfold lessR; rw [HE.out]; rfl)
    have hn : (mayN a && mayN b) = false := by simpa using h
    rw [hn]
    clear h hn
    go_wp2
    go_ret2
    exact ⟨by rw [HE.out, HR.out]; rfl, HB.out⟩

/-- What Move answers. -/
def moveE (f t n : Int) : Int := if mayN f = true ∧ mayN t = true ∧ mayN n = true then (if f < n then 51 else if 1099511627776 - t < n then 50 else 0) else 1
def moveA (f t n : Int) : Int := if moveE f t n = 0 then f - n else 0
def moveB (f t n : Int) : Int := if moveE f t n = 0 then t + n else 0
set_option maxHeartbeats 800000 in
theorem move_any (f t n : Int) (w : World) : Calls Try.prog 15 #[.int .i64 f, .int .i64 t, .int .i64 n] w fun e w' => e = .returned (.tuple #[.int .i64 (moveA f t n), .int .i64 (moveB f t n), .int .i64 (moveE f t n)]) ∧ Below w.heap.size w w' := by
  have HN : Hid (Rd (w.alloc (.cells #[.int .i64 f, .int .i64 t, .int .i64 n] 3)) 1 (some ⟨w.heap.size, 0, none⟩) 3 ([f, t, n].map i64v)) := Lib.hid (rd_fresh w 3 [.int .i64 f, .int .i64 t, .int .i64 n])
  have HB : Hid (Below w.heap.size w (w.alloc (.cells #[.int .i64 f, .int .i64 t, .int .i64 n] 3))) := Lib.hid ((Below.refl _ w).alloc (Nat.le_refl _) _)
  go_enter Try.func15, Try.ntmps15
  go_wp2_with fail
  refine (none_any _ 3 [f, t, n] _ (by simp) HN.out).mono ?_
  rintro e w1 ⟨rfl, rfl⟩
  rw [noneN_three]
  by_cases h : mayN f = true ∧ mayN t = true ∧ mayN n = true
  · have hl : lessE f n = if f < n then 51 else 0 := by unfold lessE; rw [if_pos ⟨h.1, h.2.2⟩]
    have ha : addE t n = if 1099511627776 - t < n then 50 else 0 := by unfold addE; rw [if_pos h.2]
    by_cases ho : f < n
    · have HE : Hid (moveE f t n = 51) := Lib.hid (by unfold moveE; rw [if_pos h, if_pos ho])
      have HA : Hid (moveA f t n = 0) := Lib.hid (by unfold moveA; rw [HE.out]; rfl)
      have HC : Hid (moveB f t n = 0) := Lib.hid (by unfold moveB; rw [HE.out]; rfl)
      rw [if_pos ho] at hl
      have HL := Lib.hid hl
      rw [h.1, h.2.1, h.2.2]
      clear h hl ha ho
      go_wp2_with fail
      refine (less_any f n _).mono ?_
      rintro e w1 ⟨rfl, h1⟩
      rw [HL.out]
      have HB1 := Lib.hid (HB.out.trans (h1.mono HB.out.size))
      clear h1
      go_wp2
      refine bodyPost_ret (v := .tuple #[.int .i64 0, .int .i64 0, .int .i64 51]) (by simp [results, Try.f15, go_sem]) rfl ?_
      exact ⟨by rw [HE.out, HA.out, HC.out], HB1.out⟩
    · rw [if_neg ho] at hl
      have HL := Lib.hid hl
      have HR : Hid (lessR f n = f - n) := Lib.hid (by unfold lessR; rw [hl]; rfl)
      by_cases ho2 : 1099511627776 - t < n
      · have HE : Hid (moveE f t n = 50) := Lib.hid (by unfold moveE; rw [if_pos h, if_neg ho, if_pos ho2])
        have HA : Hid (moveA f t n = 0) := Lib.hid (by unfold moveA; rw [HE.out]; rfl)
        have HC : Hid (moveB f t n = 0) := Lib.hid (by unfold moveB; rw [HE.out]; rfl)
        rw [if_pos ho2] at ha
        have HAE := Lib.hid ha
        rw [h.1, h.2.1, h.2.2]
        clear h hl ha ho ho2
        go_wp2_with fail
        refine (less_any f n _).mono ?_
        rintro e w1 ⟨rfl, h1⟩
        rw [HL.out]
        have HB1 := Lib.hid (HB.out.trans (h1.mono HB.out.size))
        clear h1
        go_wp2_with fail
        refine (add_any t n _).mono ?_
        rintro e w2 ⟨rfl, h2⟩
        rw [HAE.out]
        have HB2 := Lib.hid (HB1.out.trans (h2.mono HB1.out.size))
        clear h2
        go_wp2
        refine bodyPost_ret (v := .tuple #[.int .i64 0, .int .i64 0, .int .i64 50]) (by simp [results, Try.f15, go_sem]) rfl ?_
        exact ⟨by rw [HE.out, HA.out, HC.out], HB2.out⟩
      · have HE : Hid (moveE f t n = 0) := Lib.hid (by unfold moveE; rw [if_pos h, if_neg ho, if_neg ho2])
        have HA : Hid (moveA f t n = f - n) := Lib.hid (by unfold moveA; rw [HE.out]; rfl)
        have HC : Hid (moveB f t n = t + n) := Lib.hid (by unfold moveB; rw [HE.out]; rfl)
        rw [if_neg ho2] at ha
        have HAE := Lib.hid ha
        have HAR : Hid (addR t n = t + n) := Lib.hid (by unfold addR; rw [ha]; rfl)
        rw [h.1, h.2.1, h.2.2]
        clear h hl ha ho ho2
        go_wp2_with fail
        refine (less_any f n _).mono ?_
        rintro e w1 ⟨rfl, h1⟩
        rw [HL.out]
        have HB1 := Lib.hid (HB.out.trans (h1.mono HB.out.size))
        clear h1
        go_wp2_with fail
        refine (add_any t n _).mono ?_
        rintro e w2 ⟨rfl, h2⟩
        rw [HAE.out]
        have HB2 := Lib.hid (HB1.out.trans (h2.mono HB1.out.size))
        clear h2
        go_wp2
        refine bodyPost_ret (v := .tuple #[.int .i64 (lessR f n), .int .i64 (addR t n), .int .i64 0]) (by simp [results, Try.f15, go_sem]) rfl ?_
        exact ⟨by rw [HE.out, HA.out, HC.out, HR.out, HAR.out], HB2.out⟩
  · have HE : Hid (moveE f t n = 1) := Lib.hid (by unfold moveE; rw [if_neg h])
    have HA : Hid (moveA f t n = 0) := Lib.hid (by unfold moveA; rw [HE.out]; rfl)
    have HC : Hid (moveB f t n = 0) := Lib.hid (by unfold moveB; rw [HE.out]; rfl)
    have hn : (mayN f && mayN t && mayN n) = false := by simpa [and_assoc] using h
    rw [hn]
    clear h hn
    go_wp2
    refine bodyPost_ret (v := .tuple #[.int .i64 0, .int .i64 0, .int .i64 1]) (by simp [results, Try.f15, go_sem]) rfl ?_
    exact ⟨by rw [HE.out, HA.out, HC.out], HB.out⟩
end Go.Proofs.Ytochhjdjfgiaeaa
