/- Package count: a tally in memory: New, at, Mark, Get, Start. -/
import Derived.Test.YtochhjdjfgiaeaaNOnce
import Derived.Laws.NewBlocks
namespace Go.Proofs.Ytochhjdjfgiaeaa
open Go.RowKit

/-- The cells of a tally: its marks, and whether it was started. -/
def talC (xs : List Int) (d : Bool) : Array Value := (xs.map i64v ++ [Value.int .u32 (if d then 1 else 0), Value.int .i32 0, Value.int .u32 0]).toArray
/-- A tally at block p. -/
def IsTal (W : World) (p : Nat) (xs : List Int) (d : Bool) : Prop := W.heap[p]? = some (.cells (talC xs d) 79 (0, 0)) ∧ xs.length = 8
theorem IsTal.lt {W : World} {p : Nat} {xs : List Int} {d : Bool} (h : IsTal W p xs d) : p < W.heap.size := lt_of_block h.1
theorem IsTal.below {W W' : World} {p : Nat} {xs : List Int} {d : Bool} (h : IsTal W p xs d) (hb : Below W.heap.size W W') : IsTal W' p xs d := ⟨(hb.block p h.lt).trans h.1, h.2⟩
theorem IsTal.cell {W : World} {p : Nat} {xs : List Int} {d : Bool} (h : IsTal W p xs d) {i : Nat} (hi : i < 8) : W.cell? ⟨p, i, none⟩ = some (.int .i64 (xs[i]'(by rw [h.2]; exact hi))) := by
  rw [cell_at h.1]
  have hi' : i < xs.length := by rw [h.2]; exact hi
  simp [talC, List.getElem?_append_left, hi', i64v]
theorem IsTal.cell8 {W : World} {p : Nat} {xs : List Int} {d : Bool} (h : IsTal W p xs d) : W.cell? ⟨p, 8, none⟩ = some (.int .u32 (if d then 1 else 0)) := by
  rw [cell_at h.1]
  have := h.2
  simp [talC, this]
theorem IsTal.cell9 {W : World} {p : Nat} {xs : List Int} {d : Bool} (h : IsTal W p xs d) : W.cell? ⟨p, 9, none⟩ = some (.int .i32 0) := by
  rw [cell_at h.1]
  have := h.2
  simp [talC, this]
theorem IsTal.frozen {W : World} {p : Nat} {xs : List Int} {d : Bool} (h : IsTal W p xs d) (i : Nat) : W.frozen? ⟨p, i, none⟩ = false := frozen_at h.1 i
theorem IsTal.set {W : World} {p : Nat} {xs : List Int} {d : Bool} (h : IsTal W p xs d) {i : Nat} (hi : i < 8) (n : Int) : IsTal (W.setCell ⟨p, i, none⟩ (.int .i64 n)) p (xs.set i n) d := by
  refine ⟨?_, by rw [List.length_set]; exact h.2⟩
  rw [block_set h.1]
  have hi' : i < xs.length := by rw [h.2]; exact hi
  simp [talC, List.map_set, List.set_append_left, hi', i64v]

theorem tnew_any (w : World) : Calls Try.prog 20 #[] w fun e w' => e = .returned (.pointer (some ⟨w.heap.size, 0, none⟩)) ∧ IsTal w' w.heap.size [0, 0, 0, 0, 0, 0, 0, 0] false ∧ Below w.heap.size w w' := by
  go_enter Try.func20, Try.ntmps20
  go_wp2
  go_ret
  exact ⟨rfl, ⟨block_new w _, rfl⟩, (Below.refl _ w).alloc (Nat.le_refl _) _⟩

/-- Is there such a mark? -/
def inT (i : Int) : Bool := decide (0 ≤ i) && decide (i < 8)
theorem at_nil (i : Int) (w : World) : Calls Try.prog 33 #[.pointer none, .int .i64 i] w fun e w' => e = .returned (.pointer none) ∧ w = w' := by
  go_enter Try.func33, Try.ntmps33
  go_wp2
  go_ret
  exact ⟨rfl, rfl⟩
theorem at_out (p : Nat) (i : Int) (hi : inT i = false) (w : World) : Calls Try.prog 33 #[.pointer (some ⟨p, 0, none⟩), .int .i64 i] w fun e w' => e = .returned (.pointer none) ∧ w = w' := by
  have hi' : ¬ (0 ≤ i ∧ i < 8) := by simpa [inT] using hi
  clear hi
  go_enter Try.func33, Try.ntmps33
  by_cases h0 : i < 0
  · clear hi'
    go_wp2
    go_ret
    exact ⟨rfl, rfl⟩
  · have h1 : 8 ≤ i := by omega
    clear hi'
    go_wp2
    go_ret
    exact ⟨rfl, rfl⟩
theorem at_in (p : Nat) (i : Nat) (hi : i < 8) (w : World) : Calls Try.prog 33 #[.pointer (some ⟨p, 0, none⟩), .int .i64 i] w fun e w' => e = .returned (.pointer (some ⟨p, i, none⟩)) ∧ w = w' := by
  have h1 : (i : Int) < 8 := by omega
  have h0 : (0 : Int) ≤ i := by omega
  go_enter Try.func33, Try.ntmps33
  go_wp2
  go_ret
  exact ⟨by simp, rfl⟩

theorem mark_nil (i n : Int) (w : World) : Calls Try.prog 21 #[.pointer none, .int .i64 i, .int .i64 n] w fun e w' => e = .returned (.int .i64 0) ∧ w = w' := by
  go_enter Try.func21, Try.ntmps21
  go_wp2_with fail
  refine (at_nil i w).mono ?_
  rintro e w1 ⟨rfl, rfl⟩
  go_wp2
  go_ret
  exact ⟨rfl, rfl⟩
theorem mark_out (p : Nat) (i n : Int) (hi : inT i = false) (w : World) : Calls Try.prog 21 #[.pointer (some ⟨p, 0, none⟩), .int .i64 i, .int .i64 n] w fun e w' => e = .returned (.int .i64 0) ∧ w = w' := by
  go_enter Try.func21, Try.ntmps21
  go_wp2_with fail
  refine (at_out p i hi w).mono ?_
  rintro e w1 ⟨rfl, rfl⟩
  clear hi
  go_wp2
  go_ret
  exact ⟨rfl, rfl⟩
/-- A sum that may turn over. -/
def wrapI (n : Int) : Int := IntKind.i64.wrap n
theorem mark_in (p : Nat) (xs : List Int) (d : Bool) (i : Nat) (hi : i < 8) (n : Int) (w : World) (h : IsTal w p xs d) :
    Calls Try.prog 21 #[.pointer (some ⟨p, 0, none⟩), .int .i64 i, .int .i64 n] w fun e w' => e = .returned (.int .i64 (wrapI ((xs[i]'(by rw [h.2]; exact hi)) + n))) ∧ w' = w.setCell ⟨p, i, none⟩ (.int .i64 (wrapI ((xs[i]'(by rw [h.2]; exact hi)) + n))) := by
  have hc := h.cell hi
  have hz := h.frozen i
  obtain ⟨x, hx⟩ : ∃ x, xs[i]'(by rw [h.2]; exact hi) = x := ⟨_, rfl⟩
  rw [hx] at hc ⊢
  have hadd := run_call_add (P := Try.prog) Try.func46 (by kernel_rfl) (by kernel_rfl) (by kernel_rfl) .i64 (by kernel_rfl) (y := n) (s := wrapI (x + n)) hc hz (by simp [go_sem]; rfl)
  clear h hx
  go_enter Try.func21, Try.ntmps21
  go_wp2_with fail
  refine (at_in p i hi w).mono ?_
  rintro e w1 ⟨rfl, rfl⟩
  go_wp2
  go_ret
  go_wp2

theorem get_nil (i : Int) (w : World) : Calls Try.prog 25 #[.pointer none, .int .i64 i] w fun e w' => e = .returned (.int .i64 0) ∧ w = w' := by
  go_enter Try.func25, Try.ntmps25
  go_wp2_with fail
  refine (at_nil i w).mono ?_
  rintro e w1 ⟨rfl, rfl⟩
  go_wp2
  go_ret
  exact ⟨rfl, rfl⟩
theorem get_out (p : Nat) (i : Int) (hi : inT i = false) (w : World) : Calls Try.prog 25 #[.pointer (some ⟨p, 0, none⟩), .int .i64 i] w fun e w' => e = .returned (.int .i64 0) ∧ w = w' := by
  go_enter Try.func25, Try.ntmps25
  go_wp2_with fail
  refine (at_out p i hi w).mono ?_
  rintro e w1 ⟨rfl, rfl⟩
  clear hi
  go_wp2
  go_ret
  exact ⟨rfl, rfl⟩
theorem get_in (p : Nat) (xs : List Int) (d : Bool) (i : Nat) (hi : i < 8) (w : World) (h : IsTal w p xs d) :
    Calls Try.prog 25 #[.pointer (some ⟨p, 0, none⟩), .int .i64 i] w fun e w' => e = .returned (.int .i64 (xs[i]'(by rw [h.2]; exact hi))) ∧ w = w' := by
  have hc := h.cell hi
  obtain ⟨x, hx⟩ : ∃ x, xs[i]'(by rw [h.2]; exact hi) = x := ⟨_, rfl⟩
  rw [hx] at hc ⊢
  have hl := run_call_load (P := Try.prog) Try.func50 (by kernel_rfl) (by kernel_rfl) (by kernel_rfl) .i64 (by kernel_rfl) hc
  clear h hx
  go_enter Try.func25, Try.ntmps25
  go_wp2_with fail
  refine (at_in p i hi w).mono ?_
  rintro e w1 ⟨rfl, rfl⟩
  go_wp2
  go_ret
  go_wp2

theorem start_nil (w : World) : Calls Try.prog 24 #[.pointer none] w fun e w' => e = .returned (.bool false) ∧ Below w.heap.size w w' := by
  go_enter Try.func24, Try.ntmps24
  go_wp2
  go_ret
  exact ⟨rfl, (Below.refl _ w).alloc (Nat.le_refl _) _⟩
theorem start_again (p : Nat) (xs : List Int) (w : World) (h : IsTal w p xs true) :
    Calls Try.prog 24 #[.pointer (some ⟨p, 0, none⟩)] w fun e w' => e = .returned (.bool false) ∧ Below w.heap.size w w' := by
  have hp := h.lt
  have hb := (Below.refl w.heap.size w).alloc (Nat.le_refl _) (.cells #[.bool false] 4)
  have HC := Lib.hid (h.below hb).cell8
  have HB := Lib.hid hb
  have hmf : ∀ (fn : Fn) (first cap : Array Value) (w : World), (Instr.makeFunc fn first cap).run Try.prog w = .ok (.func fn first cap) w := fun _ _ _ _ => rfl
  clear h hb
  go_enter Try.func24, Try.ntmps24
  go_wp2_with fail
  refine (do_done ⟨p, 8, none⟩ 1 (by omega) _ _ HC.out).mono ?_
  rintro e w1 ⟨rfl, rfl⟩
  go_wp2
  go_ret
  exact ⟨rfl, HB.out⟩
theorem start_first (p : Nat) (xs : List Int) (w : World) (h : IsTal w p xs false) :
    Calls Try.prog 24 #[.pointer (some ⟨p, 0, none⟩)] w fun e w' => e = .returned (.bool true) ∧ IsTal w' p xs true ∧ Fr 0 [] [p] w w' := by
  have hp := h.lt
  obtain ⟨hh, h8⟩ := h
  obtain ⟨w1, hw1⟩ : ∃ w1, w.alloc (.cells #[.bool false] 4) = w1 := ⟨_, rfl⟩
  have hb : Below w.heap.size w w1 := by rw [← hw1]; exact (Below.refl w.heap.size w).alloc (Nat.le_refl _) _
  have hx : w1.heap[w.heap.size]? = some (.cells #[.bool false] 4 (0, 0)) := by rw [← hw1]; exact block_new w _
  have hpf : ¬ p = w.heap.size := by omega
  have hT := (hb.block p hp).trans hh
  have hT1 : IsTal w1 p xs false := ⟨hT, h8⟩
  obtain ⟨w2, hw2⟩ : ∃ w2, (((w1.setCell ⟨p, 9, none⟩ (.int .i32 1)).setCell ⟨w.heap.size, 0, none⟩ (.bool true)).drew.setCell ⟨p, 8, none⟩ (.int .u32 1)).setCell ⟨p, 9, none⟩ (.int .i32 0) = w2 := ⟨_, rfl⟩
  have hfr : Fr 0 [] [p, w.heap.size] w1 w2 := by
    rw [← hw2]
    exact ((((Fr.refl w1).setCell (p := ⟨p, 9, none⟩) _ (Nat.zero_le _) (.inl (by simp))).setCell (p := ⟨w.heap.size, 0, none⟩) _ (Nat.zero_le _) (.inl (by simp))).trans (Fr.of_below (Below.refl _ _).drew) |>.setCell (p := ⟨p, 8, none⟩) _ (Nat.zero_le _) (.inl (by simp))).setCell (p := ⟨p, 9, none⟩) _ (Nat.zero_le _) (.inl (by simp))
  have hT2 : IsTal w2 p xs true := by
    refine ⟨?_, h8⟩
    rw [← hw2]
    have k1 := block_far (block_set hT 9 (.int .i32 1)) (p := ⟨w.heap.size, 0, none⟩) hpf (.bool true)
    have k2 := block_set (w := ((w1.setCell ⟨p, 9, none⟩ (.int .i32 1)).setCell ⟨w.heap.size, 0, none⟩ (.bool true)).drew) k1 8 (.int .u32 1)
    rw [block_set k2 9 (.int .i32 0)]
    match xs, h8 with
    | [x0, x1, x2, x3, x4, x5, x6, x7], _ => rfl
  have hx2 : w2.heap[w.heap.size]? = some (.cells #[.bool true] 4 (0, 0)) := by
    rw [← hw2]
    have k1 := block_set (block_far hx (p := ⟨p, 9, none⟩) (Ne.symm hpf) (.int .i32 1)) 0 (.bool true)
    have k2 := block_far (w := ((w1.setCell ⟨p, 9, none⟩ (.int .i32 1)).setCell ⟨w.heap.size, 0, none⟩ (.bool true)).drew) k1 (p := ⟨p, 8, none⟩) (Ne.symm hpf) (.int .u32 1)
    exact block_far k2 (p := ⟨p, 9, none⟩) (Ne.symm hpf) (.int .i32 0)
  have hF : Fr 0 [] [p] w w2 := ⟨hfr.os.trans hb.os, hfr.tape.trans hb.tape, hfr.output.trans hb.output, Nat.le_trans hb.size hfr.size, fun k hk hc => by
    rcases hc with hc | ⟨_, hc⟩
    · omega
    · exact (hfr.block k (Nat.lt_of_lt_of_le hk hb.size) (.inr ⟨by simp, by simp at hc; simp; omega⟩)).trans (hb.block k hk)⟩
  have HF := Lib.hid hF
  have HT2 := Lib.hid hT2
  have HW1 := Lib.hid hw1
  have HW2 := Lib.hid hw2
  have a8 := hT1.cell8
  have a9 := hT1.cell9
  have HD := Lib.hid (do_first p 8 ⟨w.heap.size, 0, none⟩ hpf (.bool false) w1 (cell_at hx 0) (frozen_at hx 0) a8 a9 (hT1.frozen 8) (hT1.frozen 9))
  have c2 : w2.cell? ⟨w.heap.size, 0, none⟩ = some (.bool true) := cell_at hx2 0
  have hmf : ∀ (fn : Fn) (first cap : Array Value) (w : World), (Instr.makeFunc fn first cap).run Try.prog w = .ok (.func fn first cap) w := fun _ _ _ _ => rfl
  clear hw1 hb hx hT hT1 hw2 hfr hT2 hx2 hF a8 a9 hh h8
  go_enter Try.func24, Try.ntmps24
  go_wp2_with fail
  rw [HW1.out]
  refine HD.out.mono ?_
  rintro e w3 ⟨rfl, hw3⟩
  rw [HW2.out] at hw3
  rw [hw3]
  clear hw3
  go_wp2
  go_ret
  exact ⟨rfl, HT2.out, HF.out⟩
end Go.Proofs.Ytochhjdjfgiaeaa
