/- Shares, plain: what the laws ask. -/
import Derived.Test.YtochhjdjfgiaeaaNXShare
import Derived.Test.YtochhjdjfgiaeaaNSum
namespace Go.Proofs.Ytochhjdjfgiaeaa
open Go.RowKit

theorem xshare_ok {n : Int} {ws : List Int} {N : Nat} {us : List Nat} (h : MaySh n ws N us) (A : Option Addr) (c : Nat) (w : World) (hr : Rd w 1 A ws.length (ws.map i64v)) :
    Calls Try.prog 17 #[.int .i64 n, .slice A ws.length c] w fun e w' => ∃ g, e = .returned (.tuple #[.slice (some ⟨g, 0, none⟩) ws.length ws.length, .int .i64 0]) ∧ w'.heap[g]? = some (.cells ((shO N us).map i64v).toArray 3 (0, 0)) ∧ w.heap.size ≤ g ∧ Below w.heap.size w w' := by
  obtain ⟨left, hq, _, hl⟩ := SymP.left_of (n := N) (S := us.sum) rfl h.sum
  have hlen : ws.length = us.length := by rw [h.wts, List.length_map]
  have hleft : N - qS N us.sum us us.length = left := by omega
  rw [hlen] at hr ⊢
  rw [h.num]
  unfold shO
  rw [hleft]
  refine xshare_core N us.sum left us A c w h.nle h.wle rfl h.sum ⟨h.len0, h.len⟩ ?_ hq hl
  rw [h.wts, List.map_map] at hr
  exact hr
theorem ite_cast (p q : Nat) (a b : Bool) (h : q + (if b = true then 1 else 0) ≤ p + (if a = true then 1 else 0)) : (q : Int) + (if b = true then 1 else 0) ≤ (p : Int) + (if a = true then 1 else 0) := by
  cases a <;> cases b <;> simp only [if_true, if_false, Bool.false_eq_true, reduceIte] at h ⊢ <;> omega
theorem shO_len (N : Nat) (us : List Nat) : (shO N us).length = us.length := by unfold shO; rw [bump_len, oL_len]
section
variable {N : Nat} {us : List Nat}
theorem shO_at (hs : 0 < us.sum) {i : Nat} (hi : i < us.length) : (shO N us).getD i 0 = ((N * us.getD i 0 / us.sum : Nat) : Int) + if SymP.isIn N us.sum us (N - qS N us.sum us us.length) i then 1 else 0 := SymP.share_at (by omega) hi
theorem shO_nn (hs : 0 < us.sum) : ∀ x ∈ shO N us, 0 ≤ x := fun x hx => by
  obtain ⟨i, hi, rfl⟩ := List.getElem_of_mem hx
  have hi' : i < us.length := by rw [shO_len] at hi; exact hi
  have h := shO_at (N := N) hs hi'
  have e : (shO N us).getD i 0 = (shO N us)[i] := by simp [List.getD_eq_getElem?_getD, hi]
  rw [e] at h
  rw [h]
  have hp := Int.natCast_nonneg (N * us.getD i 0 / us.sum)
  split
  · exact Int.add_nonneg hp (by decide)
  · exact Int.add_nonneg hp (by decide)
theorem us_pos (hs : 0 < us.sum) : 0 < us.length := by
  cases us with
  | nil => simp at hs
  | cons a l => simp
theorem shO_left (hs : 0 < us.sum) : ∃ left, N - qS N us.sum us us.length = left ∧ N = qS N us.sum us us.length + left ∧ us.sum * left = SymP.sumI us.length (SymP.rs N us.sum us) ∧ left < us.length := by
  obtain ⟨left, hq, h2, h3⟩ := SymP.left_of (n := N) (S := us.sum) rfl hs
  exact ⟨left, by omega, hq, h2, h3⟩
theorem shO_sum (hs : 0 < us.sum) : (shO N us).sum = (N : Int) := by
  obtain ⟨left, h1, h2, h3, h4⟩ := shO_left (N := N) hs
  unfold shO
  rw [h1]
  exact SymP.share_sum (us_pos hs) h2 (by omega)
theorem shO_le (hs : 0 < us.sum) (i : Nat) : (shO N us).getD i 0 ≤ (N : Int) := by
  rw [← shO_sum hs]
  exact SymP.getD_sum_le _ _ (shO_nn hs)
theorem shO_zero (hs : 0 < us.sum) {i : Nat} (hi : i < us.length) (h0 : us.getD i 0 = 0) : (shO N us).getD i 0 = 0 := by
  obtain ⟨left, h1, h2, h3, h4⟩ := shO_left (N := N) hs
  rw [shO_at hs hi, h1, h0]
  have hn : ¬ SymP.isIn N us.sum us left i = true := fun h => by
    have := SymP.isIn_rest hs (us_pos hs) h4 h3 h
    unfold SymP.rs at this
    rw [h0] at this
    simp at this
  rw [if_neg hn]
  simp
theorem shO_fair (hs : 0 < us.sum) {i k : Nat} (hi : i < us.length) (hk : k < us.length) (hw : us.getD k 0 < us.getD i 0) : (shO N us).getD k 0 ≤ (shO N us).getD i 0 := by
  obtain ⟨left, h1, h2, h3, h4⟩ := shO_left (N := N) hs
  have h := SymP.fair hs (us_pos hs) h4 h3 hi hw
  rw [shO_at hs hi, shO_at hs hk, h1]
  exact ite_cast _ _ _ _ h
end
theorem shO_dbl (N : Nat) (us : List Nat) : shO N (us.map (2 * ·)) = shO N us := by
  unfold shO
  rw [SymP.sum_dbl, List.length_map, SymP.qS_dbl]
  exact SymP.share_dbl N us.sum _ us
theorem map_dbl (us : List Nat) : (us.map fun x : Nat => (x : Int)).map (2 * ·) = (us.map (2 * ·)).map fun x : Nat => (x : Int) := by
  rw [List.map_map, List.map_map]
  apply List.map_congr_left
  intro x _
  simp
theorem MaySh.dbl {n : Int} {ws : List Int} {N : Nat} {us : List Nat} (h : MaySh n ws N us) (hw : ∀ x ∈ ws, 0 ≤ x ∧ x ≤ 549755813888) : MaySh n (ws.map (2 * ·)) N (us.map (2 * ·)) := by
  refine ⟨h.num, by rw [h.wts, map_dbl], h.nle, fun x hx => ?_, by rw [List.length_map]; exact h.len0, by rw [List.length_map]; exact h.len, by rw [SymP.sum_dbl]; have := h.sum; omega⟩
  obtain ⟨y, hy, rfl⟩ := List.mem_map.1 hx
  have := hw (y : Int) (by rw [h.wts]; exact List.mem_map.2 ⟨y, hy, rfl⟩)
  omega
theorem MaySh.half {n : Int} {ws : List Int} {N : Nat} {us : List Nat} (h : MaySh n (ws.map (2 * ·)) N us) (hw : ∀ x ∈ ws, 0 ≤ x ∧ x ≤ 549755813888) : ∃ N us, MaySh n ws N us := by
  have hl : (ws.map (2 * ·)).length = us.length := by rw [h.wts, List.length_map]
  rw [List.length_map] at hl
  have hno : noneN ws = false := by
    unfold noneN
    rw [List.any_eq_false]
    intro x hx
    have := hw x hx
    simp [mayN]
    omega
  obtain ⟨N', us', h1, h2, h3, h4⟩ := may_sh (n := n) (ws := ws) (mayN_iff.2 (by have := h.num; have := h.nle; omega)) (by have := h.len0; omega) (by have := h.len; omega) hno
  refine ⟨N', us', h3 ?_⟩
  have hs := h.sum
  have e : us = us'.map (2 * ·) := by
    have e1 := h.wts
    rw [h2, map_dbl] at e1
    have hinj : Function.Injective (fun x : Nat => (x : Int)) := fun a b hab => by have h' : (a : Int) = (b : Int) := hab; omega
    exact ((List.map_inj_right (fun a b hab => hinj hab)).1 e1).symm
  rw [e, SymP.sum_dbl] at hs
  omega
end Go.Proofs.Ytochhjdjfgiaeaa
