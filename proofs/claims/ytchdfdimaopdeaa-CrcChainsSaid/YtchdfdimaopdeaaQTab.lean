/- Package crc: a table in memory: New, reckon. -/
import Derived.Test.YtchdfdimaopdeaaQOnce
import Derived.Test.YtchdfdimaopdeaaFlow
import Derived.Laws.NewBlocks
namespace Go.Proofs.Ytchdfdimaopdeaa
open Go.RowKit

def u32v (n : Nat) : Value := .int .u32 n
/-- The steps of a table behind k rounds of its reckoning. -/
def tabN (k : Nat) : List Nat := (List.range 256).map fun i => if i < k then stepN 0 i else 0
def tabC (d m : Int) (k : Nat) : Array Value := (Value.int .u32 d :: Value.int .i32 m :: Value.int .u32 0 :: (tabN k).map u32v).toArray
def TabB (W : World) (p : Nat) (d m : Int) (k : Nat) : Prop := W.heap[p]? = some (.cells (tabC d m k) 62 (0, 0))
/-- A table at block p. -/
def IsTab (W : World) (p : Nat) : Prop := TabB W p 0 0 0 ∨ TabB W p 1 0 256
theorem tabN_length (k : Nat) : (tabN k).length = 256 := by simp [tabN]
theorem tabN_at (k i : Nat) (h : i < 256) : (tabN k)[i]? = some (if i < k then stepN 0 i else 0) := by simp [tabN, h]
theorem tabN_set (k : Nat) (h : k < 256) : (tabN k).set k (stepN 0 k) = tabN (k + 1) := by
  apply List.ext_getElem?
  intro i
  by_cases hi : i < 256
  · rw [List.getElem?_set, tabN_at _ _ hi, tabN_at _ _ hi, tabN_length]
    by_cases hk : k = i
    · subst hk
      rw [if_pos rfl, if_pos h, if_pos (by omega)]
    · rw [if_neg hk]
      by_cases h1 : i < k
      · rw [if_pos h1, if_pos (by omega)]
      · rw [if_neg h1, if_neg (by omega)]
  · rw [List.getElem?_eq_none (by simp [tabN_length]; omega), List.getElem?_eq_none (by simp [tabN_length]; omega)]
theorem TabB.lt {W : World} {p : Nat} {d m : Int} {k : Nat} (h : TabB W p d m k) : p < W.heap.size := lt_of_block h
theorem TabB.cell {W : World} {p : Nat} {d m : Int} {k : Nat} (h : TabB W p d m k) {i : Nat} (hi : i < 256) : W.cell? ⟨p, 3 + i, none⟩ = some (.int .u32 ((if i < k then stepN 0 i else 0 : Nat) : Int)) := by
  rw [cell_at h, Nat.add_comm 3 i]
  simp [tabC, tabN_at k i hi, u32v]
theorem TabB.cell0 {W : World} {p : Nat} {d m : Int} {k : Nat} (h : TabB W p d m k) : W.cell? ⟨p, 0, none⟩ = some (.int .u32 d) := by
  rw [cell_at h]; simp [tabC]
theorem TabB.cell1 {W : World} {p : Nat} {d m : Int} {k : Nat} (h : TabB W p d m k) : W.cell? ⟨p, 1, none⟩ = some (.int .i32 m) := by
  rw [cell_at h]; simp [tabC]
theorem TabB.frozen {W : World} {p : Nat} {d m : Int} {k : Nat} (h : TabB W p d m k) (i : Nat) : W.frozen? ⟨p, i, none⟩ = false := frozen_at h i
theorem TabB.set0 {W : World} {p : Nat} {d m : Int} {k : Nat} (h : TabB W p d m k) (d' : Int) : TabB (W.setCell ⟨p, 0, none⟩ (.int .u32 d')) p d' m k := by
  unfold TabB
  rw [block_set h]
  simp [tabC]
theorem TabB.set1 {W : World} {p : Nat} {d m : Int} {k : Nat} (h : TabB W p d m k) (m' : Int) : TabB (W.setCell ⟨p, 1, none⟩ (.int .i32 m')) p d m' k := by
  unfold TabB
  rw [block_set h]
  simp [tabC]
theorem TabB.step {W : World} {p : Nat} {d m : Int} {k : Nat} (h : TabB W p d m k) (hk : k < 256) : TabB (W.setCell ⟨p, 3 + k, none⟩ (.int .u32 (stepN 0 k : Nat))) p d m (k + 1) := by
  unfold TabB
  rw [block_set h, Nat.add_comm 3 k]
  simp [tabC, ← tabN_set k hk, List.map_set, u32v]
theorem TabB.keep {W W' : World} {p : Nat} {d m : Int} {k : Nat} (h : TabB W p d m k) (e : W'.heap[p]? = W.heap[p]?) : TabB W' p d m k := e.trans h
theorem IsTab.keep {W W' : World} {p : Nat} (h : IsTab W p) (e : W'.heap[p]? = W.heap[p]?) : IsTab W' p := by
  rcases h with h | h
  · exact .inl (h.keep e)
  · exact .inr (h.keep e)
theorem IsTab.lt {W : World} {p : Nat} (h : IsTab W p) : p < W.heap.size := by
  rcases h with h | h
  · exact h.lt
  · exact h.lt
theorem IsTab.below {W W' : World} {p : Nat} (h : IsTab W p) (b : Below W.heap.size W W') : IsTab W' p := h.keep (b.block p h.lt)

set_option maxRecDepth 100000 in
theorem new_any (w : World) : Calls Try.prog 11 #[] w fun e w' => e = .returned (.pointer (some ⟨w.heap.size, 0, none⟩)) ∧ IsTab w' w.heap.size ∧ Below w.heap.size w w' := by
  go_enter Try.func11, Try.ntmps11
  go_wp2
  go_ret
  have e : tabC 0 0 0 = Try.zeroCells62 := by kernel_rfl
  refine ⟨rfl, .inl ?_, (Below.refl _ w).alloc (Nat.le_refl _) _⟩
  unfold TabB
  rw [e]
  exact block_new w _

set_option maxRecDepth 100000 in
set_option maxHeartbeats 400000 in
theorem reckon_any (p : Nat) (m : Int) (w : World) (h : TabB w p 0 m 0) : Calls Try.prog 27 #[.pointer (some ⟨p, 0, none⟩)] w fun e w' => e = .returned (.tuple #[]) ∧ TabB w' p 0 m 256 ∧ Fr 0 [] [p] w w' := by
  have H := Lib.hid h
  clear h
  go_enter Try.func27, Try.ntmps27
  go_wp2_with fail
  go_loopw [3] (fun i wr => ∃ k : Nat, k ≤ 256 ∧ i = .int .i64 k ∧ TabB wr p 0 m k ∧ Fr 0 [] [p] w wr) (fun i _ => 256 - (intOf i).toNat)
  case atStart => exact ⟨0, Nat.zero_le _, rfl, H.out, Fr.refl w⟩
  case round =>
    obtain ⟨k, hk, rfl, ht, hf⟩ := hrel
    clear H
    have HT := Lib.hid ht
    have HF := Lib.hid hf
    clear ht hf
    by_cases hlt : k < 256
    · have hw8 : IntKind.u8.wrap (k : Int) = (k : Int) := IntWalk.u8_in _ (by omega)
      go_wp2_with fail
      refine wp_region_flow (fun W => TabB W p 0 m k ∧ Fr 0 [] [p] w W) [0, 5, 6, 1, 2, 3, 4, 7, 8] (by kernel_rfl) (by kernel_rfl) (by kernel_rfl) (⟨HT.out.keep rfl, HF.out.drew⟩) ?_
      refine flow_val ?_ rfl (by kernel_rfl) (by rfl) (fun W hW => ?_) ?_
      rotate_left 1
      · go_simp <;> with_reducible rfl
      simp only [Act.put, List.setIfInBounds_toArray, List.set_cons_succ, List.set_cons_zero]
      refine flow_val ?_ rfl (by kernel_rfl) (by rfl) (fun W hW => ?_) ?_
      rotate_left 1
      · go_simp <;> with_reducible rfl
      simp only [Act.put, List.setIfInBounds_toArray, List.set_cons_succ, List.set_cons_zero]
      refine flow_val ?_ rfl (by kernel_rfl) (by rfl) (fun W hW => ?_) ?_
      rotate_left 1
      · go_simp <;> with_reducible rfl
      simp only [Act.put, List.setIfInBounds_toArray, List.set_cons_succ, List.set_cons_zero]
      refine flow_val ?_ rfl (by kernel_rfl) (by rfl) (fun W hW => ?_) ?_
      rotate_left 1
      · go_simp <;> with_reducible rfl
      simp only [Act.put, List.setIfInBounds_toArray, List.set_cons_succ, List.set_cons_zero]
      refine flow_val ?_ rfl (by kernel_rfl) (by rfl) (fun W hW => ?_) ?_
      rotate_left 1
      · go_simp <;> with_reducible rfl
      simp only [Act.put, List.setIfInBounds_toArray, List.set_cons_succ, List.set_cons_zero]
      refine flow_val ?_ rfl (by kernel_rfl) (by rfl) (fun W hW => ?_) ?_
      rotate_left 1
      · go_simp <;> with_reducible rfl
      simp only [Act.put, List.setIfInBounds_toArray, List.set_cons_succ, List.set_cons_zero]
      refine flow_call (.int .u32 (stepN 0 k : Nat)) rfl (by kernel_rfl) (by rfl) (by kernel_rfl) (fun W hW => ⟨_, _, _, by go_simp, (step_any 0 k (by omega) (by omega) W).mono fun e w' ⟨he, hw'⟩ => ⟨he, hw' ▸ hW⟩⟩) ?_
      simp only [Act.put, List.setIfInBounds_toArray, List.set_cons_succ, List.set_cons_zero]
      refine flow_val ?_ rfl (by kernel_rfl) (by rfl) (fun W hW => ?_) ?_
      rotate_left 1
      · go_simp <;> with_reducible rfl
      simp only [Act.put, List.setIfInBounds_toArray, List.set_cons_succ, List.set_cons_zero]
      refine flow_bar (fun W => TabB W p 0 m (k + 1) ∧ Fr 0 [] [p] w W) (fun _ => True) rfl (by kernel_rfl) (by rfl) (by kernel_rfl) (by kernel_rfl) (fun W hW hC => ?_) ?_
      · have hc := hW.1.1.cell hlt
        have hz := hW.1.1.frozen (3 + k)
        refine ⟨_, by go_simp <;> with_reducible rfl, ⟨?_, ?_⟩, trivial⟩
        · exact hW.1.1.step hlt
        · exact hW.1.2.setCell (p := ⟨p, 3 + k, none⟩) _ (Nat.zero_le _) (.inl (by simp))
      refine flow_done2 ?_
      rintro W ⟨⟨r1, r2⟩, _⟩ _
      have R1 := Lib.hid r1
      have R2 := Lib.hid r2
      clear r1 r2
      go_wp2_with fail
      go_roundw
      case rel => exact ⟨k + 1, hlt, by go_num, R1.out, R2.out⟩
      case measure => simp [intOf]; omega
    · obtain rfl : k = 256 := by omega
      go_wp2
      go_end0
      exact ⟨rfl, HT.out, HF.out⟩
end Go.Proofs.Ytchdfdimaopdeaa
