/- More memory words: several cells of one block set one behind the other; a slice cleared. No program is named here. -/
import Derived.Test.YtochhjdjfgiaeaaMem
import Derived.Deep.RegionLaw
import Derived.Lib.SliceRun
namespace Go.Proofs.Ytochhjdjfgiaeaa
open Go.RowKit

/-- The cells of a block behind several stores in a row. -/
def over : Array Value → Nat → List Value → Array Value
  | cs, _, [] => cs
  | cs, o, v :: r => over (cs.setIfInBounds o v) (o + 1) r
theorem over_size : ∀ (vs : List Value) (cs : Array Value) (o : Nat), (over cs o vs).size = cs.size
  | [], _, _ => rfl
  | v :: r, cs, o => by rw [over, over_size r]; simp
theorem over_get : ∀ (vs : List Value) (cs : Array Value) (o j : Nat), o + vs.length ≤ cs.size → (over cs o vs)[j]? = if o ≤ j ∧ j < o + vs.length then vs[j - o]? else cs[j]?
  | [], cs, o, j, _ => by
    rw [over, if_neg]
    simp
  | v :: r, cs, o, j, h => by
    simp only [List.length_cons] at h
    rw [over, over_get r _ (o + 1) j (by simp; omega)]
    simp only [List.length_cons]
    by_cases h1 : o + 1 ≤ j ∧ j < o + 1 + r.length
    · rw [if_pos h1, if_pos (by omega)]
      obtain ⟨d, rfl⟩ : ∃ d, j = o + 1 + d := ⟨j - (o + 1), by omega⟩
      rw [show o + 1 + d - (o + 1) = d from by omega, show o + 1 + d - o = d + 1 from by omega]
      rfl
    · rw [if_neg h1]
      by_cases h2 : j = o
      · subst h2
        rw [if_pos (by omega), Array.getElem?_setIfInBounds_self_of_lt (by omega)]
        simp
      · rw [if_neg (by omega), Array.getElem?_setIfInBounds_ne (by omega)]
theorem block_over {k : Nat} {t : TypeId} {f : Nat × Nat} : ∀ (vs : List Value) (cs : Array Value) (o : Nat) (w : World), w.heap[k]? = some (.cells cs t f) → (w.setCells k o vs).heap[k]? = some (.cells (over cs o vs) t f)
  | [], _, _, _, h => h
  | v :: r, cs, o, _, h => block_over r (cs.setIfInBounds o v) (o + 1) _ (block_set h o v)
theorem Fr.setCells {B : Nat} {T : List TypeId} {S : List Nat} {a : World} {k : Nat} (hB : B ≤ k) : ∀ (vs : List Value) (o : Nat) (w : World), Fr B T S a w → (k ∈ S ∨ ∃ cs t f, w.heap[k]? = some (.cells cs t f) ∧ t ∈ T) → Fr B T S a (w.setCells k o vs)
  | [], _, _, h, _ => h
  | v :: r, o, w, h, ht => Fr.setCells hB r (o + 1) _ (h.setCell (p := ⟨k, o, none⟩) v hB ht) (by
      rcases ht with ht | ⟨cs, t, f, he, ht⟩
      · exact .inl ht
      · exact .inr ⟨_, t, f, block_set he o v, ht⟩)
theorem take_over {cs : Array Value} {o : Nat} {vs xs : List Value} {n : Nat} (hn : n = o + vs.length) (hx : o ≤ xs.length) (hs : n ≤ cs.size) (ht : cs.toList.take xs.length = xs) : (over cs o vs).toList.take n = xs.take o ++ vs := by
  have hxs : xs.length ≤ cs.size := by
    have := congrArg List.length ht
    simp at this
    omega
  apply List.ext_getElem?
  intro j
  rw [List.getElem?_take]
  by_cases hj : j < n
  · rw [if_pos hj, Array.getElem?_toList, over_get _ _ _ _ (by omega)]
    by_cases h1 : o ≤ j
    · rw [if_pos (by omega), List.getElem?_append_right (by simp; omega)]
      simp
      rw [Nat.min_eq_left hx]
    · rw [if_neg (by omega), List.getElem?_append_left (by simp; omega), List.getElem?_take, if_pos (by omega), ← ht, List.getElem?_take, if_pos (by omega), Array.getElem?_toList]
  · rw [if_neg hj, List.getElem?_eq_none]
    simp
    omega

/-- 'clear(s)' of a slice of n > 0 elements of several cells each. -/
theorem run_clear_many {P : Program} (w : World) (t e : TypeId) (z : Value) (ht : P.underlying t = some (.slice e)) (hv : ∀ w, (zeroValue e).run P w = .ok z w) (h1 : ∀ u ∈ z.cells, u.oneCell' = true) (b o n c : Nat) (hn : 0 < n)
    (hc : ∀ j, j < n * z.cells.size → (w.cell? ⟨b, o + j, none⟩).isSome = true) (hf : ∀ j, j < n * z.cells.size → w.frozen? ⟨b, o + j, none⟩ = false) :
    ∃ vs : List Value, vs.length = n * z.cells.size ∧ ∀ ty, (Builtin.clear_ #[t] ty #[.slice (some ⟨b, o, none⟩) n c]).run P w = .ok (.tuple #[]) (w.setCells b o vs) := by
  obtain ⟨vs, hvs⟩ : ∃ vs, (Builtin.zeroCells z.cells n).toList = vs := ⟨_, rfl⟩
  have hl : vs.length = n * z.cells.size := by rw [← hvs]; simp [Builtin.zeroCells]
  have hone : ∀ u ∈ vs, u.oneCell' = true := by
    intro u hu
    rw [← hvs] at hu
    simp [Builtin.zeroCells] at hu
    obtain ⟨i, hi, rfl⟩ := hu
    by_cases h0 : z.cells.size = 0
    · rw [h0] at hi; omega
    · have hm : i % z.cells.size < z.cells.size := Nat.mod_lt _ (by omega)
      have := h1 z.cells[i % z.cells.size] (by simp)
      simpa [hm] using this
  have hst := run_storeCells_cells (P := P) b o vs 0 w (by simpa [hl] using hc) (by simpa [hl] using hf) hone
  simp only [Nat.add_zero] at hst
  obtain ⟨m, rfl⟩ : ∃ m, n = m + 1 := ⟨n - 1, by omega⟩
  exact ⟨vs, hl, fun ty => by simp [Builtin.clear_, run_underlying ht, hv, hvs, hst]⟩
end Go.Proofs.Ytochhjdjfgiaeaa
