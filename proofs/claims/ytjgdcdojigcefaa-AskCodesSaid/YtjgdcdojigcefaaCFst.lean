/- Plain facts: the number with whose cell bytes begin. No program is named here. -/
import Derived.Test.YtjgdcdojigcefaaDig
namespace Go.Proofs.Ytjgdcdojigcefaa

/-- The size that a head tells, and whether the number is below 0. -/
def sizeH (h : Nat) : Nat := if 144 ≤ h then h - 144 else h - 128
def numH (h u : Nat) : Int := if 144 ≤ h then -1 - (u : Int) else u
/-- The number with whose cell bytes begin, and the cell's bytes. -/
def firstN : List Nat → Option (Int × Nat)
  | [] => none
  | h :: t => if h < 128 then some (h, 1) else if 8 < sizeH h ∨ t.length < sizeH h then none else
    if val (t.take (sizeH h)) < 9223372036854775808 ∧ numB (numH h (val (t.take (sizeH h)))) = (h :: t).take (1 + sizeH h) then some (numH h (val (t.take (sizeH h))), 1 + sizeH h) else none

theorem val_lt (l : List Nat) (h : ∀ b ∈ l, b < 256) : val l < 256 ^ l.length := by
  have key : ∀ (n : Nat) (l : List Nat), l.length = n → (∀ b ∈ l, b < 256) → val l < 256 ^ n := by
    intro n
    induction n with
    | zero => intro l hl _; rw [List.length_eq_zero_iff] at hl; subst hl; simp [val]
    | succ n ih =>
      intro l hl hb
      have hne : l ≠ [] := by intro e; subst e; simp at hl
      rw [← List.dropLast_concat_getLast hne, val_snoc]
      have h1 := ih l.dropLast (by simp [hl]) (fun b hb' => hb b ((List.dropLast_sublist l).subset hb'))
      have h2 := hb _ (List.getLast_mem hne)
      rw [Nat.pow_succ]
      omega
  exact key _ l rfl h

/-- What is told has that cell. -/
theorem firstN_some {bs : List Nat} {n : Int} {k : Nat} (hb : ∀ b ∈ bs, b < 256) (h : firstN bs = some (n, k)) : I64 n ∧ numB n = bs.take k ∧ 1 ≤ k ∧ k ≤ bs.length := by
  unfold firstN at h
  split at h
  · cases h
  · rename_i x t
    split at h
    · rename_i hx
      simp at h
      obtain ⟨rfl, rfl⟩ := h
      refine ⟨by unfold I64; omega, ?_, Nat.le_refl _, by simp⟩
      unfold numB
      rw [if_pos ⟨by omega, by omega⟩]
      simp
    · split at h
      · cases h
      · rename_i hsz
        split at h
        · rename_i hu
          simp at h
          obtain ⟨rfl, rfl⟩ := h
          refine ⟨?_, hu.2, by omega, by simp; omega⟩
          have := hu.1
          unfold I64 numH
          split <;> omega
        · cases h

/-- A number's cell is told, with whatever stands behind. -/
theorem firstN_num (n : Int) (hn : I64 n) (rest : List Nat) : firstN (numB n ++ rest) = some (n, (numB n).length) := by
  obtain ⟨h1, h2⟩ := hn
  by_cases c0 : 0 ≤ n ∧ n < 128
  · have e : numB n = [n.toNat] := by unfold numB; rw [if_pos c0]
    rw [e]
    simp only [List.singleton_append, firstN]
    rw [if_pos (by omega)]
    simp
    omega
  · have key : ∀ (H u : Nat), u < 9223372036854775808 → (H = 128 ∧ 0 < u ∨ H = 144) → numB n = (H + (dig u).length) :: dig u → numH (H + (dig u).length) u = n → firstN (numB n ++ rest) = some (n, (numB n).length) := by
      intro H u hu hH e hnum
      have hd8 := dig_le u
      have hs : sizeH (H + (dig u).length) = (dig u).length := by
        unfold sizeH
        rcases hH with ⟨rfl, _⟩ | rfl
        · rw [if_neg (by omega)]; omega
        · rw [if_pos (by omega)]; omega
      have ht : (dig u ++ rest).take (dig u).length = dig u := by simp
      have hv : val (dig u) = u := val_dig u (by omega)
      have hlen : (numB n).length = 1 + (dig u).length := by rw [e]; simp; omega
      rw [hlen]
      have hge : ¬ (H + (dig u).length < 128) := by rcases hH with ⟨rfl, _⟩ | rfl <;> omega
      have e2 : numB n ++ rest = (H + (dig u).length) :: (dig u ++ rest) := by rw [e]; rfl
      have e3 : (numB n ++ rest).take (1 + (dig u).length) = numB n := by rw [← hlen]; simp
      rw [e2] at e3
      rw [e2]
      rw [firstN, if_neg hge, hs, if_neg (by simp; omega), ht, hv, hnum, if_pos ⟨hu, e3.symm⟩]
    by_cases c1 : 0 ≤ n
    · refine key 128 n.toNat (by omega) (.inl ⟨rfl, by omega⟩) (by unfold numB; rw [if_neg c0, if_pos c1]) ?_
      have := dig_le n.toNat
      unfold numH
      rw [if_neg (by omega)]
      omega
    · refine key 144 (-1 - n).toNat (by omega) (.inr rfl) (by unfold numB; rw [if_neg c0, if_neg c1]) ?_
      unfold numH
      rw [if_pos (by omega)]
      omega

end Go.Proofs.Ytjgdcdojigcefaa
