/- Plain facts on numbers as bytes: the digits of a number, the cell of a number, the first number of bytes. No program is named here. -/
import Derived.Lib.BitFns
namespace Go.Proofs.Ytjgdcdojigcefaa

/-- The digits of a number to the base 256, the highest first, without noughts ahead (at most f of them). -/
def digF : Nat → Nat → List Nat
  | 0, _ => []
  | f + 1, u => if u = 0 then [] else digF f (u / 256) ++ [u % 256]
def dig (u : Nat) : List Nat := digF 8 u

theorem digF_zero (f : Nat) : digF f 0 = [] := by cases f <;> simp [digF]
theorem digF_length (f u : Nat) (h : u < 256 ^ f) : (Lib.bitLenAux (8 * f) u + 7) / 8 = (digF f u).length := by
  induction f generalizing u with
  | zero => simp [digF, Lib.bitLenAux]
  | succ f ih =>
    by_cases h0 : u = 0
    · subst h0
      rw [digF_zero]
      have : 8 * (f + 1) = (8 * f + 7) + 1 := by omega
      rw [this]
      simp [Lib.bitLenAux]
    · have hq : u / 256 < 256 ^ f := by
        rw [Nat.div_lt_iff_lt_mul (by omega), ← Nat.pow_succ]
        exact h
      have h1 := ih (u / 256) hq
      rw [digF, if_neg h0, List.length_append, ← h1]
      -- eight halvings, or fewer where nothing is left
      have e8 : 8 * (f + 1) = 8 * f + 1 + 1 + 1 + 1 + 1 + 1 + 1 + 1 := by omega
      rw [e8]
      have hdiv : u / 2 / 2 / 2 / 2 / 2 / 2 / 2 / 2 = u / 256 := by omega
      simp only [Lib.bitLenAux, hdiv, List.length_singleton]
      by_cases c1 : u / 2 = 0
      · have : u / 256 = 0 := by omega
        rw [this]
        have hz : ∀ g, Lib.bitLenAux g 0 = 0 := fun g => by cases g <;> simp [Lib.bitLenAux]
        simp [h0, c1, hz]
      · by_cases c2 : u / 2 / 2 = 0
        · have : u / 256 = 0 := by omega
          rw [this]
          have hz : ∀ g, Lib.bitLenAux g 0 = 0 := fun g => by cases g <;> simp [Lib.bitLenAux]
          simp [h0, c1, c2, hz]
        · by_cases c3 : u / 2 / 2 / 2 = 0
          · have : u / 256 = 0 := by omega
            rw [this]
            have hz : ∀ g, Lib.bitLenAux g 0 = 0 := fun g => by cases g <;> simp [Lib.bitLenAux]
            simp [h0, c1, c2, c3, hz]
          · by_cases c4 : u / 2 / 2 / 2 / 2 = 0
            · have : u / 256 = 0 := by omega
              rw [this]
              have hz : ∀ g, Lib.bitLenAux g 0 = 0 := fun g => by cases g <;> simp [Lib.bitLenAux]
              simp [h0, c1, c2, c3, c4, hz]
            · by_cases c5 : u / 2 / 2 / 2 / 2 / 2 = 0
              · have : u / 256 = 0 := by omega
                rw [this]
                have hz : ∀ g, Lib.bitLenAux g 0 = 0 := fun g => by cases g <;> simp [Lib.bitLenAux]
                simp [h0, c1, c2, c3, c4, c5, hz]
              · by_cases c6 : u / 2 / 2 / 2 / 2 / 2 / 2 = 0
                · have : u / 256 = 0 := by omega
                  rw [this]
                  have hz : ∀ g, Lib.bitLenAux g 0 = 0 := fun g => by cases g <;> simp [Lib.bitLenAux]
                  simp [h0, c1, c2, c3, c4, c5, c6, hz]
                · by_cases c7 : u / 2 / 2 / 2 / 2 / 2 / 2 / 2 = 0
                  · have : u / 256 = 0 := by omega
                    rw [this]
                    have hz : ∀ g, Lib.bitLenAux g 0 = 0 := fun g => by cases g <;> simp [Lib.bitLenAux]
                    simp [h0, c1, c2, c3, c4, c5, c6, c7, hz]
                  · simp only [h0, c1, c2, c3, c4, c5, c6, c7, if_false]
                    omega
theorem dig_length (u : Nat) (h : u < 18446744073709551616) : (Lib.bitLen u + 7) / 8 = (dig u).length := digF_length 8 u (by simpa using h)
theorem digF_le (f u : Nat) : (digF f u).length ≤ f := by
  induction f generalizing u with
  | zero => simp [digF]
  | succ f ih =>
    rw [digF]
    split
    · simp
    · have := ih (u / 256)
      simp
      omega
theorem dig_le (u : Nat) : (dig u).length ≤ 8 := digF_le 8 u
theorem digF_lt (f u : Nat) : ∀ b ∈ digF f u, b < 256 := by
  induction f generalizing u with
  | zero => simp [digF]
  | succ f ih =>
    rw [digF]
    split
    · simp
    · intro b hb
      rcases List.mem_append.1 hb with hb | hb
      · exact ih _ b hb
      · simp at hb; omega
theorem dig_lt (u : Nat) : ∀ b ∈ dig u, b < 256 := digF_lt 8 u
/-- The number that bytes make. -/
def val (l : List Nat) : Nat := l.foldl (fun a b => a * 256 + b) 0
theorem val_snoc (l : List Nat) (b : Nat) : val (l ++ [b]) = val l * 256 + b := by simp [val]
theorem val_digF (f u : Nat) (h : u < 256 ^ f) : val (digF f u) = u := by
  induction f generalizing u with
  | zero => simp at h; subst h; simp [digF, val]
  | succ f ih =>
    rw [digF]
    split
    · subst_vars; simp [val]
    · rw [val_snoc, ih (u / 256) (by rw [Nat.div_lt_iff_lt_mul (by omega), ← Nat.pow_succ]; exact h)]
      omega
theorem val_dig (u : Nat) (h : u < 18446744073709551616) : val (dig u) = u := val_digF 8 u (by simpa using h)
/-- The j-th digit from the end. -/
theorem digF_get (f u : Nat) (h : u < 256 ^ f) (j : Nat) (hj : j < (digF f u).length) : (digF f u)[(digF f u).length - 1 - j]'(by omega) = u / 256 ^ j % 256 := by
  induction f generalizing u j with
  | zero => simp [digF] at hj
  | succ f ih =>
    by_cases h0 : u = 0
    · subst h0; rw [digF_zero] at hj; simp at hj
    · have hq : u / 256 < 256 ^ f := by rw [Nat.div_lt_iff_lt_mul (by omega), ← Nat.pow_succ]; exact h
      have e : digF (f + 1) u = digF f (u / 256) ++ [u % 256] := by rw [digF, if_neg h0]
      have hl : (digF (f + 1) u).length = (digF f (u / 256)).length + 1 := by rw [e]; simp
      cases j with
      | zero =>
        simp only [e, List.length_append, List.length_singleton, Nat.add_sub_cancel, Nat.sub_zero]
        rw [List.getElem_append_right (Nat.le_refl _)]
        simp
      | succ j =>
        have hj' : j < (digF f (u / 256)).length := by omega
        have := ih (u / 256) hq j hj'
        simp only [e, List.length_append, List.length_singleton, Nat.add_sub_cancel]
        rw [List.getElem_append_left (by omega)]
        have e2 : (digF f (u / 256)).length - (j + 1) = (digF f (u / 256)).length - 1 - j := by omega
        simp only [e2]
        rw [this, Nat.pow_succ, Nat.mul_comm, ← Nat.div_div_eq_div_mul]
theorem digF_pos (f u : Nat) (h : u < 256 ^ f) (h0 : 0 < u) : 0 < (digF f u).length := by
  cases f with
  | zero => simp at h; omega
  | succ f => rw [digF, if_neg (by omega)]; simp
/-- The first of the last k digits, with the others behind it: what a loop from the highest digit on has written. -/
def digTo (u k : Nat) : List Nat := (dig u).take k
theorem digTo_succ (u k : Nat) (h : u < 18446744073709551616) (hk : k < (dig u).length) : digTo u (k + 1) = digTo u k ++ [u / 256 ^ ((dig u).length - 1 - k) % 256] := by
  unfold digTo
  rw [List.take_succ_eq_append_getElem hk]
  have := digF_get 8 u (by simpa using h) ((dig u).length - 1 - k) (by unfold dig at hk ⊢; omega)
  congr 2
  unfold dig at hk this ⊢
  rw [← this]
  congr 1
  omega

/-- The cell of a number. -/
def numB (n : Int) : List Nat :=
  if 0 ≤ n ∧ n < 128 then [n.toNat] else if 0 ≤ n then (128 + (dig n.toNat).length) :: dig n.toNat else (144 + (dig (-1 - n).toNat).length) :: dig (-1 - n).toNat
/-- A 64-bit number. -/
def I64 (n : Int) : Prop := -9223372036854775808 ≤ n ∧ n ≤ 9223372036854775807
theorem numB_lt (n : Int) : ∀ b ∈ numB n, b < 256 := by
  unfold numB
  split
  · intro b hb; simp at hb; omega
  · split
    · intro b hb
      rcases List.mem_cons.1 hb with rfl | hb
      · have := dig_le n.toNat; omega
      · exact dig_lt _ b hb
    · intro b hb
      rcases List.mem_cons.1 hb with rfl | hb
      · have := dig_le (-1 - n).toNat; omega
      · exact dig_lt _ b hb
theorem numB_length (n : Int) : 1 ≤ (numB n).length ∧ (numB n).length ≤ 9 := by
  unfold numB
  split
  · simp
  · split
    · have := dig_le n.toNat; simp; omega
    · have := dig_le (-1 - n).toNat; simp; omega
end Go.Proofs.Ytjgdcdojigcefaa
