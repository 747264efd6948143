/- Joined: Plain facts on numbers as bytes: the digits of a number, the cell of a number, the first number of bytes. No program is named here. Plain facts: the number with whose cell bytes begin. No program is named here. Plain facts on makers and takers of cells: what each call makes of the bytes. No program is named here. Memory words for the walks of this seat: a frame that names what may have turned, slices that read as a list. No program is named here. -/
import Derived.Lib.BitFns
import Derived.WalkKit
import Derived.WalkSpells
import Derived.WalkLawsBesides
import Derived.Deep.Draws
import Derived.Lib.Hide
namespace Go.Proofs.Ytpccbobomppdbaa

/-- The digits of a number to the base 256, the highest first, without noughts ahead (at most f of them). -/
def digF : Nat → Nat → List Nat
  | 0, _ => []
  | f + 1, u => if u = 0 then [] else digF f (u / 256) ++ [u % 256]
def dig (u : Nat) : List Nat := digF 8 u

theorem digF_zero (f : Nat) : digF f 0 = [] := by cases f <;> simp [digF]
theorem digF_length (f u : Nat) (h : u < 256 ^ f) : (Lib.bitLenAux (8 * f) u + 7) / 8 = (digF f u).length := by
  induction f generalizing u with
  | zero => simp [digF, Lib.bitLenAux]
  | succ f ih =>
    by_cases h0 : u = 0
    · subst h0
      rw [digF_zero]
      have : 8 * (f + 1) = (8 * f + 7) + 1 := by omega
      rw [this]
      simp [Lib.bitLenAux]
    · have hq : u / 256 < 256 ^ f := by
        rw [Nat.div_lt_iff_lt_mul (by omega), ← Nat.pow_succ]
        exact h
      have h1 := ih (u / 256) hq
      rw [digF, if_neg h0, List.length_append, ← h1]
      -- eight halvings, or fewer where nothing is left
      have e8 : 8 * (f + 1) = 8 * f + 1 + 1 + 1 + 1 + 1 + 1 + 1 + 1 := by omega
      rw [e8]
      have hdiv : u / 2 / 2 / 2 / 2 / 2 / 2 / 2 / 2 = u / 256 := by omega
      simp only [Lib.bitLenAux, hdiv, List.length_singleton]
      by_cases c1 : u / 2 = 0
      · have : u / 256 = 0 := by omega
        rw [this]
        have hz : ∀ g, Lib.bitLenAux g 0 = 0 := fun g => by cases g <;> simp [Lib.bitLenAux]
        simp [h0, c1, hz]
      · by_cases c2 : u / 2 / 2 = 0
        · have : u / 256 = 0 := by omega
          rw [this]
          have hz : ∀ g, Lib.bitLenAux g 0 = 0 := fun g => by cases g <;> simp [Lib.bitLenAux]
          simp [h0, c1, c2, hz]
        · by_cases c3 : u / 2 / 2 / 2 = 0
          · have : u / 256 = 0 := by omega
            rw [this]
            have hz : ∀ g, Lib.bitLenAux g 0 = 0 := fun g => by cases g <;> simp [Lib.bitLenAux]
            simp [h0, c1, c2, c3, hz]
          · by_cases c4 : u / 2 / 2 / 2 / 2 = 0
            · have : u / 256 = 0 := by omega
              rw [this]
              have hz : ∀ g, Lib.bitLenAux g 0 = 0 := fun g => by cases g <;> simp [Lib.bitLenAux]
              simp [h0, c1, c2, c3, c4, hz]
            · by_cases c5 : u / 2 / 2 / 2 / 2 / 2 = 0
              · have : u / 256 = 0 := by omega
                rw [this]
                have hz : ∀ g, Lib.bitLenAux g 0 = 0 := fun g => by cases g <;> simp [Lib.bitLenAux]
                simp [h0, c1, c2, c3, c4, c5, hz]
              · by_cases c6 : u / 2 / 2 / 2 / 2 / 2 / 2 = 0
                · have : u / 256 = 0 := by omega
                  rw [this]
                  have hz : ∀ g, Lib.bitLenAux g 0 = 0 := fun g => by cases g <;> simp [Lib.bitLenAux]
                  simp [h0, c1, c2, c3, c4, c5, c6, hz]
                · by_cases c7 : u / 2 / 2 / 2 / 2 / 2 / 2 / 2 = 0
                  · have : u / 256 = 0 := by omega
                    rw [this]
                    have hz : ∀ g, Lib.bitLenAux g 0 = 0 := fun g => by cases g <;> simp [Lib.bitLenAux]
                    simp [h0, c1, c2, c3, c4, c5, c6, c7, hz]
                  · simp only [h0, c1, c2, c3, c4, c5, c6, c7, if_false]
                    omega
theorem dig_length (u : Nat) (h : u < 18446744073709551616) : (Lib.bitLen u + 7) / 8 = (dig u).length := digF_length 8 u (by simpa using h)
theorem digF_le (f u : Nat) : (digF f u).length ≤ f := by
  induction f generalizing u with
  | zero => simp [digF]
  | succ f ih =>
    rw [digF]
    split
    · simp
    · have := ih (u / 256)
      simp
      omega
theorem dig_le (u : Nat) : (dig u).length ≤ 8 := digF_le 8 u
theorem digF_lt (f u : Nat) : ∀ b ∈ digF f u, b < 256 := by
  induction f generalizing u with
  | zero => simp [digF]
  | succ f ih =>
    rw [digF]
    split
    · simp
    · intro b hb
      rcases List.mem_append.1 hb with hb | hb
      · exact ih _ b hb
      · simp at hb; omega
theorem dig_lt (u : Nat) : ∀ b ∈ dig u, b < 256 := digF_lt 8 u
/-- The number that bytes make. -/
def val (l : List Nat) : Nat := l.foldl (fun a b => a * 256 + b) 0
theorem val_snoc (l : List Nat) (b : Nat) : val (l ++ [b]) = val l * 256 + b := by simp [val]
theorem val_digF (f u : Nat) (h : u < 256 ^ f) : val (digF f u) = u := by
  induction f generalizing u with
  | zero => simp at h; subst h; simp [digF, val]
  | succ f ih =>
    rw [digF]
    split
    · subst_vars; simp [val]
    · rw [val_snoc, ih (u / 256) (by rw [Nat.div_lt_iff_lt_mul (by omega), ← Nat.pow_succ]; exact h)]
      omega
theorem val_dig (u : Nat) (h : u < 18446744073709551616) : val (dig u) = u := val_digF 8 u (by simpa using h)
/-- The j-th digit from the end. -/
theorem digF_get (f u : Nat) (h : u < 256 ^ f) (j : Nat) (hj : j < (digF f u).length) : (digF f u)[(digF f u).length - 1 - j]'(by omega) = u / 256 ^ j % 256 := by
  induction f generalizing u j with
  | zero => simp [digF] at hj
  | succ f ih =>
    by_cases h0 : u = 0
    · subst h0; rw [digF_zero] at hj; simp at hj
    · have hq : u / 256 < 256 ^ f := by rw [Nat.div_lt_iff_lt_mul (by omega), ← Nat.pow_succ]; exact h
      have e : digF (f + 1) u = digF f (u / 256) ++ [u % 256] := by rw [digF, if_neg h0]
      have hl : (digF (f + 1) u).length = (digF f (u / 256)).length + 1 := by rw [e]; simp
      cases j with
      | zero =>
        simp only [e, List.length_append, List.length_singleton, Nat.add_sub_cancel, Nat.sub_zero]
        rw [List.getElem_append_right (Nat.le_refl _)]
        simp
      | succ j =>
        have hj' : j < (digF f (u / 256)).length := by omega
        have := ih (u / 256) hq j hj'
        simp only [e, List.length_append, List.length_singleton, Nat.add_sub_cancel]
        rw [List.getElem_append_left (by omega)]
        have e2 : (digF f (u / 256)).length - (j + 1) = (digF f (u / 256)).length - 1 - j := by omega
        simp only [e2]
        rw [this, Nat.pow_succ, Nat.mul_comm, ← Nat.div_div_eq_div_mul]
theorem digF_pos (f u : Nat) (h : u < 256 ^ f) (h0 : 0 < u) : 0 < (digF f u).length := by
  cases f with
  | zero => simp at h; omega
  | succ f => rw [digF, if_neg (by omega)]; simp
/-- The first of the last k digits, with the others behind it: what a loop from the highest digit on has written. -/
def digTo (u k : Nat) : List Nat := (dig u).take k
theorem digTo_succ (u k : Nat) (h : u < 18446744073709551616) (hk : k < (dig u).length) : digTo u (k + 1) = digTo u k ++ [u / 256 ^ ((dig u).length - 1 - k) % 256] := by
  unfold digTo
  rw [List.take_succ_eq_append_getElem hk]
  have := digF_get 8 u (by simpa using h) ((dig u).length - 1 - k) (by unfold dig at hk ⊢; omega)
  congr 2
  unfold dig at hk this ⊢
  rw [← this]
  congr 1
  omega

/-- The cell of a number. -/
def numB (n : Int) : List Nat :=
  if 0 ≤ n ∧ n < 128 then [n.toNat] else if 0 ≤ n then (128 + (dig n.toNat).length) :: dig n.toNat else (144 + (dig (-1 - n).toNat).length) :: dig (-1 - n).toNat
/-- A 64-bit number. -/
def I64 (n : Int) : Prop := -9223372036854775808 ≤ n ∧ n ≤ 9223372036854775807
theorem numB_lt (n : Int) : ∀ b ∈ numB n, b < 256 := by
  unfold numB
  split
  · intro b hb; simp at hb; omega
  · split
    · intro b hb
      rcases List.mem_cons.1 hb with rfl | hb
      · have := dig_le n.toNat; omega
      · exact dig_lt _ b hb
    · intro b hb
      rcases List.mem_cons.1 hb with rfl | hb
      · have := dig_le (-1 - n).toNat; omega
      · exact dig_lt _ b hb
theorem numB_length (n : Int) : 1 ≤ (numB n).length ∧ (numB n).length ≤ 9 := by
  unfold numB
  split
  · simp
  · split
    · have := dig_le n.toNat; simp; omega
    · have := dig_le (-1 - n).toNat; simp; omega
end Go.Proofs.Ytpccbobomppdbaa

namespace Go.Proofs.Ytpccbobomppdbaa

/-- The size that a head tells, and whether the number is below 0. -/
def sizeH (h : Nat) : Nat := if 144 ≤ h then h - 144 else h - 128
def numH (h u : Nat) : Int := if 144 ≤ h then -1 - (u : Int) else u
/-- The number with whose cell bytes begin, and the cell's bytes. -/
def firstN : List Nat → Option (Int × Nat)
  | [] => none
  | h :: t => if h < 128 then some (h, 1) else if 8 < sizeH h ∨ t.length < sizeH h then none else
    if val (t.take (sizeH h)) < 9223372036854775808 ∧ numB (numH h (val (t.take (sizeH h)))) = (h :: t).take (1 + sizeH h) then some (numH h (val (t.take (sizeH h))), 1 + sizeH h) else none

theorem val_lt (l : List Nat) (h : ∀ b ∈ l, b < 256) : val l < 256 ^ l.length := by
  have key : ∀ (n : Nat) (l : List Nat), l.length = n → (∀ b ∈ l, b < 256) → val l < 256 ^ n := by
    intro n
    induction n with
    | zero => intro l hl _; rw [List.length_eq_zero_iff] at hl; subst hl; simp [val]
    | succ n ih =>
      intro l hl hb
      have hne : l ≠ [] := by intro e; subst e; simp at hl
      rw [← List.dropLast_concat_getLast hne, val_snoc]
      have h1 := ih l.dropLast (by simp [hl]) (fun b hb' => hb b ((List.dropLast_sublist l).subset hb'))
      have h2 := hb _ (List.getLast_mem hne)
      rw [Nat.pow_succ]
      omega
  exact key _ l rfl h

/-- What is told has that cell. -/
theorem firstN_some {bs : List Nat} {n : Int} {k : Nat} (hb : ∀ b ∈ bs, b < 256) (h : firstN bs = some (n, k)) : I64 n ∧ numB n = bs.take k ∧ 1 ≤ k ∧ k ≤ bs.length := by
  unfold firstN at h
  split at h
  · cases h
  · rename_i x t
    split at h
    · rename_i hx
      simp at h
      obtain ⟨rfl, rfl⟩ := h
      refine ⟨by unfold I64; omega, ?_, Nat.le_refl _, by simp⟩
      unfold numB
      rw [if_pos ⟨by omega, by omega⟩]
      simp
    · split at h
      · cases h
      · rename_i hsz
        split at h
        · rename_i hu
          simp at h
          obtain ⟨rfl, rfl⟩ := h
          refine ⟨?_, hu.2, by omega, by simp; omega⟩
          have := hu.1
          unfold I64 numH
          split <;> omega
        · cases h

/-- A number's cell is told, with whatever stands behind. -/
theorem firstN_num (n : Int) (hn : I64 n) (rest : List Nat) : firstN (numB n ++ rest) = some (n, (numB n).length) := by
  obtain ⟨h1, h2⟩ := hn
  by_cases c0 : 0 ≤ n ∧ n < 128
  · have e : numB n = [n.toNat] := by unfold numB; rw [if_pos c0]
    rw [e]
    simp only [List.singleton_append, firstN]
    rw [if_pos (by omega)]
    simp
    omega
  · have key : ∀ (H u : Nat), u < 9223372036854775808 → (H = 128 ∧ 0 < u ∨ H = 144) → numB n = (H + (dig u).length) :: dig u → numH (H + (dig u).length) u = n → firstN (numB n ++ rest) = some (n, (numB n).length) := by
      intro H u hu hH e hnum
      have hd8 := dig_le u
      have hs : sizeH (H + (dig u).length) = (dig u).length := by
        unfold sizeH
        rcases hH with ⟨rfl, _⟩ | rfl
        · rw [if_neg (by omega)]; omega
        · rw [if_pos (by omega)]; omega
      have ht : (dig u ++ rest).take (dig u).length = dig u := by simp
      have hv : val (dig u) = u := val_dig u (by omega)
      have hlen : (numB n).length = 1 + (dig u).length := by rw [e]; simp; omega
      rw [hlen]
      have hge : ¬ (H + (dig u).length < 128) := by rcases hH with ⟨rfl, _⟩ | rfl <;> omega
      have e2 : numB n ++ rest = (H + (dig u).length) :: (dig u ++ rest) := by rw [e]; rfl
      have e3 : (numB n ++ rest).take (1 + (dig u).length) = numB n := by rw [← hlen]; simp
      rw [e2] at e3
      rw [e2]
      rw [firstN, if_neg hge, hs, if_neg (by simp; omega), ht, hv, hnum, if_pos ⟨hu, e3.symm⟩]
    by_cases c1 : 0 ≤ n
    · refine key 128 n.toNat (by omega) (.inl ⟨rfl, by omega⟩) (by unfold numB; rw [if_neg c0, if_pos c1]) ?_
      have := dig_le n.toNat
      unfold numH
      rw [if_neg (by omega)]
      omega
    · refine key 144 (-1 - n).toNat (by omega) (.inr rfl) (by unfold numB; rw [if_neg c0, if_neg c1]) ?_
      unfold numH
      rw [if_pos (by omega)]
      omega

end Go.Proofs.Ytpccbobomppdbaa

namespace Go.Proofs.Ytpccbobomppdbaa

/-- What a maker holds: its bytes, and whether there were too many. -/
def putS (s : List Nat × Bool) (c : List Nat) : List Nat × Bool :=
  if s.2 = true ∨ 262144 - (s.1.length : Int) < c.length then (s.1, true) else (s.1 ++ c, false)
theorem putS_long {s : List Nat × Bool} {c : List Nat} (h : s.2 = true) : putS s c = (s.1, true) := by unfold putS; rw [if_pos (.inl h)]
theorem putS_over {s : List Nat × Bool} {c : List Nat} (h : 262144 - (s.1.length : Int) < c.length) : putS s c = (s.1, true) := by unfold putS; rw [if_pos (.inr h)]
theorem putS_fits {s : List Nat × Bool} {c : List Nat} (h : s.2 = false) (h' : ¬ 262144 - (s.1.length : Int) < c.length) : putS s c = (s.1 ++ c, false) := by unfold putS; rw [if_neg]; simp [h]; omega
/-- The bytes of a text. -/
def natsOf (s : ByteArray) : List Nat := s.data.toList.map UInt8.toNat
theorem natsOf_lt (s : ByteArray) : ∀ b ∈ natsOf s, b < 256 := by
  intro b hb
  obtain ⟨x, _, rfl⟩ := List.mem_map.1 hb
  exact x.toNat_lt
theorem natsOf_length (s : ByteArray) : (natsOf s).length = s.size := by simp [natsOf]
/-- The cell of a text. -/
def textB (s : List Nat) : List Nat := numB s.length ++ s
def flagB (b : Bool) : List Nat := numB (if b then 1 else 0)

/-- Taking a number: what is told, and what is left. -/
def numT (s : List Nat × Bool) (least most : Int) : Int × (List Nat × Bool) :=
  if s.2 = true then (0, s) else match firstN s.1 with
    | some (n, k) => if n < least ∨ most < n then (0, (s.1, true)) else (n, (s.1.drop k, false))
    | none => (0, (s.1, true))
theorem numT_bad {s : List Nat × Bool} {a b : Int} (h : s.2 = true) : numT s a b = (0, s) := by unfold numT; rw [if_pos h]
theorem numT_none {s : List Nat × Bool} {a b : Int} (h : s.2 = false) (hf : firstN s.1 = none) : numT s a b = (0, (s.1, true)) := by unfold numT; rw [if_neg (by simp [h]), hf]
theorem numT_out {s : List Nat × Bool} {a b : Int} {n : Int} {k : Nat} (h : s.2 = false) (hf : firstN s.1 = some (n, k)) (ho : n < a ∨ b < n) : numT s a b = (0, (s.1, true)) := by
  unfold numT; rw [if_neg (by simp [h]), hf]; simp only; rw [if_pos ho]
theorem numT_in {s : List Nat × Bool} {a b : Int} {n : Int} {k : Nat} (h : s.2 = false) (hf : firstN s.1 = some (n, k)) (h1 : a ≤ n) (h2 : n ≤ b) : numT s a b = (n, (s.1.drop k, false)) := by
  unfold numT; rw [if_neg (by simp [h]), hf]; simp only; rw [if_neg (by omega)]
/-- Taking a text. -/
def textT (s : List Nat × Bool) (most : Int) : List Nat × (List Nat × Bool) :=
  let r := numT s 0 most
  if r.2.2 = true then ([], r.2) else if (r.2.1.length : Int) < r.1 then ([], (r.2.1, true)) else (r.2.1.take r.1.toNat, (r.2.1.drop r.1.toNat, false))
/-- Taking a flag. -/
def flagT (s : List Nat × Bool) : Bool × (List Nat × Bool) := ((numT s 0 1).1 == 1, (numT s 0 1).2)
/-- How many bytes are left. -/
def leftT (s : List Nat × Bool) : Int := if s.2 = true then 0 else s.1.length
/-- Whether all was taken. -/
def doneT (s : List Nat × Bool) : Int := if s.2 = true ∨ 0 < s.1.length then 10 else 0

/-- The reference's texts: no more than there are bytes. -/
def rtextT (s : List Nat × Bool) (most : Int) : List Nat × (List Nat × Bool) :=
  let r := numT s 0 (if (s.1.length : Int) < most then s.1.length else most)
  if r.2.2 = true ∨ (r.2.1.length : Int) < r.1 then ([], (r.2.1, true)) else (r.2.1.take r.1.toNat, (r.2.1.drop r.1.toNat, false))

/-- Two takers of which one can tell no difference: both at fault, or the same bytes left. -/
def SameT (s r : List Nat × Bool) : Prop := s.2 = r.2 ∧ (s.2 = false → s.1 = r.1)
theorem SameT.refl (s : List Nat × Bool) : SameT s s := ⟨rfl, fun _ => rfl⟩
theorem SameT.num {s r : List Nat × Bool} (h : SameT s r) (a b : Int) : (numT s a b).1 = (numT r a b).1 ∧ SameT (numT s a b).2 (numT r a b).2 := by
  obtain ⟨s1, s2⟩ := s
  obtain ⟨r1, r2⟩ := r
  obtain ⟨h1, h2⟩ := h
  simp only at h1 h2
  subst h1
  cases s2 with
  | true => rw [numT_bad rfl, numT_bad rfl]; exact ⟨rfl, rfl, fun h => by cases h⟩
  | false => rw [h2 rfl]; exact ⟨rfl, SameT.refl _⟩
theorem numT_lt {s : List Nat × Bool} (h : ∀ b ∈ s.1, b < 256) (a b : Int) : ∀ x ∈ (numT s a b).2.1, x < 256 := by
  unfold numT
  split
  · exact h
  · split
    · split
      · exact h
      · exact fun x hx => h x (List.mem_of_mem_drop hx)
    · exact h
theorem numT_le (s : List Nat × Bool) (a b : Int) : (numT s a b).2.1.length ≤ s.1.length := by
  unfold numT
  split
  · exact Nat.le_refl _
  · split
    · split
      · exact Nat.le_refl _
      · simp
    · exact Nat.le_refl _
/-- What a number taken is, where the taker is not at fault behind it. -/
theorem numT_good {s : List Nat × Bool} (hb : ∀ b ∈ s.1, b < 256) {a b : Int} (h : (numT s a b).2.2 = false) : s.2 = false ∧ ∃ k, firstN s.1 = some ((numT s a b).1, k) ∧ a ≤ (numT s a b).1 ∧ (numT s a b).1 ≤ b ∧ (numT s a b).2.1 = s.1.drop k ∧ 1 ≤ k ∧ k ≤ s.1.length ∧ I64 (numT s a b).1 := by
  cases hs : s.2 with
  | true => rw [numT_bad hs] at h; rw [hs] at h; cases h
  | false =>
    refine ⟨rfl, ?_⟩
    cases hf : firstN s.1 with
    | none => rw [numT_none hs hf] at h; cases h
    | some p =>
      obtain ⟨n, k⟩ := p
      by_cases ho : n < a ∨ b < n
      · rw [numT_out hs hf ho] at h; cases h
      · rw [numT_in hs hf (by omega) (by omega)]
        have := firstN_some hb hf
        exact ⟨k, rfl, by simp only; omega, by simp only; omega, rfl, this.2.2.1, this.2.2.2, this.1⟩
/-- A number taken lies within its bounds, or is 0. -/
theorem numT_range (s : List Nat × Bool) (a b : Int) : (numT s a b).1 = 0 ∨ (a ≤ (numT s a b).1 ∧ (numT s a b).1 ≤ b) := by
  unfold numT
  split
  · exact .inl rfl
  · split
    · split
      · exact .inl rfl
      · simp only; right; omega
    · exact .inl rfl
theorem SameT.text {s r : List Nat × Bool} (hb : ∀ b ∈ s.1, b < 256) (h : SameT s r) (most : Int) : (textT s most).1 = (rtextT r most).1 ∧ SameT (textT s most).2 (rtextT r most).2 := by
  obtain ⟨s1, s2⟩ := s
  obtain ⟨r1, r2⟩ := r
  obtain ⟨h1, h2⟩ := h
  simp only at h1 h2 hb
  subst h1
  cases s2 with
  | true => unfold textT rtextT; rw [numT_bad rfl, numT_bad rfl]; simp [SameT]
  | false =>
    obtain rfl := h2 rfl
    clear h2
    cases hf : firstN s1 with
    | none => unfold textT rtextT; rw [numT_none rfl hf, numT_none rfl hf]; simp [SameT]
    | some p =>
      obtain ⟨n, k⟩ := p
      obtain ⟨_, _, hk1, hk2⟩ := firstN_some hb hf
      have hdl : (s1.drop k).length = s1.length - k := by simp
      by_cases h0 : n < 0 ∨ most < n
      · unfold textT rtextT
        rw [numT_out rfl hf h0, numT_out rfl hf (by split <;> omega)]
        simp [SameT]
      · by_cases h3 : (s1.length : Int) < n
        · unfold textT rtextT
          rw [numT_in rfl hf (by omega) (by omega), numT_out rfl hf (by simp only; right; split <;> omega)]
          simp only
          rw [if_neg (by simp), if_pos (by omega)]
          simp [SameT]
        · have e : numT (s1, false) 0 (if (s1.length : Int) < most then s1.length else most) = (n, (s1.drop k, false)) := numT_in rfl hf (by omega) (by split <;> omega)
          unfold textT rtextT
          simp only
          rw [numT_in rfl hf (by omega) (by omega), e]
          simp only
          by_cases h4 : ((s1.drop k).length : Int) < n
          · rw [if_neg (by simp), if_pos h4, if_pos (.inr h4)]
            simp [SameT]
          · rw [if_neg (by simp), if_neg h4, if_neg (by simp; omega)]
            exact ⟨rfl, SameT.refl _⟩
theorem SameT.left {s r : List Nat × Bool} (h : SameT s r) : leftT s = leftT r := by
  obtain ⟨s1, s2⟩ := s
  obtain ⟨r1, r2⟩ := r
  obtain ⟨h1, h2⟩ := h
  simp only at h1 h2
  subst h1
  cases s2 with
  | true => simp [leftT]
  | false => rw [h2 rfl]
theorem textT_lt {s : List Nat × Bool} (h : ∀ b ∈ s.1, b < 256) (most : Int) : (∀ x ∈ (textT s most).1, x < 256) ∧ ∀ x ∈ (textT s most).2.1, x < 256 := by
  have h1 := numT_lt h 0 most
  unfold textT
  generalize numT s 0 most = r at h1
  simp only
  split
  · exact ⟨by simp, h1⟩
  · split
    · exact ⟨by simp, h1⟩
    · exact ⟨fun x hx => h1 x (List.mem_of_mem_take hx), fun x hx => h1 x (List.mem_of_mem_drop hx)⟩
theorem rtextT_lt {s : List Nat × Bool} (h : ∀ b ∈ s.1, b < 256) (most : Int) : (∀ x ∈ (rtextT s most).1, x < 256) ∧ ∀ x ∈ (rtextT s most).2.1, x < 256 := by
  have h1 := numT_lt h 0 (if (s.1.length : Int) < most then s.1.length else most)
  unfold rtextT
  generalize numT s 0 (if (s.1.length : Int) < most then s.1.length else most) = r at h1
  simp only
  split
  · exact ⟨by simp, h1⟩
  · exact ⟨fun x hx => h1 x (List.mem_of_mem_take hx), fun x hx => h1 x (List.mem_of_mem_drop hx)⟩

/-- What was put as a number's cell is taken. -/
theorem numT_put (n : Int) (hn : I64 n) (rest : List Nat) {a b : Int} (h1 : a ≤ n) (h2 : n ≤ b) : numT (numB n ++ rest, false) a b = (n, (rest, false)) := by
  rw [numT_in rfl (firstN_num n hn rest) h1 h2]
  simp
theorem textT_put (s rest : List Nat) {most : Int} (h1 : (s.length : Int) ≤ most) (h2 : s.length ≤ 9223372036854775807) : textT (textB s ++ rest, false) most = (s, (rest, false)) := by
  unfold textT textB
  rw [List.append_assoc, numT_put _ ⟨by omega, by omega⟩ _ (by omega) h1]
  simp only
  rw [if_neg (by simp), if_neg (by simp; omega)]
  simp
theorem flagT_put (b : Bool) (rest : List Nat) : flagT (flagB b ++ rest, false) = (b, (rest, false)) := by
  unfold flagT flagB
  rw [numT_put _ (by unfold I64; split <;> omega) _ (by split <;> omega) (by split <;> omega)]
  cases b <;> rfl
end Go.Proofs.Ytpccbobomppdbaa

namespace Go.Proofs.Ytpccbobomppdbaa
open Go.RowKit

/-- From w to w': below B nothing has turned; from B on only blocks of an element type in T, or of a number in S, may have turned; the streams are as they were. -/
structure Fr (B : Nat) (T : List TypeId) (S : List Nat) (w w' : World) : Prop where
  os : w'.os = w.os
  tape : w'.tape = w.tape
  output : w'.output = w.output
  size : w.heap.size ≤ w'.heap.size
  block : ∀ k, k < w.heap.size → (k < B ∨ ((∀ cs t f, w.heap[k]? = some (.cells cs t f) → t ∉ T) ∧ k ∉ S)) → w'.heap[k]? = w.heap[k]?

section
variable {B B' : Nat} {T T' : List TypeId} {S S' : List Nat} {a b c w w' : World}
theorem Fr.refl (w : World) : Fr B T S w w := ⟨rfl, rfl, rfl, Nat.le_refl _, fun _ _ _ => rfl⟩
theorem Fr.trans (h : Fr B T S a b) (k : Fr B T S b c) : Fr B T S a c :=
  ⟨k.os.trans h.os, k.tape.trans h.tape, k.output.trans h.output, Nat.le_trans h.size k.size, fun i hi hc => by
    have e := h.block i hi hc
    rw [← e]
    refine k.block i (Nat.lt_of_lt_of_le hi h.size) ?_
    rcases hc with hc | ⟨h1, h2⟩
    · exact .inl hc
    · exact .inr ⟨fun cs t f he => h1 cs t f (by rw [← e]; exact he), h2⟩⟩
theorem Fr.mono (h : Fr B T S a b) (hB : B' ≤ B) (hT : ∀ t ∈ T, t ∈ T') (hS : ∀ k ∈ S, k ∈ S') : Fr B' T' S' a b :=
  ⟨h.os, h.tape, h.output, h.size, fun i hi hc => h.block i hi (by
    rcases hc with hc | ⟨h1, h2⟩
    · exact .inl (by omega)
    · exact .inr ⟨fun cs t f he ht => h1 cs t f he (hT t ht), fun hs => h2 (hS i hs)⟩)⟩
theorem Fr.base (h : Fr B T S a b) (hB : B' ≤ B) : Fr B' T S a b := h.mono hB (fun _ h => h) (fun _ h => h)
/-- Nothing that was there has turned: that serves every frame. -/
theorem Fr.of_below (h : Below a.heap.size a b) : Fr B T S a b := ⟨h.os, h.tape, h.output, h.size, fun i hi _ => h.block i hi⟩
theorem Fr.below (h : Fr B T S a b) (hB : B ≤ a.heap.size) : Below B a b := ⟨h.os, h.tape, h.output, h.size, fun k hk => h.block k (by omega) (.inl hk)⟩
theorem Fr.below' (h : Fr B [] [] a b) : Below a.heap.size a b := ⟨h.os, h.tape, h.output, h.size, fun k hk => h.block k hk (.inr ⟨fun _ _ _ _ => by simp, by simp⟩)⟩
theorem Fr.drew (h : Fr B T S a w) : Fr B T S a w.drew := ⟨h.os, h.tape, h.output, h.size, h.block⟩
theorem Fr.drewN (h : Fr B T S a w) (n : Nat) : Fr B T S a (w.drewN n) := ⟨h.os, h.tape, h.output, h.size, h.block⟩
theorem Fr.alloc (h : Fr B T S a w) (o : Obj) : Fr B T S a (w.alloc o) :=
  h.trans (Fr.of_below ((Below.refl _ w).alloc (Nat.le_refl _) o))
/-- A store into a block that is not older than B and whose type is in T, or that is in S. -/
theorem Fr.setCell (h : Fr B T S a w) {p : Addr} (u : Value) (hB : B ≤ p.block) (ht : p.block ∈ S ∨ ∃ cs t f, w.heap[p.block]? = some (.cells cs t f) ∧ t ∈ T) : Fr B T S a (w.setCell p u) := by
  refine h.trans ⟨rfl, rfl, rfl, by simp [World.setCell], fun k hk hc => ?_⟩
  refine Below.heap_setCell w p u k ?_
  rintro rfl
  rcases hc with hc | ⟨h1, h2⟩
  · omega
  · rcases ht with ht | ⟨cs, t, f, he, ht⟩
    · exact h2 ht
    · exact h1 cs t f he ht
/-- A store into a block that has come since. -/
theorem Fr.setNew (h : Fr B T S a w) {p : Addr} (u : Value) (hB : a.heap.size ≤ p.block) : Fr B T S a (w.setCell p u) :=
  ⟨h.os, h.tape, h.output, by simpa [World.setCell] using h.size, fun k hk hc => (Below.heap_setCell w p u k (by omega)).trans (h.block k hk hc)⟩
theorem Fr.grown (h : Fr B T S a w) {row : Option Nat} (hg : w.grownBy w' row) (hr : ∀ k, row = some k → B ≤ k ∧ (k ∈ S ∨ ∃ cs t f, w.heap[k]? = some (.cells cs t f) ∧ t ∈ T)) : Fr B T S a w' := by
  refine h.trans ⟨hg.os, hg.tape, hg.output, hg.size, fun k hk hc => hg.block k hk ?_⟩
  intro e
  obtain ⟨hB, ht⟩ := hr k e.symm
  rcases hc with hc | ⟨h1, h2⟩
  · omega
  · rcases ht with ht | ⟨cs, t, f, he, ht⟩
    · exact h2 ht
    · exact h1 cs t f he ht
/-- Behind a contract that leaves all that was there as it was. -/
theorem Fr.then (h : Fr B T S a w) (hb : Below w.heap.size w w') : Fr B T S a w' := h.trans (Fr.of_below hb)
/-- A block that may not have turned holds what it held. -/
theorem Fr.keep (h : Fr B T S w w') {k : Nat} {cs : Array Value} {t : TypeId} {f : Nat × Nat} (hk : w.heap[k]? = some (.cells cs t f)) (ht : t ∉ T) (hs : k ∉ S) : w'.heap[k]? = some (.cells cs t f) :=
  (h.block k (Array.getElem?_eq_some_iff.1 hk).1 (.inr ⟨fun cs' t' f' he => by rw [hk] at he; injection he with he; injection he with _ h2 _; subst h2; exact ht, hs⟩)).trans hk
theorem Fr.keepLow (h : Fr B T S w w') {k : Nat} {o : Obj} (hk : w.heap[k]? = some o) (hB : k < B) : w'.heap[k]? = some o :=
  (h.block k (Array.getElem?_eq_some_iff.1 hk).1 (.inl hB)).trans hk
theorem Fr.own (h : Fr B T S w w') {base : Nat} {e : TypeId} {size n : Nat} {v : Value} {xs : List Value} (ho : w.ownsRow base e size v n xs) (ht : e ∉ T) (hs : ∀ k, v.ownBlock = some k → k ∉ S) : w'.ownsRow base e size v n xs := by
  refine ⟨ho.1, ?_⟩
  rcases ho.2 with hn | ⟨g, cap, cur, rfl, hb, hg, rest⟩
  · exact .inl hn
  · exact .inr ⟨g, cap, cur, rfl, hb, h.keep hg ht (hs g rfl), rest⟩
end

theorem ret_int {k : IntKind} {a b : Int} (h : a = b) : Ending.returned (.int k a) = .returned (.int k b) := by rw [h]
theorem ret_bool {a b : Bool} (h : a = b) : Ending.returned (.bool a) = .returned (.bool b) := by rw [h]

/-- The cells of a block. -/
theorem cell_at {w : World} {k : Nat} {cs : Array Value} {t : TypeId} {f : Nat × Nat} (h : w.heap[k]? = some (.cells cs t f)) (i : Nat) : w.cell? ⟨k, i, none⟩ = cs[i]? := cell_of_row w k i cs t f h
theorem frozen_at {w : World} {k : Nat} {cs : Array Value} {t : TypeId} (h : w.heap[k]? = some (.cells cs t (0, 0))) (i : Nat) : w.frozen? ⟨k, i, none⟩ = false := by simp [World.frozen?, h]
theorem lt_of_block {w : World} {k : Nat} {o : Obj} (h : w.heap[k]? = some o) : k < w.heap.size := (Array.getElem?_eq_some_iff.1 h).1
theorem block_set {w : World} {k : Nat} {cs : Array Value} {t : TypeId} {f : Nat × Nat} (h : w.heap[k]? = some (.cells cs t f)) (i : Nat) (u : Value) :
    (w.setCell ⟨k, i, none⟩ u).heap[k]? = some (.cells (cs.setIfInBounds i u) t f) := by
  simp [World.setCell, Array.getElem?_modify, h]
theorem block_far {w : World} {k : Nat} {o : Obj} (h : w.heap[k]? = some o) {p : Addr} (hp : k ≠ p.block) (u : Value) : (w.setCell p u).heap[k]? = some o := (Below.heap_setCell w p u k hp).trans h
theorem block_alloc {w : World} {k : Nat} {o : Obj} (h : w.heap[k]? = some o) (o' : Obj) : (w.alloc o').heap[k]? = some o := (Below.heap_alloc w o' k (lt_of_block h)).trans h
theorem block_new (w : World) (o : Obj) : (w.alloc o).heap[w.heap.size]? = some o := heap_alloc_new w o
theorem block_ne {w : World} {k k' : Nat} {cs cs' : Array Value} {t t' : TypeId} {f f' : Nat × Nat} (h : w.heap[k]? = some (.cells cs t f)) (h' : w.heap[k']? = some (.cells cs' t' f')) (ht : t ≠ t') : k ≠ k' := by
  rintro rfl
  rw [h] at h'
  injection h' with h'
  injection h' with _ h2 _
  exact ht h2
theorem own_block {w : World} {base : Nat} {e : TypeId} {size n : Nat} {v : Value} {xs : List Value} (h : w.ownsRow base e size v n xs) {k : Nat} (hk : v.ownBlock = some k) : base ≤ k ∧ ∃ cs, w.heap[k]? = some (.cells cs e (0, 0)) := by
  rcases h.2 with ⟨rfl, _⟩ | ⟨g, cap, cur, rfl, hb, hg, _⟩
  · simp [Value.ownBlock] at hk
  · simp [Value.ownBlock] at hk
    subst hk
    exact ⟨hb, cur, hg⟩
theorem own_ne {w : World} {base : Nat} {e : TypeId} {size n : Nat} {v : Value} {xs : List Value} (h : w.ownsRow base e size v n xs) {k : Nat} {cs : Array Value} {t : TypeId} {f : Nat × Nat} (hk : w.heap[k]? = some (.cells cs t f)) (ht : e ≠ t) : v.ownBlock ≠ some k := by
  intro hv
  obtain ⟨_, cs', hg⟩ := own_block h hv
  exact block_ne hg hk ht rfl

theorem own_set {w : World} {base : Nat} {e : TypeId} {size n c g : Nat} {xs : List Value} (h : w.ownsRow base e size (.slice (some ⟨g, 0, none⟩) n c) n xs) {i : Nat} (_hi : i < n * size) (u : Value) :
    (w.setCell ⟨g, i, none⟩ u).ownsRow base e size (.slice (some ⟨g, 0, none⟩) n c) n (xs.set i u) := by
  obtain ⟨hl, h | ⟨g', cap, cur, hv, hb, hg, hnc, hcm, hcs, htake⟩⟩ := h
  · cases h.1
  · cases hv
    refine ⟨by simpa using hl, .inr ⟨g, c, _, rfl, hb, block_set hg i u, hnc, hcm, by simpa using hcs, ?_⟩⟩
    rw [Array.toList_setIfInBounds, List.take_set, htake]
theorem own_succ {w : World} {base : Nat} {e : TypeId} {size n : Nat} {v : Value} {xs : List Value} (h : w.ownsRow base e size v (n + 1) xs) : ∃ g c, v = .slice (some ⟨g, 0, none⟩) (n + 1) c := by
  rcases h.2 with ⟨_, h0⟩ | ⟨g, cap, cur, rfl, _⟩
  · omega
  · exact ⟨g, cap, rfl⟩

/-- A slice value of n elements of 'size' cells each whose cells read as xs; the empty one may be nil. -/
def Rd (w : World) (size : Nat) (A : Option Addr) (n : Nat) (xs : List Value) : Prop :=
  xs.length = n * size ∧ (0 < n → ∃ g o, A = some ⟨g, o, none⟩ ∧ g < w.heap.size ∧ ∀ j u, xs[j]? = some u → w.cell? ⟨g, o + j, none⟩ = some u)
theorem Rd.nil {w : World} {size : Nat} {A : Option Addr} : Rd w size A 0 [] := ⟨by simp, fun h => absurd h (by omega)⟩
theorem Rd.below {w w' : World} {size n : Nat} {A : Option Addr} {xs : List Value} (h : Rd w size A n xs) (hb : Below w.heap.size w w') : Rd w' size A n xs :=
  ⟨h.1, fun hn => by
    obtain ⟨g, o, e, hg, hc⟩ := h.2 hn
    exact ⟨g, o, e, Nat.lt_of_lt_of_le hg hb.size, fun j u hu => (hb.cell (p := ⟨g, o + j, none⟩) hg).trans (hc j u hu)⟩⟩
theorem own_slice {w : World} {base : Nat} {e : TypeId} {size n : Nat} {v : Value} {xs : List Value} (h : w.ownsRow base e size v n xs) :
    ∃ A c, v = .slice A n c ∧ n ≤ c ∧ c ≤ maxLen ∧ Rd w size A n xs ∧ (∀ a, A = some a → v.ownBlock = some a.block ∧ a.off = 0 ∧ a.spot = none) := by
  rcases h.2 with ⟨rfl, rfl⟩ | ⟨g, cap, cur, rfl, hb, hg, hnc, hcm, hcs, htake⟩
  · refine ⟨none, 0, rfl, Nat.le_refl _, Nat.zero_le _, ⟨by simpa using h.1, fun hn => absurd hn (by omega)⟩, fun a ha => by cases ha⟩
  · refine ⟨some ⟨g, 0, none⟩, cap, rfl, hnc, hcm, ⟨h.1, fun _ => ⟨g, 0, rfl, lt_of_block hg, fun j u hu => ?_⟩⟩, fun a ha => by cases ha; exact ⟨rfl, rfl, rfl⟩⟩
    rw [cell_at hg, Nat.zero_add]
    rw [← htake, List.getElem?_take] at hu
    split at hu
    · simpa using hu
    · cases hu

end Go.Proofs.Ytpccbobomppdbaa
