/- Div64, plain: what the divisor is brought up by, Knuth's digits, all values of its walk. -/
import Derived.Test.YtochhjdjfgiaeaaNCmp
import Derived.Lib.BitFns
import Derived.Laws.Shifts
import Derived.Laws.BitsAllLaws
namespace Go.Proofs.Ytochhjdjfgiaeaa
theorem bitLen_bd : ∀ (x : Nat), 0 < x → x < 2 ^ 64 → x < 2 ^ Lib.bitLen x ∧ 2 ^ Lib.bitLen x ≤ 2 * x := by
  intro x
  induction x using Nat.strongRecOn with
  | _ x ih =>
    intro h0 hx
    rw [Lib.bitLen_half x (by omega) hx, Nat.add_comm, Nat.pow_succ]
    by_cases h1 : x = 1
    · subst h1
      decide
    · have := ih (x / 2) (by omega) (by omega) (by omega)
      omega
theorem bitLen_le64 (x : Nat) (h0 : 0 < x) (hx : x < 2 ^ 64) : Lib.bitLen x ≤ 64 := by
  have := (bitLen_bd x h0 hx).2
  rcases Nat.lt_or_ge 64 (Lib.bitLen x) with h | h
  · have h2 : 2 ^ 65 ≤ 2 ^ Lib.bitLen x := Nat.pow_le_pow_right (by decide) h
    omega
  · exact h
/-- What the divisor is brought up by. -/
theorem div_up {S : Nat} (h0 : 0 < S) (hS : S < 18446744073709551616) : ∃ s p p' : Nat, Lib.bitLen S = 64 - s ∧ s ≤ 63 ∧ 2 ^ s = p ∧ 2 ^ (64 - s) = p' ∧ 0 < p ∧ p * p' = 18446744073709551616 ∧ S * p < 18446744073709551616 ∧ 9223372036854775808 ≤ S * p := by
  have hb := bitLen_bd S h0 hS
  have hl := bitLen_le64 S h0 hS
  have hl0 : 0 < Lib.bitLen S := by
    rcases Nat.eq_zero_or_pos (Lib.bitLen S) with h | h
    · rw [h] at hb; omega
    · exact h
  obtain ⟨L, hL⟩ : ∃ L, Lib.bitLen S = L := ⟨_, rfl⟩
  rw [hL] at hb hl hl0 ⊢
  have hp : 2 ^ (64 - L) * 2 ^ L = 18446744073709551616 := by
    rw [← Nat.pow_add, show 64 - L + L = 64 by omega]
  have hpp : 0 < 2 ^ (64 - L) := Nat.pow_pos (by decide)
  refine ⟨64 - L, 2 ^ (64 - L), 2 ^ L, by omega, by omega, rfl, by rw [show 64 - (64 - L) = L by omega], hpp, hp, ?_, ?_⟩
  · have := Nat.mul_lt_mul_of_pos_right hb.1 hpp
    rw [Nat.mul_comm (2 ^ L)] at this
    omega
  · have := Nat.mul_le_mul_right (2 ^ (64 - L)) hb.2
    rw [Nat.mul_comm (2 ^ L), Nat.mul_assoc] at this
    omega
/-- Two words, one behind the other, where their bits don't meet. -/
theorem or_up {s p a b : Nat} (hp : 2 ^ s = p) (hb : b < p) (hab : a * p + b < 18446744073709551616) : bits .or .u64 ((a * p : Nat) : Int) (b : Int) = ((a * p + b : Nat) : Int) := by
  have hpp : p ≤ p * (a + 1) := Nat.le_mul_of_pos_right p (by omega)
  rw [u64_or_nat _ _ (by omega) (by omega)]
  congr 1
  subst hp
  rw [Nat.mul_comm a]
  exact (Nat.two_pow_add_eq_or_of_lt hb a).symm
theorem shl_up {s p x : Nat} (hs : s ≤ 64) (hp : 2 ^ s = p) (k : IntKind) : Op.shift .shl .u64 (x : Int) k (s : Int) = pure (.int .u64 ((x * p % 18446744073709551616 : Nat) : Int)) := by
  rw [shift_shl .u64 k (x : Int) (s : Int) (by omega) (by show (s : Int) ≤ 64; omega), Int.toNat_natCast, ← hp, IntKind.wrap_u64]
  congr 2
theorem shr_up {s p x : Nat} (hs : s ≤ 64) (hp : 2 ^ s = p) (k : IntKind) : Op.shift .shr .u64 (x : Int) k (s : Int) = pure (.int .u64 ((x / p : Nat) : Int)) := by
  rw [shift_shr .u64 k (x : Int) (s : Int) (by omega) (by show (s : Int) ≤ 64; omega), Int.toNat_natCast, ← hp]
  congr 2
namespace KnuthP
/-- The guess is no less than the digit. -/
theorem first {B Y y1 y0 u d : Nat} (hY : Y = y1 * B + y0) (hy : 0 < y1) (hd : d < B) : (u * B + d) / Y ≤ u / y1 := by
  rw [Nat.le_div_iff_mul_le hy]
  have h : (u * B + d) / Y * Y ≤ u * B + d := Nat.div_mul_le_self _ _
  subst hY
  generalize (u * B + d) / (y1 * B + y0) = q at h ⊢
  rw [Nat.mul_add, ← Nat.mul_assoc] at h
  rcases Nat.lt_or_ge u (q * y1) with h' | h'
  · have h2 : (u + 1) * B ≤ q * y1 * B := Nat.mul_le_mul_right B h'
    rw [Nat.succ_mul] at h2
    omega
  · exact h'
/-- The guess stands: it is no more than the digit. -/
theorem stop {B Y y1 y0 u d q r : Nat} (hY : Y = y1 * B + y0) (hy : 0 < Y) (hqr : q * y1 + r = u) (h : q * y0 ≤ B * r + d) : q ≤ (u * B + d) / Y := by
  rw [Nat.le_div_iff_mul_le hy, hY, ← hqr, Nat.mul_add, Nat.add_mul, ← Nat.mul_assoc, Nat.mul_comm r B]
  omega
/-- The guess falls: it is more than the digit. -/
theorem more {B Y y1 y0 u d q r : Nat} (hY : Y = y1 * B + y0) (hy : 0 < Y) (hqr : q * y1 + r = u) (h : B * r + d < q * y0) : (u * B + d) / Y < q := by
  rw [Nat.div_lt_iff_lt_mul hy, hY, ← hqr, Nat.mul_add, Nat.add_mul, ← Nat.mul_assoc, Nat.mul_comm r B]
  omega
theorem small {B Y u d : Nat} (hu : u < Y) (hd : d < B) : (u * B + d) / Y < B := by
  rw [Nat.div_lt_iff_lt_mul (by omega)]
  have h := Nat.mul_le_mul_right B hu
  rw [Nat.succ_mul, Nat.mul_comm Y B] at h
  omega
/-- Two digits are the quotient; what is left, brought back, is the rest. -/
theorem both {B X S p u d1 d0 : Nat} (hp : 0 < p) (hS : 0 < S) (hX : X * p = (u * B + d1) * B + d0) :
    (u * B + d1) / (S * p) * B + ((u * B + d1) % (S * p) * B + d0) / (S * p) = X / S ∧ ((u * B + d1) % (S * p) * B + d0) % (S * p) / p = X % S := by
  have hY : 0 < S * p := Nat.mul_pos hS hp
  have e1 : X * p / (S * p) = X / S := Nat.mul_div_mul_right X S hp
  have e2 : X * p % (S * p) = X % S * p := Nat.mul_mod_mul_right p X S
  have e3 : X * p = S * p * ((u * B + d1) / (S * p) * B) + ((u * B + d1) % (S * p) * B + d0) := by
    rw [hX]
    have := Nat.div_add_mod (u * B + d1) (S * p)
    generalize (u * B + d1) / (S * p) = q at *
    generalize (u * B + d1) % (S * p) = r at *
    rw [← this, Nat.add_mul, Nat.mul_assoc, Nat.add_assoc]
  rw [e3] at e1 e2
  rw [Nat.mul_add_div hY] at e1
  rw [Nat.mul_add_mod] at e2
  exact ⟨e1, by rw [e2]; exact Nat.mul_div_cancel _ hp⟩
/-- The two words of the dividend, brought up by t (p = 2^t, p * p' = W). -/
theorem brought {W p p' hi lo : Nat} (hW : p * p' = W) (hp : 0 < p) : (hi * W + lo) * p = (hi * p + lo / p') * W + lo * p % W := by
  have e : lo / p' = lo * p / W := by rw [← hW, Nat.mul_comm lo p]; exact (Nat.mul_div_mul_left lo p' hp).symm
  have := Nat.div_add_mod (lo * p) W
  rw [e, Nat.add_mul, Nat.add_mul, Nat.mul_right_comm, Nat.add_assoc, Nat.mul_comm (lo * p / W) W, this]
/-- What the words of the dividend are below. -/
theorem brought_lt {S p p' hi lo : Nat} (hi' : hi < S) (hlo : lo < p * p') : hi * p + lo / p' < S * p := by
  have h1 : lo / p' < p := by
    rcases Nat.eq_zero_or_pos p' with h | h
    · subst h; omega
    · exact (Nat.div_lt_iff_lt_mul h).2 hlo
  have h2 : (hi + 1) * p ≤ S * p := Nat.mul_le_mul_right p hi'
  rw [Nat.succ_mul] at h2
  omega
end KnuthP
namespace KnuthP
/-- The state of a digit's guess: it is no less than the digit; a round takes one off. -/
structure Gs (Y y1 u d Q q r : Nat) : Prop where
  eq : q * y1 + r = u
  ge : Q ≤ q
  lt : r < 4294967296
  le : q ≤ 4294967297
theorem Gs.start {Y y1 y0 u d : Nat} (hY : Y = y1 * 4294967296 + y0) (hy : 2147483648 ≤ y1) (hy1 : y1 < 4294967296) (hy0 : y0 < 4294967296) (hu : u < Y) (hd : d < 4294967296) : Gs Y y1 u d ((u * 4294967296 + d) / Y) (u / y1) (u % y1) := by
  refine ⟨by rw [Nat.mul_comm]; exact Nat.div_add_mod u y1, first hY (by omega) hd, Nat.lt_trans (Nat.mod_lt _ (by omega)) hy1, ?_⟩
  rcases Nat.lt_or_ge 4294967297 (u / y1) with h | h
  · have h2 : 4294967298 * y1 ≤ u := Nat.le_trans (Nat.mul_le_mul_right y1 h) (Nat.div_mul_le_self u y1)
    omega
  · exact h
/-- The test fails: the guess is the digit. -/
theorem Gs.stop {Y y1 y0 u d q r : Nat} (hY : Y = y1 * 4294967296 + y0) (hy : 0 < Y) (h : Gs Y y1 u d ((u * 4294967296 + d) / Y) q r) (ht : q * y0 ≤ 4294967296 * r + d) : q = (u * 4294967296 + d) / Y :=
  Nat.le_antisymm (KnuthP.stop hY hy h.eq ht) h.ge
/-- The test holds: the guess is too great. -/
theorem Gs.gt {Y y1 y0 u d q r : Nat} (hY : Y = y1 * 4294967296 + y0) (hy : 0 < Y) (hu : u < Y) (hd : d < 4294967296) (h : Gs Y y1 u d ((u * 4294967296 + d) / Y) q r) (ht : 4294967296 ≤ q ∨ 4294967296 * r + d < q * y0) : (u * 4294967296 + d) / Y < q := by
  rcases ht with ht | ht
  · exact Nat.lt_of_lt_of_le (small hu hd) ht
  · exact KnuthP.more hY hy h.eq ht
theorem Gs.dec {y1 u q r : Nat} (h : q * y1 + r = u) (h0 : 0 < q) : (q - 1) * y1 + (r + y1) = u := by
  obtain ⟨m, rfl⟩ : ∃ m, q = m + 1 := ⟨q - 1, by omega⟩
  rw [Nat.add_sub_cancel, ← h, Nat.succ_mul]
  omega
theorem Gs.next {Y y1 y0 u d q r : Nat} (hY : Y = y1 * 4294967296 + y0) (hy : 0 < Y) (hu : u < Y) (hd : d < 4294967296) (h : Gs Y y1 u d ((u * 4294967296 + d) / Y) q r) (ht : 4294967296 ≤ q ∨ 4294967296 * r + d < q * y0) (hr : r + y1 < 4294967296) : Gs Y y1 u d ((u * 4294967296 + d) / Y) (q - 1) (r + y1) := by
  have hg := h.gt hY hy hu hd ht
  have h0 : 0 < q := Nat.lt_of_le_of_lt (Nat.zero_le _) hg
  have := h.le
  exact ⟨Gs.dec h.eq h0, Nat.le_sub_one_of_lt hg, hr, by omega⟩
theorem Gs.fin {Y y1 y0 u d q r : Nat} (hY : Y = y1 * 4294967296 + y0) (hy : 0 < Y) (hy0 : y0 < 4294967296) (hu : u < Y) (hd : d < 4294967296) (h : Gs Y y1 u d ((u * 4294967296 + d) / Y) q r) (ht : 4294967296 ≤ q ∨ 4294967296 * r + d < q * y0) (hr : 4294967296 ≤ r + y1) : q - 1 = (u * 4294967296 + d) / Y := by
  have hg := h.gt hY hy hu hd ht
  have hle := h.le
  have h0 : 0 < q := Nat.lt_of_le_of_lt (Nat.zero_le _) hg
  refine Nat.le_antisymm (KnuthP.stop hY hy (Gs.dec h.eq h0) ?_) (Nat.le_sub_one_of_lt hg)
  have h1 : (q - 1) * y0 ≤ 4294967296 * y0 := Nat.mul_le_mul_right y0 (by omega)
  omega
/-- What the walk multiplies stays a word. -/
theorem Gs.word {y0 q : Nat} (hq : q < 4294967296) (hy0 : y0 < 4294967296) : q * y0 < 18446744073709551616 := by
  have h1 : q * y0 ≤ 4294967295 * y0 := Nat.mul_le_mul_right y0 (by omega)
  omega
end KnuthP
namespace KnuthP
structure Dv (hi lo S s p p' y1 y0 u d1 d0 : Nat) : Prop where
  len : Lib.bitLen S = 64 - s
  s63 : s ≤ 63
  pow : 2 ^ s = p
  pow' : 2 ^ (64 - s) = p'
  p0 : 0 < p
  word : S * p < 18446744073709551616
  cut1 : S * p / 4294967296 = y1
  cut0 : S * p % 4294967296 = y0
  cut : S * p = y1 * 4294967296 + y0
  y1l : 2147483648 ≤ y1
  y1g : y1 < 4294967296
  y0g : y0 < 4294967296
  hiw : hi * p < 18446744073709551616
  low : lo / p' < p
  up : hi * p + lo / p' = u
  ug : u < S * p
  c1 : lo * p % 18446744073709551616 / 4294967296 = d1
  c0 : lo * p % 18446744073709551616 % 4294967296 = d0
  d1g : d1 < 4294967296
  d0g : d0 < 4294967296
  quo : (u * 4294967296 + d1) / (S * p) * 4294967296 + ((u * 4294967296 + d1) % (S * p) * 4294967296 + d0) / (S * p) = (hi * 18446744073709551616 + lo) / S
  rem : ((u * 4294967296 + d1) % (S * p) * 4294967296 + d0) % (S * p) / p = (hi * 18446744073709551616 + lo) % S
theorem dv {hi lo S : Nat} (h : hi < S) (hlo : lo < 18446744073709551616) (hS : S < 18446744073709551616) : ∃ s p p' y1 y0 u d1 d0 : Nat, Dv hi lo S s p p' y1 y0 u d1 d0 := by
  obtain ⟨s, p, p', h1, h2, h3, h4, h5, h6, h7, h8⟩ := div_up (S := S) (by omega) hS
  have hlt := brought_lt (p := p) (p' := p') (lo := lo) h (by rw [h6]; exact hlo)
  have hb := brought (hi := hi) (lo := lo) h6 h5
  have hlow : lo / p' < p := by
    have : 0 < p' := by rw [← h4]; exact Nat.pow_pos (by decide)
    exact (Nat.div_lt_iff_lt_mul this).2 (by rw [h6]; exact hlo)
  have hm : lo * p % 18446744073709551616 < 18446744073709551616 := Nat.mod_lt _ (by decide)
  obtain ⟨d, hd⟩ : ∃ d, lo * p % 18446744073709551616 = d := ⟨_, rfl⟩
  obtain ⟨u, hu⟩ : ∃ u, hi * p + lo / p' = u := ⟨_, rfl⟩
  obtain ⟨y, hy⟩ : ∃ y, S * p = y := ⟨_, rfl⟩
  obtain ⟨d1, hd1⟩ : ∃ d1, d / 4294967296 = d1 := ⟨_, rfl⟩
  obtain ⟨d0, hd0⟩ : ∃ d0, d % 4294967296 = d0 := ⟨_, rfl⟩
  rw [hd] at hb hm
  rw [hu] at hb hlt
  have hdd : d = d1 * 4294967296 + d0 := by omega
  have hX : (hi * 18446744073709551616 + lo) * p = (u * 4294967296 + d1) * 4294967296 + d0 := by
    refine hb.trans ?_
    omega
  have hbo := both (B := 4294967296) (X := hi * 18446744073709551616 + lo) (S := S) (p := p) (u := u) (d1 := d1) (d0 := d0) h5 (by omega) hX
  exact ⟨s, p, p', S * p / 4294967296, S * p % 4294967296, u, d1, d0, {
    len := h1, s63 := h2, pow := h3, pow' := h4, p0 := h5, word := h7, cut1 := rfl, cut0 := rfl
    cut := by omega
    y1l := by omega
    y1g := by omega
    y0g := by omega
    hiw := Nat.lt_of_le_of_lt (Nat.le_add_right (hi * p) (lo / p')) (by rw [hu]; omega)
    low := hlow
    up := hu
    ug := hlt
    c1 := by rw [hd]; exact hd1
    c0 := by rw [hd]; exact hd0
    d1g := by omega
    d0g := by omega
    quo := hbo.1
    rem := hbo.2 }⟩
end KnuthP
end Go.Proofs.Ytochhjdjfgiaeaa
