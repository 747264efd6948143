/- Package crc, by definition: steps, sums and what makes them differ. No program is named here. -/
import Derived.WalkKit
namespace Go.Proofs.Ytchdfdimaopdeaa

/-- One bit's step. -/
def crcL (x : Nat) : Nat := x / 2 ^^^ (if x % 2 = 1 then 2197175160 else 0)
def crcK : Nat → Nat → Nat
  | 0, x => x
  | k + 1, x => crcK k (crcL x)
def stepN (s b : Nat) : Nat := crcK 8 (s ^^^ b)
def runN (s : Nat) (bs : List Nat) : Nat := bs.foldl stepN s
def flipN (s : Nat) : Nat := 4294967295 - s
def onN (s : Nat) (bs : List Nat) : Nat := flipN (runN (flipN s) bs)

theorem crcL_lt {x : Nat} (h : x < 4294967296) : crcL x < 4294967296 := by
  unfold crcL
  have : (4294967296 : Nat) = 2 ^ 32 := rfl
  rw [this]
  refine Nat.xor_lt_two_pow ?_ ?_
  · omega
  · split <;> omega
theorem crcK_lt : ∀ (k : Nat) {x : Nat}, x < 4294967296 → crcK k x < 4294967296
  | 0, _, h => h
  | k + 1, _, h => crcK_lt k (crcL_lt h)
theorem xor_lt32 {a b : Nat} (ha : a < 4294967296) (hb : b < 4294967296) : a ^^^ b < 4294967296 := Nat.xor_lt_two_pow (n := 32) ha hb
theorem stepN_lt {s b : Nat} (hs : s < 4294967296) (hb : b < 256) : stepN s b < 4294967296 := crcK_lt 8 (xor_lt32 hs (by omega))
theorem runN_lt : ∀ (bs : List Nat) {s : Nat}, s < 4294967296 → (∀ b ∈ bs, b < 256) → runN s bs < 4294967296
  | [], _, h, _ => h
  | b :: r, _, h, hb => runN_lt r (stepN_lt h (hb b (by simp))) (fun x hx => hb x (by simp [hx]))
theorem flipN_lt (s : Nat) : flipN s < 4294967296 := by unfold flipN; omega
theorem onN_lt (s : Nat) (bs : List Nat) : onN s bs < 4294967296 := flipN_lt _
theorem flip_flip {s : Nat} (h : s < 4294967296) : flipN (flipN s) = s := by unfold flipN; omega
theorem flip_inj {a b : Nat} (ha : a < 4294967296) (hb : b < 4294967296) (h : flipN a = flipN b) : a = b := by unfold flipN at h; omega
theorem runN_append (s : Nat) (a b : List Nat) : runN s (a ++ b) = runN (runN s a) b := by unfold runN; rw [List.foldl_append]
theorem onN_append {s : Nat} {a b : List Nat} (ha : ∀ x ∈ a, x < 256) : onN s (a ++ b) = onN (onN s a) b := by
  unfold onN
  rw [runN_append, flip_flip (runN_lt a (flipN_lt s) ha)]
theorem onN_nil {s : Nat} (hs : s < 4294967296) : onN s [] = s := flip_flip hs

theorem crcL_xor (x y : Nat) : crcL (x ^^^ y) = crcL x ^^^ crcL y := by
  unfold crcL
  have h1 : (x ^^^ y) / 2 = x / 2 ^^^ y / 2 := by
    have := Nat.shiftRight_xor_distrib (a := x) (b := y) (i := 1)
    simpa [Nat.shiftRight_succ] using this
  have h2 : (x ^^^ y) % 2 = (x + y) % 2 := by
    have := Nat.xor_mod_two_pow (a := x) (b := y) (n := 1)
    rw [show (2 : Nat) ^ 1 = 2 from rfl] at this
    rw [this]
    rcases Nat.mod_two_eq_zero_or_one x with hx | hx <;> rcases Nat.mod_two_eq_zero_or_one y with hy | hy <;> rw [hx, hy, Nat.add_mod, hx, hy] <;> rfl
  rw [h1, h2]
  rcases Nat.mod_two_eq_zero_or_one x with hx | hx <;> rcases Nat.mod_two_eq_zero_or_one y with hy | hy
  · rw [if_neg (by omega), if_neg (by omega), if_neg (by omega)]
    simp
  · rw [if_pos (by omega), if_neg (by omega), if_pos (by omega)]
    simp [Nat.xor_assoc]
  · rw [if_pos (by omega), if_pos (by omega), if_neg (by omega), Nat.xor_assoc, Nat.xor_assoc, Nat.xor_zero, Nat.xor_comm 2197175160]
  · rw [if_neg (by omega), if_pos (by omega), if_pos (by omega), Nat.xor_zero]
    generalize x / 2 = a
    generalize y / 2 = b
    generalize 2197175160 = c
    rw [Nat.xor_assoc, Nat.xor_comm b c, ← Nat.xor_assoc c c b, Nat.xor_self, Nat.zero_xor]
theorem crcK_xor : ∀ (k x y : Nat), crcK k (x ^^^ y) = crcK k x ^^^ crcK k y
  | 0, _, _ => rfl
  | k + 1, x, y => by rw [crcK, crcL_xor, crcK_xor k]; rfl
theorem crcL_double (x : Nat) : crcL (2 * x) = x := by
  unfold crcL
  rw [if_neg (by omega), Nat.xor_zero]
  omega
theorem crcK_shift : ∀ (k x : Nat), crcK k (2 ^ k * x) = x
  | 0, x => by simp [crcK]
  | k + 1, x => by
    rw [crcK, show 2 ^ (k + 1) * x = 2 * (2 ^ k * x) from by rw [Nat.pow_succ, Nat.mul_assoc, Nat.mul_left_comm], crcL_double, crcK_shift k]
theorem split_low (x : Nat) : x = (256 * (x / 256)) ^^^ (x % 256) := by
  have h : 256 * (x / 256) ^^^ (x % 256) = 256 * (x / 256) + x % 256 := by
    apply Nat.eq_of_testBit_eq
    intro i
    have h1 := Nat.testBit_two_pow_mul_add (a := x / 256) (b := x % 256) (i := 8) (Nat.mod_lt _ (by omega)) i
    have e : (2 : Nat) ^ 8 = 256 := rfl
    rw [e] at h1
    rw [h1, Nat.testBit_xor]
    have h2 := Nat.testBit_two_pow_mul (a := x / 256) (i := 8) (j := i)
    rw [e] at h2
    rw [h2]
    by_cases hi : i < 8
    · rw [if_pos hi]
      have : decide (8 ≤ i) = false := by simp; omega
      rw [this]
      simp
    · rw [if_neg hi]
      have : Nat.testBit (x % 256) i = false := by
        apply Nat.testBit_lt_two_pow
        have h3 : x % 256 < 256 := Nat.mod_lt _ (by omega)
        have h4 : (2 : Nat) ^ 8 ≤ 2 ^ i := Nat.pow_le_pow_right (by omega) (by omega)
        omega
      rw [this]
      simp; omega
  rw [h]
  omega
/-- A step by the table. -/
theorem stepN_table (s b : Nat) : stepN s b = s / 256 ^^^ stepN 0 ((s % 256) ^^^ b) := by
  unfold stepN
  rw [Nat.zero_xor]
  have e1 : s ^^^ b = (256 * (s / 256)) ^^^ ((s % 256) ^^^ b) := by
    rw [← Nat.xor_assoc, ← split_low s]
  rw [e1, crcK_xor]
  congr 1
  exact crcK_shift 8 (s / 256)
theorem crcL_odd {x : Nat} (h : x < 4294967296) (ho : x % 2 = 1) : 2147483648 ≤ crcL x := by
  unfold crcL
  rw [if_pos ho]
  have hb : (x / 2 ^^^ 2197175160).testBit 31 = true := by
    rw [Nat.testBit_xor]
    have h1 : (x / 2).testBit 31 = false := Nat.testBit_lt_two_pow (by omega)
    rw [h1]
    rfl
  exact Nat.ge_two_pow_of_testBit hb
theorem crcL_even {x : Nat} (ho : ¬ x % 2 = 1) : crcL x = x / 2 := by
  unfold crcL
  rw [if_neg ho, Nat.xor_zero]
theorem crcL_low {x : Nat} (h : x < 4294967296) (hl : crcL x < 2147483648) : x = crcL x * 2 := by
  by_cases ho : x % 2 = 1
  · have := crcL_odd h ho; omega
  · rw [crcL_even ho]; omega
theorem crcK_low : ∀ (k : Nat) {x : Nat}, x < 4294967296 → crcK k x * 2 ^ k < 4294967296 → x = crcK k x * 2 ^ k
  | 0, _, _, _ => by simp [crcK]
  | k + 1, x, h, hl => by
    have e : crcK (k + 1) x * 2 ^ (k + 1) = 2 * (crcK k (crcL x) * 2 ^ k) := by rw [crcK, Nat.pow_succ, ← Nat.mul_assoc, Nat.mul_comm]
    rw [e] at hl ⊢
    have h1 := crcK_low k (crcL_lt h) (by omega)
    have h2 := crcL_low h (by omega)
    omega
theorem crcK_zero {k x : Nat} (h : x < 4294967296) (h0 : crcK k x = 0) : x = 0 := by
  have := crcK_low k h (by rw [h0]; omega)
  rw [h0] at this
  omega
theorem xor_eq_zero {a b : Nat} (h : a ^^^ b = 0) : a = b := by
  have : a ^^^ b ^^^ b = b := by rw [h, Nat.zero_xor]
  rwa [Nat.xor_assoc, Nat.xor_self, Nat.xor_zero] at this
theorem stepN_inj {s s' b : Nat} (hs : s < 4294967296) (hs' : s' < 4294967296) (h : stepN s b = stepN s' b) : s = s' := by
  unfold stepN at h
  have e : crcK 8 (s ^^^ s') = 0 := by
    have h1 : (s ^^^ b) ^^^ (s' ^^^ b) = s ^^^ s' := by
      rw [Nat.xor_assoc, Nat.xor_comm s' b, ← Nat.xor_assoc b b s', Nat.xor_self, Nat.zero_xor]
    rw [← h1, crcK_xor, h, Nat.xor_self]
  exact xor_eq_zero (crcK_zero (xor_lt32 hs hs') e)
theorem runN_inj : ∀ (bs : List Nat) {s s' : Nat}, s < 4294967296 → s' < 4294967296 → (∀ b ∈ bs, b < 256) → runN s bs = runN s' bs → s = s'
  | [], _, _, _, _, _, h => h
  | b :: r, _, _, hs, hs', hb, h => stepN_inj hs hs' (runN_inj r (stepN_lt hs (hb b (by simp))) (stepN_lt hs' (hb b (by simp))) (fun x hx => hb x (by simp [hx])) h)
/-- Four bytes changed: the step of what is changed. -/
theorem stepN_diff (s d b o : Nat) : stepN (s ^^^ d) (b ^^^ o) = stepN s b ^^^ crcK 8 (d ^^^ o) := by
  unfold stepN
  rw [← crcK_xor]
  congr 1
  rw [Nat.xor_assoc, ← Nat.xor_assoc d b o, Nat.xor_comm d b, Nat.xor_assoc b d o, ← Nat.xor_assoc]
theorem xor_cancel {a d : Nat} (h : a ^^^ d = a) : d = 0 := by
  have : a ^^^ (a ^^^ d) = a ^^^ a := by rw [h]
  rwa [← Nat.xor_assoc, Nat.xor_self, Nat.zero_xor] at this
theorem crc8_low {d o y : Nat} (hd : d < 4294967296) (ho : o < 256) (hy : y * 256 < 4294967296) (h : crcK 8 (d ^^^ o) = y) : d = o ^^^ (y * 256) := by
  have h1 := crcK_low 8 (xor_lt32 hd (show o < 4294967296 by omega)) (by rw [h]; exact hy)
  rw [h] at h1
  have e : (2 : Nat) ^ 8 = 256 := rfl
  rw [e] at h1
  rw [← h1, Nat.xor_comm d o, ← Nat.xor_assoc, Nat.xor_self, Nat.zero_xor]
theorem four_diff (s : Nat) (b0 b1 b2 b3 o0 o1 o2 o3 : Nat) (h0 : o0 < 256) (h1 : o1 < 256) (h2 : o2 < 256) (h3 : o3 < 256)
    (h : runN s [b0, b1, b2, b3] = runN s [b0 ^^^ o0, b1 ^^^ o1, b2 ^^^ o2, b3 ^^^ o3]) : o0 = 0 ∧ o1 = 0 ∧ o2 = 0 ∧ o3 = 0 := by
  simp only [runN, List.foldl_cons, List.foldl_nil] at h
  have e0 : stepN s (b0 ^^^ o0) = stepN s b0 ^^^ crcK 8 o0 := by
    have := stepN_diff s 0 b0 o0
    rwa [Nat.xor_zero, Nat.zero_xor] at this
  rw [e0, stepN_diff, stepN_diff, stepN_diff] at h
  have d3 := xor_cancel h.symm
  have l1 : crcK 8 o0 < 4294967296 := crcK_lt 8 (by omega)
  have l2 : crcK 8 (crcK 8 o0 ^^^ o1) < 4294967296 := crcK_lt 8 (xor_lt32 l1 (by omega))
  have l3 : crcK 8 (crcK 8 (crcK 8 o0 ^^^ o1) ^^^ o2) < 4294967296 := crcK_lt 8 (xor_lt32 l2 (by omega))
  have q3 := xor_eq_zero (crcK_zero (xor_lt32 l3 (show o3 < 4294967296 by omega)) d3)
  have q2 := crc8_low l2 h2 (by omega) q3
  have b2 : o2 ^^^ (o3 * 256) < 65536 := Nat.xor_lt_two_pow (n := 16) (by omega) (by omega)
  have q1 := crc8_low l1 h1 (by omega) q2
  have b1 : o1 ^^^ ((o2 ^^^ (o3 * 256)) * 256) < 16777216 := Nat.xor_lt_two_pow (n := 24) (by omega) (by omega)
  have q0 := crc8_low (d := 0) (by omega) h0 (y := o1 ^^^ ((o2 ^^^ (o3 * 256)) * 256)) (by omega) (by rw [Nat.zero_xor]; exact q1)
  have z0 : o0 = (o1 ^^^ ((o2 ^^^ (o3 * 256)) * 256)) * 256 := xor_eq_zero q0.symm
  have z1 : o1 ^^^ ((o2 ^^^ (o3 * 256)) * 256) = 0 := by omega
  have z1' := xor_eq_zero z1
  have z2 : o2 ^^^ (o3 * 256) = 0 := by omega
  have z2' := xor_eq_zero z2
  omega
/-- Up to four bytes in a row, changed: another sum. -/
theorem onN_bits (s : Nat) (a m r : List Nat) (b0 b1 b2 b3 o0 o1 o2 o3 : Nat) (h0 : o0 < 256) (h1 : o1 < 256) (h2 : o2 < 256) (h3 : o3 < 256) (hm : m = [b0, b1, b2, b3])
    (hb : b0 < 256 ∧ b1 < 256 ∧ b2 < 256 ∧ b3 < 256) (ha : ∀ x ∈ a, x < 256) (hr : ∀ x ∈ r, x < 256) (ho : ¬ (o0 = 0 ∧ o1 = 0 ∧ o2 = 0 ∧ o3 = 0)) :
    onN s (a ++ m ++ r) ≠ onN s (a ++ [b0 ^^^ o0, b1 ^^^ o1, b2 ^^^ o2, b3 ^^^ o3] ++ r) := by
  subst hm
  intro h
  have x8 : ∀ {x y : Nat}, x < 256 → y < 256 → x ^^^ y < 256 := fun hx hy => Nat.xor_lt_two_pow (n := 8) hx hy
  have g1 : ∀ x ∈ [b0, b1, b2, b3], x < 256 := by simp; omega
  have g2 : ∀ x ∈ [b0 ^^^ o0, b1 ^^^ o1, b2 ^^^ o2, b3 ^^^ o3], x < 256 := by
    intro x hx
    simp at hx
    rcases hx with rfl | rfl | rfl | rfl
    · exact x8 hb.1 h0
    · exact x8 hb.2.1 h1
    · exact x8 hb.2.2.1 h2
    · exact x8 hb.2.2.2 h3
  have la := runN_lt a (flipN_lt s) ha
  unfold onN at h
  rw [runN_append, runN_append, runN_append, runN_append] at h
  have l1 := runN_lt _ la g1
  have l2 := runN_lt _ la g2
  have h' := runN_inj r l1 l2 hr (flip_inj (runN_lt r l1 hr) (runN_lt r l2 hr) h)
  exact ho (four_diff _ b0 b1 b2 b3 o0 o1 o2 o3 h0 h1 h2 h3 h')
end Go.Proofs.Ytchdfdimaopdeaa
