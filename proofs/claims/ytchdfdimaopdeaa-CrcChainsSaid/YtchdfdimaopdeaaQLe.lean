/- Bytes as words, the lowest first, and the mix of bytes by definition. -/
import Derived.Test.YtchdfdimaopdeaaQMixW
namespace Go.Proofs.Ytchdfdimaopdeaa

def leN : List Nat → Nat
  | [] => 0
  | b :: r => b + 256 * leN r
theorem leN_lt : ∀ {l : List Nat}, (∀ b ∈ l, b < 256) → leN l < 256 ^ l.length
  | [], _ => by simp [leN]
  | b :: r, h => by
    have h1 := h b (by simp)
    have h2 := leN_lt (l := r) (fun x hx => h x (by simp [hx]))
    simp only [leN, List.length_cons, Nat.pow_succ]
    omega
theorem leN_append : ∀ (a b : List Nat), leN (a ++ b) = leN a + 256 ^ a.length * leN b
  | [], b => by simp [leN]
  | x :: a, b => by
    simp only [List.cons_append, leN, List.length_cons, Nat.pow_succ, leN_append a b, Nat.mul_add]
    rw [Nat.mul_comm (256 ^ a.length) 256, Nat.mul_assoc]
    omega
theorem leN_zeros : ∀ n : Nat, leN (List.replicate n 0) = 0
  | 0 => rfl
  | n + 1 => by simp [List.replicate_succ, leN, leN_zeros n]
theorem or_add {m c k : Nat} (hm : m < 2 ^ k) : m ||| c * 2 ^ k = m + c * 2 ^ k := by
  have := Nat.shiftLeft_add_eq_or_of_lt hm c
  rw [Nat.shiftLeft_eq] at this
  rw [Nat.or_comm, ← this, Nat.add_comm]
theorem pow256 (r : Nat) : 256 ^ r = 2 ^ (8 * r) := by rw [show (256 : Nat) = 2 ^ 8 from rfl, Nat.pow_mul]
theorem or_shift {m c r : Nat} (hm : m < 256 ^ r) (hc : c < 256) (hr : r < 8) : bits .or .u64 (m : Int) (IntKind.u64.wrap ((c : Int) * 2 ^ (8 * (r : Int)).toNat)) = ((m + c * 256 ^ r : Nat) : Int) := by
  have e1 : (8 * (r : Int)).toNat = 8 * r := by omega
  have e2 : ((c : Int) * 2 ^ (8 * r)) = ((c * 2 ^ (8 * r) : Nat) : Int) := by push_cast; rfl
  rw [pow256] at hm ⊢
  have hp : 2 ^ (8 * r) ≤ 72057594037927936 := Nat.pow_le_pow_right (n := 2) (by decide) (show 8 * r ≤ 56 by omega)
  have hl : c * 2 ^ (8 * r) < 18446744073709551616 := by
    have : c * 2 ^ (8 * r) ≤ 255 * 72057594037927936 := Nat.mul_le_mul (by omega) hp
    omega
  rw [e1, e2, wrapN64 hl, or64 (by omega) hl, or_add hm]
theorem or_shiftN {m c r : Nat} (hm : m < 256 ^ r) (hc : c < 256) (hr : r < 8) : bits .or .u64 (m : Int) (IntKind.u64.wrap ((c : Int) * 2 ^ (8 * r))) = ((m + c * 256 ^ r : Nat) : Int) := by
  have := or_shift hm hc hr
  rwa [show (8 * (r : Int)).toNat = 8 * r by omega] at this
theorem or_shift7 {m c : Nat} (hm : m < 256 ^ 7) (hc : c < 256) : bits .or .u64 (m : Int) ((c : Int) * 72057594037927936) = ((m + c * 256 ^ 7 : Nat) : Int) := by
  have := or_shiftN hm hc (by omega)
  rw [show (2 : Int) ^ (8 * 7) = 72057594037927936 by decide] at this
  rw [← this, IntKind.wrap_u64]
  congr 1
  omega
/-- The j-th word of bytes. -/
def wordAt (l : List Nat) (j : Nat) : Nat := leN ((l.drop (8 * j)).take 8)
def runW (l : List Nat) (v : W4) : Nat → W4
  | 0 => v
  | j + 1 => wordI (runW l v j) (wordAt l j : Nat)
def roundN (v : W4) : Nat → W4
  | 0 => v
  | j + 1 => roundI (roundN v j)
def v0I (seal_ : Int) : W4 := ⟨xorI seal_ 8317987319222330741, 368457802846855779, xorI seal_ 7816392313619706465, 1519701440043968637⟩
/-- The last word: what is left, and how many bytes there are. -/
def lastW (l : List Nat) : Nat := leN (l.drop (8 * (l.length / 8))) + l.length % 256 * 256 ^ 7
def vEnd (seal_ : Int) (l : List Nat) : W4 := wordI (runW l (v0I seal_) (l.length / 8)) (lastW l : Nat)
def outI (v : W4) : Int := xorI (xorI (xorI v.a v.b) v.c) v.d
def mixI (seal_ : Int) (l : List Nat) : Int :=
  let v := vEnd seal_ l
  outI (roundN ⟨v.a, v.b, xorI v.c 255, v.d⟩ 4)
theorem mixI_nat (s : Int) (l : List Nat) : ∃ n : Nat, mixI s l = (n : Int) ∧ n < 18446744073709551616 := xor64_range _ _

/-- The word under way behind k bytes. -/
def partW (l : List Nat) (k : Nat) : Nat := leN ((l.drop (8 * (k / 8))).take (k % 8))
theorem partW_lt {l : List Nat} (h : ∀ b ∈ l, b < 256) (k : Nat) : partW l k < 256 ^ (k % 8) := by
  refine Nat.lt_of_lt_of_le (leN_lt (fun b hb => h b (List.mem_of_mem_drop (List.mem_of_mem_take hb)))) ?_
  exact Nat.pow_le_pow_right (by decide) (by rw [List.length_take]; omega)
theorem part_take {l : List Nat} {k : Nat} (h : k < l.length) : (l.drop (8 * (k / 8))).take (k % 8 + 1) = (l.drop (8 * (k / 8))).take (k % 8) ++ [l[k]] := by
  have hlt : k % 8 < (l.drop (8 * (k / 8))).length := by rw [List.length_drop]; omega
  rw [List.take_succ_eq_append_getElem hlt]
  congr 2
  rw [List.getElem_drop]
  congr 1
  omega
theorem part_leN {l : List Nat} {k : Nat} (h : k < l.length) : leN ((l.drop (8 * (k / 8))).take (k % 8 + 1)) = partW l k + l[k] * 256 ^ (k % 8) := by
  rw [part_take h, leN_append]
  have : ((l.drop (8 * (k / 8))).take (k % 8)).length = k % 8 := by rw [List.length_take, List.length_drop]; omega
  rw [this]
  simp only [leN, partW, Nat.mul_zero, Nat.add_zero, Nat.mul_comm (256 ^ (k % 8))]
theorem partW_next {l : List Nat} {k : Nat} (h : k < l.length) (h7 : k % 8 ≠ 7) : partW l (k + 1) = partW l k + l[k] * 256 ^ (k % 8) := by
  rw [← part_leN h, partW, show (k + 1) / 8 = k / 8 by omega, show (k + 1) % 8 = k % 8 + 1 by omega]
theorem wordAt_next {l : List Nat} {k : Nat} (h : k < l.length) (h7 : k % 8 = 7) : wordAt l (k / 8) = partW l k + l[k] * 256 ^ 7 := by
  have := part_leN h
  rw [h7] at this
  exact this
theorem partW_start (l : List Nat) (k : Nat) (h7 : k % 8 = 7) : partW l (k + 1) = 0 := by
  rw [partW, show (k + 1) % 8 = 0 by omega]
  rfl
theorem runW_next (l : List Nat) (v : W4) (k : Nat) (h7 : k % 8 = 7) : runW l v ((k + 1) / 8) = wordI (runW l v (k / 8)) (wordAt l (k / 8) : Nat) := by
  rw [show (k + 1) / 8 = k / 8 + 1 by omega]
  rfl
theorem lastW_eq (l : List Nat) : lastW l = partW l l.length + l.length % 256 * 256 ^ 7 := by
  unfold lastW partW
  rw [List.take_of_length_le]
  rw [List.length_drop]
  omega
theorem last_or {l : List Nat} (h : ∀ b ∈ l, b < 256) : bits .or .u64 (partW l l.length : Int) (IntKind.u64.wrap ((l.length : Int) * 72057594037927936)) = ((lastW l : Nat) : Int) := by
  have hp := partW_lt h l.length
  have hp' : partW l l.length < 256 ^ 7 := Nat.lt_of_lt_of_le hp (Nat.pow_le_pow_right (by decide) (by omega))
  have := or_shift (m := partW l l.length) (c := l.length % 256) (r := 7) hp' (by omega) (by omega)
  rw [← lastW_eq] at this
  rw [← this]
  have e : (8 * ((7 : Nat) : Int)).toNat = 56 := by omega
  have e2 : (2 : Int) ^ 56 = 72057594037927936 := by decide
  have e3 : IntKind.u64.wrap ((l.length : Int) * 72057594037927936) = IntKind.u64.wrap (((l.length % 256 : Nat) : Int) * 72057594037927936) := by
    rw [IntKind.wrap_u64, IntKind.wrap_u64]
    omega
  rw [e, e2, e3]

/-- The bytes with the zeros behind them, and their number's last byte. -/
def padN (l : List Nat) : List Nat := l ++ List.replicate (7 - l.length % 8) 0 ++ [l.length % 256]
theorem padN_length (l : List Nat) : (padN l).length = 8 * (l.length / 8 + 1) := by simp [padN]; omega
theorem wordAt_pad {l : List Nat} {j : Nat} (h : j < l.length / 8) : wordAt (padN l) j = wordAt l j := by
  unfold wordAt padN
  rw [List.append_assoc, List.drop_append_of_le_length (by omega), List.take_append_of_le_length (by rw [List.length_drop]; omega)]
theorem wordAt_last (l : List Nat) : wordAt (padN l) (l.length / 8) = lastW l := by
  unfold wordAt
  rw [List.take_of_length_le (by rw [List.length_drop, padN_length]; omega)]
  unfold padN
  rw [List.append_assoc, List.drop_append_of_le_length (by omega), leN_append, leN_append, leN_zeros, lastW]
  have e : (l.drop (8 * (l.length / 8))).length = l.length % 8 := by rw [List.length_drop]; omega
  rw [e, List.length_replicate]
  simp only [leN]
  have : (256 : Nat) ^ (l.length % 8) * 256 ^ (7 - l.length % 8) = 256 ^ 7 := by rw [← Nat.pow_add]; congr 1; omega
  rw [Nat.zero_add, ← Nat.mul_assoc, this, Nat.mul_comm]
  omega
theorem runW_pad (l : List Nat) (v : W4) : ∀ j, j ≤ l.length / 8 → runW (padN l) v j = runW l v j
  | 0, _ => rfl
  | j + 1, h => by rw [runW, runW, runW_pad l v j (by omega), wordAt_pad (by omega)]
theorem runW_end (s : Int) (l : List Nat) : runW (padN l) (v0I s) (l.length / 8 + 1) = vEnd s l := by
  rw [runW, runW_pad l _ _ (Nat.le_refl _), wordAt_last]
  rfl
end Go.Proofs.Ytchdfdimaopdeaa
