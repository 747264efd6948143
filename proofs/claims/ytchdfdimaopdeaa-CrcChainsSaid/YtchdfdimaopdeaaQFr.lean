/- Frames, by definition: numbers as bytes, the highest first, and back; a frame; the first frame. -/
import Derived.Test.YtchdfdimaopdeaaQLe
namespace Go.Proofs.Ytchdfdimaopdeaa

def hiN (x : Nat) : Nat → List Nat
  | 0 => []
  | s + 1 => (x / 256 ^ s % 256) :: hiN x s
def loN (bs : List Nat) : Nat := bs.foldl (fun a b => b + 256 * a) 0
theorem hiN_length (x : Nat) : ∀ s, (hiN x s).length = s
  | 0 => rfl
  | s + 1 => by simp [hiN, hiN_length x s]
theorem hiN_byte (x : Nat) : ∀ s, ∀ b ∈ hiN x s, b < 256
  | 0, b, h => by simp [hiN] at h
  | s + 1, b, h => by
    simp only [hiN, List.mem_cons] at h
    rcases h with rfl | h
    · omega
    · exact hiN_byte x s b h
theorem foldl_lo : ∀ (bs : List Nat) (a : Nat), bs.foldl (fun a b => b + 256 * a) a = loN bs + a * 256 ^ bs.length
  | [], a => by simp [loN]
  | b :: r, a => by
    rw [loN, List.foldl_cons, List.foldl_cons, foldl_lo r, foldl_lo r, List.length_cons, Nat.pow_succ, Nat.add_mul, Nat.add_mul]
    have : 256 * a * 256 ^ r.length = a * (256 ^ r.length * 256) := by rw [Nat.mul_comm 256 a, Nat.mul_assoc, Nat.mul_comm 256]
    omega
theorem loN_cons (b : Nat) (r : List Nat) : loN (b :: r) = loN r + b * 256 ^ r.length := by
  have := foldl_lo r b
  rw [loN, List.foldl_cons]
  simpa using this
theorem loN_lt : ∀ {l : List Nat}, (∀ b ∈ l, b < 256) → loN l < 256 ^ l.length
  | [], _ => by simp [loN]
  | b :: r, h => by
    have h1 := h b (by simp)
    have h2 := loN_lt (l := r) (fun x hx => h x (by simp [hx]))
    rw [loN_cons, List.length_cons, Nat.pow_succ]
    have : b * 256 ^ r.length ≤ 255 * 256 ^ r.length := Nat.mul_le_mul_right _ (by omega)
    omega
theorem loN_hi (x : Nat) : ∀ s, loN (hiN x s) = x % 256 ^ s
  | 0 => by simp [loN, hiN, Nat.mod_one]
  | s + 1 => by
    rw [hiN, loN_cons, loN_hi x s, hiN_length, Nat.pow_succ, Nat.mod_mul, Nat.mul_comm (256 ^ s)]
theorem loN_snoc (l : List Nat) (b : Nat) : loN (l ++ [b]) = b + 256 * loN l := by
  unfold loN
  rw [List.foldl_append]
  rfl
def mixN (s : Int) (l : List Nat) : Nat := (mixI s l).toNat
theorem mixN_eq (s : Int) (l : List Nat) : mixI s l = (mixN s l : Nat) := by
  obtain ⟨n, h, _⟩ := mixI_nat s l
  unfold mixN
  omega
theorem mixN_lt (s : Int) (l : List Nat) : mixN s l < 18446744073709551616 := by
  obtain ⟨n, h, _⟩ := mixI_nat s l
  unfold mixN
  omega
def topN (s : Int) (l : List Nat) : List Nat := hiN (l.length + 1) 4 ++ hiN (onN 0 l) 4 ++ hiN (mixN s l) 8
/-- A frame. -/
def frameN (s : Int) (l : List Nat) : List Nat := topN s l ++ l
theorem topN_length (s : Int) (l : List Nat) : (topN s l).length = 16 := by simp [topN, hiN_length]
/-- The first frame: its bytes and its seal. -/
def openN (s : Int) (bs : List Nat) : Option (List Nat × Nat) :=
  if bs.length < 16 then none
  else
    let n := loN (bs.take 4)
    let x := (bs.drop 16).take (n - 1)
    if n = 0 ∨ 65537 < n ∨ bs.length < 15 + n ∨ onN 0 x ≠ loN ((bs.drop 4).take 4) ∨ mixN s x ≠ loN ((bs.drop 8).take 8) then none
    else some (x, loN ((bs.drop 8).take 8))
theorem openN_frame (s : Int) (l r : List Nat) (hl : l.length ≤ 65536) : openN s (frameN s l ++ r) = some (l, mixN s l) := by
  have e1 : (frameN s l ++ r).take 4 = hiN (l.length + 1) 4 := by
    simp only [frameN, topN, List.append_assoc]
    rw [List.take_append_of_le_length (by rw [hiN_length]; omega), List.take_of_length_le (by rw [hiN_length]; omega)]
  have e2 : ((frameN s l ++ r).drop 4).take 4 = hiN (onN 0 l) 4 := by
    simp only [frameN, topN, List.append_assoc]
    rw [List.drop_left' (hiN_length _ _), List.take_append_of_le_length (by rw [hiN_length]; omega), List.take_of_length_le (by rw [hiN_length]; omega)]
  have e3 : ((frameN s l ++ r).drop 8).take 8 = hiN (mixN s l) 8 := by
    simp only [frameN, topN]
    rw [List.append_assoc, List.append_assoc (hiN (l.length + 1) 4 ++ hiN (onN 0 l) 4), List.drop_left' (by simp [hiN_length]), List.take_append_of_le_length (by rw [hiN_length]; omega), List.take_of_length_le (by rw [hiN_length]; omega)]
  have e4 : (frameN s l ++ r).drop 16 = l ++ r := by
    rw [frameN, List.append_assoc, List.drop_left' (topN_length s l)]
  have e5 : (l.length + 1) % 256 ^ 4 = l.length + 1 := Nat.mod_eq_of_lt (by omega)
  have e6 : onN 0 l % 256 ^ 4 = onN 0 l := Nat.mod_eq_of_lt (onN_lt 0 l)
  have e7 : mixN s l % 256 ^ 8 = mixN s l := Nat.mod_eq_of_lt (mixN_lt s l)
  have e8 : (frameN s l ++ r).length = 16 + l.length + r.length := by rw [frameN, List.length_append, List.length_append, topN_length]
  unfold openN
  rw [if_neg (by omega)]
  simp only [e1, e2, e3, e4, loN_hi, e5, e6, e7, Nat.add_sub_cancel]
  rw [List.take_left' rfl, if_neg]
  rintro (h | h | h | h | h)
  · omega
  · omega
  · omega
  · exact h rfl
  · exact h rfl
theorem openN_cut (s : Int) (l : List Nat) (k : Nat) (hl : l.length ≤ 65536) (hk : k < (frameN s l).length) : openN s ((frameN s l).take k) = none := by
  have e8 : (frameN s l).length = 16 + l.length := by rw [frameN, List.length_append, topN_length]
  have e9 : ((frameN s l).take k).length = k := by rw [List.length_take]; omega
  unfold openN
  by_cases h16 : k < 16
  · rw [if_pos (by omega)]
  · rw [if_neg (by omega)]
    have e1 : ((frameN s l).take k).take 4 = hiN (l.length + 1) 4 := by
      rw [List.take_take, Nat.min_eq_left (by omega)]
      simp only [frameN, topN, List.append_assoc]
      rw [List.take_append_of_le_length (by rw [hiN_length]; omega), List.take_of_length_le (by rw [hiN_length]; omega)]
    have e5 : (l.length + 1) % 256 ^ 4 = l.length + 1 := Nat.mod_eq_of_lt (by omega)
    simp only [e1, loN_hi, e5]
    rw [if_pos]
    right; right; left
    omega
theorem openN_len {s : Int} {bs x : List Nat} {m : Nat} (h : openN s bs = some (x, m)) : 16 + x.length ≤ bs.length := by
  unfold openN at h
  by_cases h1 : bs.length < 16
  · rw [if_pos h1] at h; cases h
  · rw [if_neg h1] at h
    simp only at h
    split at h
    · cases h
    · injection h with h
      injection h with h2 h3
      rw [← h2, List.length_take, List.length_drop]
      omega
theorem openN_byte {s : Int} {bs x : List Nat} {m : Nat} (hb : ∀ b ∈ bs, b < 256) (h : openN s bs = some (x, m)) : ∀ b ∈ x, b < 256 := by
  unfold openN at h
  by_cases h1 : bs.length < 16
  · rw [if_pos h1] at h; cases h
  · rw [if_neg h1] at h
    simp only at h
    split at h
    · cases h
    · injection h with h
      injection h with h2 h3
      rw [← h2]
      exact fun b hx => hb b (List.mem_of_mem_drop (List.mem_of_mem_take hx))
/-- All frames: their bytes, the last one's seal, how many bytes they are. -/
def allN (s : Int) (bs : List Nat) : List (List Nat) × Int × Nat :=
  match h : openN s bs with
  | none => ([], s, 0)
  | some (x, m) =>
    let r := allN (m : Nat) (bs.drop (16 + x.length))
    (x :: r.1, r.2.1, 16 + x.length + r.2.2)
termination_by bs.length
decreasing_by
  have := openN_len h
  rw [List.length_drop]
  omega
end Go.Proofs.Ytchdfdimaopdeaa
