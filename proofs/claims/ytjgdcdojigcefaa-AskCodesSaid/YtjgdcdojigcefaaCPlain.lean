/- Plain facts on makers and takers of cells: what each call makes of the bytes. No program is named here. -/
import Derived.Test.YtjgdcdojigcefaaCFst
namespace Go.Proofs.Ytjgdcdojigcefaa

/-- What a maker holds: its bytes, and whether there were too many. -/
def putS (s : List Nat × Bool) (c : List Nat) : List Nat × Bool :=
  if s.2 = true ∨ 262144 - (s.1.length : Int) < c.length then (s.1, true) else (s.1 ++ c, false)
theorem putS_long {s : List Nat × Bool} {c : List Nat} (h : s.2 = true) : putS s c = (s.1, true) := by unfold putS; rw [if_pos (.inl h)]
theorem putS_over {s : List Nat × Bool} {c : List Nat} (h : 262144 - (s.1.length : Int) < c.length) : putS s c = (s.1, true) := by unfold putS; rw [if_pos (.inr h)]
theorem putS_fits {s : List Nat × Bool} {c : List Nat} (h : s.2 = false) (h' : ¬ 262144 - (s.1.length : Int) < c.length) : putS s c = (s.1 ++ c, false) := by unfold putS; rw [if_neg]; simp [h]; omega
/-- The bytes of a text. -/
def natsOf (s : ByteArray) : List Nat := s.data.toList.map UInt8.toNat
theorem natsOf_lt (s : ByteArray) : ∀ b ∈ natsOf s, b < 256 := by
  intro b hb
  obtain ⟨x, _, rfl⟩ := List.mem_map.1 hb
  exact x.toNat_lt
theorem natsOf_length (s : ByteArray) : (natsOf s).length = s.size := by simp [natsOf]
/-- The cell of a text. -/
def textB (s : List Nat) : List Nat := numB s.length ++ s
def flagB (b : Bool) : List Nat := numB (if b then 1 else 0)

/-- Taking a number: what is told, and what is left. -/
def numT (s : List Nat × Bool) (least most : Int) : Int × (List Nat × Bool) :=
  if s.2 = true then (0, s) else match firstN s.1 with
    | some (n, k) => if n < least ∨ most < n then (0, (s.1, true)) else (n, (s.1.drop k, false))
    | none => (0, (s.1, true))
theorem numT_bad {s : List Nat × Bool} {a b : Int} (h : s.2 = true) : numT s a b = (0, s) := by unfold numT; rw [if_pos h]
theorem numT_none {s : List Nat × Bool} {a b : Int} (h : s.2 = false) (hf : firstN s.1 = none) : numT s a b = (0, (s.1, true)) := by unfold numT; rw [if_neg (by simp [h]), hf]
theorem numT_out {s : List Nat × Bool} {a b : Int} {n : Int} {k : Nat} (h : s.2 = false) (hf : firstN s.1 = some (n, k)) (ho : n < a ∨ b < n) : numT s a b = (0, (s.1, true)) := by
  unfold numT; rw [if_neg (by simp [h]), hf]; simp only; rw [if_pos ho]
theorem numT_in {s : List Nat × Bool} {a b : Int} {n : Int} {k : Nat} (h : s.2 = false) (hf : firstN s.1 = some (n, k)) (h1 : a ≤ n) (h2 : n ≤ b) : numT s a b = (n, (s.1.drop k, false)) := by
  unfold numT; rw [if_neg (by simp [h]), hf]; simp only; rw [if_neg (by omega)]
/-- Taking a text. -/
def textT (s : List Nat × Bool) (most : Int) : List Nat × (List Nat × Bool) :=
  let r := numT s 0 most
  if r.2.2 = true then ([], r.2) else if (r.2.1.length : Int) < r.1 then ([], (r.2.1, true)) else (r.2.1.take r.1.toNat, (r.2.1.drop r.1.toNat, false))
/-- Taking a flag. -/
def flagT (s : List Nat × Bool) : Bool × (List Nat × Bool) := ((numT s 0 1).1 == 1, (numT s 0 1).2)
/-- How many bytes are left. -/
def leftT (s : List Nat × Bool) : Int := if s.2 = true then 0 else s.1.length
/-- Whether all was taken. -/
def doneT (s : List Nat × Bool) : Int := if s.2 = true ∨ 0 < s.1.length then 10 else 0

/-- The reference's texts: no more than there are bytes. -/
def rtextT (s : List Nat × Bool) (most : Int) : List Nat × (List Nat × Bool) :=
  let r := numT s 0 (if (s.1.length : Int) < most then s.1.length else most)
  if r.2.2 = true ∨ (r.2.1.length : Int) < r.1 then ([], (r.2.1, true)) else (r.2.1.take r.1.toNat, (r.2.1.drop r.1.toNat, false))

/-- Two takers of which one can tell no difference: both at fault, or the same bytes left. -/
def SameT (s r : List Nat × Bool) : Prop := s.2 = r.2 ∧ (s.2 = false → s.1 = r.1)
theorem SameT.refl (s : List Nat × Bool) : SameT s s := ⟨rfl, fun _ => rfl⟩
theorem SameT.num {s r : List Nat × Bool} (h : SameT s r) (a b : Int) : (numT s a b).1 = (numT r a b).1 ∧ SameT (numT s a b).2 (numT r a b).2 := by
  obtain ⟨s1, s2⟩ := s
  obtain ⟨r1, r2⟩ := r
  obtain ⟨h1, h2⟩ := h
  simp only at h1 h2
  subst h1
  cases s2 with
  | true => rw [numT_bad rfl, numT_bad rfl]; exact ⟨rfl, rfl, fun h => by cases h⟩
  | false => rw [h2 rfl]; exact ⟨rfl, SameT.refl _⟩
theorem numT_lt {s : List Nat × Bool} (h : ∀ b ∈ s.1, b < 256) (a b : Int) : ∀ x ∈ (numT s a b).2.1, x < 256 := by
  unfold numT
  split
  · exact h
  · split
    · split
      · exact h
      · exact fun x hx => h x (List.mem_of_mem_drop hx)
    · exact h
theorem numT_le (s : List Nat × Bool) (a b : Int) : (numT s a b).2.1.length ≤ s.1.length := by
  unfold numT
  split
  · exact Nat.le_refl _
  · split
    · split
      · exact Nat.le_refl _
      · simp
    · exact Nat.le_refl _
/-- What a number taken is, where the taker is not at fault behind it. -/
theorem numT_good {s : List Nat × Bool} (hb : ∀ b ∈ s.1, b < 256) {a b : Int} (h : (numT s a b).2.2 = false) : s.2 = false ∧ ∃ k, firstN s.1 = some ((numT s a b).1, k) ∧ a ≤ (numT s a b).1 ∧ (numT s a b).1 ≤ b ∧ (numT s a b).2.1 = s.1.drop k ∧ 1 ≤ k ∧ k ≤ s.1.length ∧ I64 (numT s a b).1 := by
  cases hs : s.2 with
  | true => rw [numT_bad hs] at h; rw [hs] at h; cases h
  | false =>
    refine ⟨rfl, ?_⟩
    cases hf : firstN s.1 with
    | none => rw [numT_none hs hf] at h; cases h
    | some p =>
      obtain ⟨n, k⟩ := p
      by_cases ho : n < a ∨ b < n
      · rw [numT_out hs hf ho] at h; cases h
      · rw [numT_in hs hf (by omega) (by omega)]
        have := firstN_some hb hf
        exact ⟨k, rfl, by simp only; omega, by simp only; omega, rfl, this.2.2.1, this.2.2.2, this.1⟩
/-- A number taken lies within its bounds, or is 0. -/
theorem numT_range (s : List Nat × Bool) (a b : Int) : (numT s a b).1 = 0 ∨ (a ≤ (numT s a b).1 ∧ (numT s a b).1 ≤ b) := by
  unfold numT
  split
  · exact .inl rfl
  · split
    · split
      · exact .inl rfl
      · simp only; right; omega
    · exact .inl rfl
theorem SameT.text {s r : List Nat × Bool} (hb : ∀ b ∈ s.1, b < 256) (h : SameT s r) (most : Int) : (textT s most).1 = (rtextT r most).1 ∧ SameT (textT s most).2 (rtextT r most).2 := by
  obtain ⟨s1, s2⟩ := s
  obtain ⟨r1, r2⟩ := r
  obtain ⟨h1, h2⟩ := h
  simp only at h1 h2 hb
  subst h1
  cases s2 with
  | true => unfold textT rtextT; rw [numT_bad rfl, numT_bad rfl]; simp [SameT]
  | false =>
    obtain rfl := h2 rfl
    clear h2
    cases hf : firstN s1 with
    | none => unfold textT rtextT; rw [numT_none rfl hf, numT_none rfl hf]; simp [SameT]
    | some p =>
      obtain ⟨n, k⟩ := p
      obtain ⟨_, _, hk1, hk2⟩ := firstN_some hb hf
      have hdl : (s1.drop k).length = s1.length - k := by simp
      by_cases h0 : n < 0 ∨ most < n
      · unfold textT rtextT
        rw [numT_out rfl hf h0, numT_out rfl hf (by split <;> omega)]
        simp [SameT]
      · by_cases h3 : (s1.length : Int) < n
        · unfold textT rtextT
          rw [numT_in rfl hf (by omega) (by omega), numT_out rfl hf (by simp only; right; split <;> omega)]
          simp only
          rw [if_neg (by simp), if_pos (by omega)]
          simp [SameT]
        · have e : numT (s1, false) 0 (if (s1.length : Int) < most then s1.length else most) = (n, (s1.drop k, false)) := numT_in rfl hf (by omega) (by split <;> omega)
          unfold textT rtextT
          simp only
          rw [numT_in rfl hf (by omega) (by omega), e]
          simp only
          by_cases h4 : ((s1.drop k).length : Int) < n
          · rw [if_neg (by simp), if_pos h4, if_pos (.inr h4)]
            simp [SameT]
          · rw [if_neg (by simp), if_neg h4, if_neg (by simp; omega)]
            exact ⟨rfl, SameT.refl _⟩
theorem SameT.left {s r : List Nat × Bool} (h : SameT s r) : leftT s = leftT r := by
  obtain ⟨s1, s2⟩ := s
  obtain ⟨r1, r2⟩ := r
  obtain ⟨h1, h2⟩ := h
  simp only at h1 h2
  subst h1
  cases s2 with
  | true => simp [leftT]
  | false => rw [h2 rfl]
theorem textT_lt {s : List Nat × Bool} (h : ∀ b ∈ s.1, b < 256) (most : Int) : (∀ x ∈ (textT s most).1, x < 256) ∧ ∀ x ∈ (textT s most).2.1, x < 256 := by
  have h1 := numT_lt h 0 most
  unfold textT
  generalize numT s 0 most = r at h1
  simp only
  split
  · exact ⟨by simp, h1⟩
  · split
    · exact ⟨by simp, h1⟩
    · exact ⟨fun x hx => h1 x (List.mem_of_mem_take hx), fun x hx => h1 x (List.mem_of_mem_drop hx)⟩
theorem rtextT_lt {s : List Nat × Bool} (h : ∀ b ∈ s.1, b < 256) (most : Int) : (∀ x ∈ (rtextT s most).1, x < 256) ∧ ∀ x ∈ (rtextT s most).2.1, x < 256 := by
  have h1 := numT_lt h 0 (if (s.1.length : Int) < most then s.1.length else most)
  unfold rtextT
  generalize numT s 0 (if (s.1.length : Int) < most then s.1.length else most) = r at h1
  simp only
  split
  · exact ⟨by simp, h1⟩
  · exact ⟨fun x hx => h1 x (List.mem_of_mem_take hx), fun x hx => h1 x (List.mem_of_mem_drop hx)⟩

/-- What was put as a number's cell is taken. -/
theorem numT_put (n : Int) (hn : I64 n) (rest : List Nat) {a b : Int} (h1 : a ≤ n) (h2 : n ≤ b) : numT (numB n ++ rest, false) a b = (n, (rest, false)) := by
  rw [numT_in rfl (firstN_num n hn rest) h1 h2]
  simp
theorem textT_put (s rest : List Nat) {most : Int} (h1 : (s.length : Int) ≤ most) (h2 : s.length ≤ 9223372036854775807) : textT (textB s ++ rest, false) most = (s, (rest, false)) := by
  unfold textT textB
  rw [List.append_assoc, numT_put _ ⟨by omega, by omega⟩ _ (by omega) h1]
  simp only
  rw [if_neg (by simp), if_neg (by simp; omega)]
  simp
theorem flagT_put (b : Bool) (rest : List Nat) : flagT (flagB b ++ rest, false) = (b, (rest, false)) := by
  unfold flagT flagB
  rw [numT_put _ (by unfold I64; split <;> omega) _ (by split <;> omega) (by split <;> omega)]
  cases b <;> rfl
end Go.Proofs.Ytjgdcdojigcefaa
