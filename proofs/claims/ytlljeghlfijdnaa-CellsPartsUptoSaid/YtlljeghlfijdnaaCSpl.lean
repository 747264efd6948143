/- Cells, split: the plain law. Bytes are texts' cells in one way at the most. -/
import Derived.Test.YtlljeghlfijdnaaCJoin
namespace Go.Proofs.Ytlljeghlfijdnaa
open Go.RowKit

/-- No text's cell opens the bytes. -/
def BadB (r : List Nat) : Prop := r ≠ [] ∧ (firstN r = none ∨ ∃ n k, firstN r = some (n, k) ∧ (n < 0 ∨ (r.length : Int) - k < n))
theorem joinB_nil : joinB [] = [] := rfl
theorem joinB_cons (x : List Nat) (l : List (List Nat)) : joinB (x :: l) = numB x.length ++ (x ++ joinB l) := by
  unfold joinB cellB
  simp [List.append_assoc]
theorem joinB_one (xs : List (List Nat)) (x : List Nat) : joinB (xs ++ [x]) = joinB xs ++ (numB x.length ++ x) := by
  unfold joinB cellB
  simp
/-- What a cell of a text says at the front of bytes. -/
theorem firstN_cell (x r : List Nat) (h : x.length ≤ 9223372036854775807) : firstN (numB x.length ++ (x ++ r)) = some ((x.length : Int), (numB (x.length : Int)).length) :=
  firstN_num _ (by unfold I64; omega) _
theorem numB_ne (n : Int) (r : List Nat) : numB n ++ r ≠ [] := by
  intro h
  have h1 := (numB_length n).1
  have h2 := congrArg List.length h
  rw [List.length_append, List.length_nil] at h2
  omega
/-- One way only. -/
theorem joinB_one_way (xs ys : List (List Nat)) (r : List Nat) (hx : ∀ x ∈ xs, x.length ≤ 9223372036854775807) (hy : ∀ x ∈ ys, x.length ≤ 9223372036854775807) (hr : r = [] ∨ BadB r) (h : joinB xs = joinB ys ++ r) : xs = ys ∧ r = [] := by
  induction xs generalizing ys with
  | nil =>
    rw [joinB_nil] at h
    obtain ⟨h1, h2⟩ := List.append_eq_nil_iff.1 h.symm
    refine ⟨?_, h2⟩
    cases ys with
    | nil => rfl
    | cons y ys => rw [joinB_cons] at h1; exact absurd h1 (numB_ne _ _)
  | cons x xs ih =>
    rw [joinB_cons] at h
    have hxl := hx x (by simp)
    cases ys with
    | nil =>
      rw [joinB_nil, List.nil_append] at h
      have hf := firstN_cell x (joinB xs) hxl
      rw [h] at hf
      rcases hr with hr | ⟨_, hr⟩
      · rw [hr] at h; exact absurd h (numB_ne _ _)
      · rcases hr with hr | ⟨n, k, hr, hbad⟩
        · rw [hr] at hf; cases hf
        · rw [hr] at hf
          injection hf with hf
          injection hf with e1 e2
          have hl := congrArg List.length h
          simp only [List.length_append] at hl
          rw [e1, e2] at hbad
          omega
    | cons y ys =>
      rw [joinB_cons] at h
      have hyl := hy y (by simp)
      have h' : numB x.length ++ (x ++ joinB xs) = numB y.length ++ (y ++ (joinB ys ++ r)) := by rw [h]; simp [List.append_assoc]
      have hf := firstN_cell x (joinB xs) hxl
      rw [h', firstN_cell y _ hyl] at hf
      injection hf with hf
      injection hf with e1 _
      have e2 : y.length = x.length := by omega
      rw [e2] at h'
      have h2 := List.append_cancel_left h'
      have h3 := List.append_inj h2 e2.symm
      obtain ⟨e3, e4⟩ := h3
      obtain ⟨e5, e6⟩ := ih ys (fun z hz => hx z (by simp [hz])) (fun z hz => hy z (by simp [hz])) e4
      exact ⟨by rw [e3, e5], e6⟩
/-- A round of a split: one text is cut off. -/
theorem split_step {r : List Nat} (hb : ∀ b ∈ r, b < 256) {n : Int} {k : Nat} (hf : firstN r = some (n, k)) (h0 : 0 ≤ n) (h1 : n ≤ (r.length : Int) - k) :
    1 ≤ k ∧ k + n.toNat ≤ r.length ∧ ((r.drop k).take n.toNat).length = n.toNat ∧ numB (n.toNat : Int) ++ (r.drop k).take n.toNat ++ r.drop (k + n.toNat) = r := by
  obtain ⟨_, h2, h3, h4⟩ := firstN_some hb hf
  have hn : ((n.toNat : Nat) : Int) = n := by omega
  have hl : ((r.drop k).take n.toNat).length = n.toNat := by rw [List.length_take, List.length_drop]; omega
  refine ⟨h3, by omega, hl, ?_⟩
  rw [hn, h2, ← List.drop_drop, List.append_assoc, List.take_append_drop, List.take_append_drop]
end Go.Proofs.Ytlljeghlfijdnaa
