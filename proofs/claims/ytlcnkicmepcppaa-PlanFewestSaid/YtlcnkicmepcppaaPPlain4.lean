/- The reference's fewest is plan's. -/
import Derived.Test.YtlcnkicmepcppaaPPlain3
namespace Go.Proofs.Ytlcnkicmepcppaa
open Go.RowKit

theorem leftD_nil {want : List It} {s : ByteArray → Int} : leftD want s = [] ↔ ∀ x ∈ want, x.n ≤ s x.good := by
  constructor
  · intro h x hx
    have h1 : cutF s x = none := by
      cases e : cutF s x with
      | none => rfl
      | some y =>
        exfalso
        have : y ∈ leftD want s := List.mem_filterMap.2 ⟨x, hx, e⟩
        rw [h] at this
        cases this
    unfold cutF at h1
    split at h1
    · cases h1
    · omega
  · intro h
    exact fm_none fun x hx => by unfold cutF; rw [if_neg]; have := h x hx; omega
theorem pick_sum {offers : List (List It)} (h : ∀ o ∈ offers, mayI o = true) (p : Nat → Bool) (g : ByteArray) : ∀ m, m ≤ offers.length → sumO (pickL offers ((List.range m).filter p)) g ≤ sumO (offers.take m) g
  | 0, _ => by simp [pickL]
  | m + 1, hm => by
    have ih := pick_sum h p g m (by omega)
    have hml : m < offers.length := by omega
    have ho := (ofI_bd g (ok_of (h _ (List.getElem_mem hml)))).1
    rw [List.range_succ, List.filter_append, List.take_succ_eq_append_getElem hml]
    have e1 : sumO [offers[m]] g = ofI offers[m] g := by simp [sumO]
    rw [sumO_append, e1]
    cases hp : p m
    · have e2 : [m].filter p = [] := by simp [hp]
      rw [e2, List.append_nil]
      omega
    · have e2 : [m].filter p = [m] := by simp [hp]
      have e3 : pickL offers ((List.range m).filter p ++ [m]) = pickL offers ((List.range m).filter p) ++ [offers[m]] := by
        unfold pickL
        rw [List.map_append]
        simp [hml]
      rw [e2, e3, sumO_append, e1]
      omega
theorem places_cut {c m : Nat} (hm : m ≤ 8) (hc : c < 2 ^ m) : placesK c 8 = placesK c m := by
  have : ∀ d, m + d ≤ 8 → placesK c (m + d) = placesK c m := by
    intro d
    induction d with
    | zero => intro _; rfl
    | succ d ih =>
      intro hd
      rw [show m + (d + 1) = (m + d) + 1 by omega, placesK_succ, ih (by omega), if_neg]
      rw [Nat.testBit_lt_two_pow (Nat.lt_of_lt_of_le hc (Nat.pow_le_pow_right (by omega) (by omega)))]
      simp
  have h := this (8 - m) (by omega)
  rwa [show m + (8 - m) = 8 by omega] at h
theorem few_same {want : List It} {offers : List (List It)} (hw : want ≠ []) (h : mayP want offers = true) : xfewK want offers (2 ^ offers.length) = fewP want offers := by
  obtain ⟨h1, h8, h3⟩ := mayP_parts h
  have hp1 := Nat.one_le_two_pow (n := offers.length)
  by_cases he : enoughR want offers = true
  · have e1 : fewP want offers = fewK want offers (2 ^ offers.length) := by
      unfold fewP
      rw [if_neg]
      simp [hw, he]
    rw [e1]
    rcases sim hw h _ (Nat.le_refl _) with ⟨_, _, s3⟩ | ⟨s1, _⟩
    · exfalso
      have e2 := s3 (2 ^ offers.length - 1) (by omega)
      rw [full_at ⟨offers.length, by omega⟩] at e2
      apply e2
      have e3 : pickL offers (List.range offers.length) = offers := by
        apply List.ext_getElem
        · simp [pickL]
        · intro i k1 k2
          simp [pickL, k2]
      simp only
      rw [e3]
      exact (enoughR_iff.1 he).2
    · exact s1
  · have e1 : fewP want offers = [] := by
      unfold fewP
      rw [if_pos (.inr (by simpa using he))]
    rw [e1]
    have hno : ∀ c, c < 2 ^ offers.length → leftP want (pickL offers (placesK c 8)) ≠ [] := fun c hc e => he (by
      refine enoughR_iff.2 ⟨h, ?_⟩
      rw [leftP_eq h1 h3, leftD_nil]
      rw [leftP_eq h1 (mayP_parts (pick_may h hc)).2.2, leftD_nil] at e
      intro x hx
      have k1 := e x hx
      have k2 := pick_sum h3 (fun i => c.testBit i) x.good offers.length (Nat.le_refl _)
      rw [List.take_length] at k2
      rw [places_cut h8 hc] at k1
      unfold placesK at k1
      omega)
    have : ∀ k, k ≤ 2 ^ offers.length → xfewK want offers k = [] := by
      intro k
      induction k with
      | zero => intro _; rfl
      | succ k ih =>
        intro hk
        rw [xfewK_succ, ih (by omega)]
        unfold xfewStep
        rw [if_pos (hno k (by omega))]
    exact this _ (Nat.le_refl _)
end Go.Proofs.Ytlcnkicmepcppaa
