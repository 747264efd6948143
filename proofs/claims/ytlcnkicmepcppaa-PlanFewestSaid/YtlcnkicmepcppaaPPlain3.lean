/- The reference's fewest and plan's are the same. -/
import Derived.Test.YtlcnkicmepcppaaPPlain2
namespace Go.Proofs.Ytlcnkicmepcppaa
open Go.RowKit

def xfewStep (want : List It) (offers : List (List It)) (best : List Nat) (c : Nat) : List Nat :=
  if leftP want (pickL offers (placesK c 8)) ≠ [] then best
  else if best.length = 0 ∨ (placesK c 8).length < best.length ∨ ((placesK c 8).length = best.length ∧ cmpL (intsN (placesK c 8)) (intsN best) < 0) then placesK c 8 else best
def xfewK (want : List It) (offers : List (List It)) (k : Nat) : List Nat := (List.range k).foldl (xfewStep want offers) []
theorem xfewK_succ (want : List It) (offers : List (List It)) (k : Nat) : xfewK want offers (k + 1) = xfewStep want offers (xfewK want offers k) k := by
  unfold xfewK
  rw [List.range_succ, List.foldl_append]
  rfl
theorem cmpL_self : ∀ l : List Int, cmpL l l = 0
  | [] => rfl
  | x :: l => by
    have e : cmpI x x = 0 := by unfold cmpI; simp
    show (if cmpI x x ≠ 0 then cmpI x x else cmpL l l) = 0
    rw [e, if_neg (by simp), cmpL_self l]
theorem full_at : ∀ m : Fin 9, placesK (2 ^ m.val - 1) 8 = List.range m.val := by decide +kernel
theorem full_all : ∀ m : Fin 9, ∀ c : Fin 256, c.val < 2 ^ m.val → (placesK c.val 8).length ≤ m.val ∧ ((placesK c.val 8).length = m.val → placesK c.val 8 = List.range m.val) := by decide +kernel
theorem pick_may {want : List It} {offers : List (List It)} {c : Nat} (h : mayP want offers = true) (hc : c < 2 ^ offers.length) : mayP want (pickL offers (placesK c 8)) = true := by
  obtain ⟨h1, _, h3⟩ := mayP_parts h
  refine mayP_of h1 (by unfold pickL; rw [List.length_map]; exact placesK_len c 8) fun o ho => ?_
  unfold pickL at ho
  obtain ⟨i, hi, rfl⟩ := List.mem_map.1 ho
  have hio := placesK_lt hc hi
  rw [List.getD_eq_getElem?_getD, List.getElem?_eq_getElem hio]
  exact h3 _ (List.getElem_mem hio)
theorem pick_enough {want : List It} {offers : List (List It)} {c : Nat} (h : mayP want offers = true) (hc : c < 2 ^ offers.length) : enoughR want (pickL offers (placesK c 8)) = true ↔ leftP want (pickL offers (placesK c 8)) = [] := by
  rw [enoughR_iff]
  exact ⟨fun h => h.2, fun h2 => ⟨pick_may h hc, h2⟩⟩
theorem sim {want : List It} {offers : List (List It)} (hw : want ≠ []) (h : mayP want offers = true) : ∀ k, k ≤ 2 ^ offers.length →
    (xfewK want offers k = [] ∧ fewK want offers k = List.range offers.length ∧ ∀ c, c < k → leftP want (pickL offers (placesK c 8)) ≠ []) ∨ (xfewK want offers k = fewK want offers k ∧ xfewK want offers k ≠ [])
  | 0, _ => by
    left
    have h8 := (mayP_parts h).2.1
    exact ⟨rfl, full_at ⟨offers.length, by omega⟩, fun c hc => absurd hc (by omega)⟩
  | k + 1, hk => by
    have h8 := (mayP_parts h).2.1
    have hkm : k < 2 ^ offers.length := by omega
    have hk256 : k < 256 := Nat.lt_of_lt_of_le hkm (Nat.pow_le_pow_right (by omega) h8)
    obtain ⟨f1, f2⟩ := full_all ⟨offers.length, by omega⟩ ⟨k, hk256⟩ hkm
    simp only at f1 f2
    rw [xfewK_succ, fewK_succ]
    unfold xfewStep fewStep
    have hpe := pick_enough h hkm
    by_cases he : leftP want (pickL offers (placesK k 8)) = []
    · have hen := hpe.2 he
      have hne : placesK k 8 ≠ [] := fun e0 => by
        rw [e0] at he
        exact hw he
      rw [if_neg (by simpa using he)]
      rcases sim hw h k (by omega) with ⟨s1, s2, _⟩ | ⟨s1, s2⟩
      · right
        rw [s1, s2, if_pos (.inl rfl)]
        rw [List.length_range]
        by_cases hl : (placesK k 8).length = offers.length
        · rw [if_pos (.inr ⟨hl, by rw [f2 hl, cmpL_self]; exact Int.le_refl _⟩)]
          exact ⟨f2 hl, hne⟩
        · rw [if_neg (by omega), if_pos hen]
          exact ⟨rfl, hne⟩
      · right
        have s3 : (fewK want offers k).length ≠ 0 := by rw [← s1]; simpa using s2
        rw [s1]
        by_cases hb : (fewK want offers k).length < (placesK k 8).length ∨ ((placesK k 8).length = (fewK want offers k).length ∧ 0 ≤ cmpL (intsN (placesK k 8)) (intsN (fewK want offers k)))
        · rw [if_pos hb, if_neg (by omega)]
          exact ⟨rfl, by rw [← s1]; exact s2⟩
        · rw [if_neg hb, if_pos hen, if_pos (by omega)]
          exact ⟨rfl, hne⟩
    · have hen : ¬ enoughR want (pickL offers (placesK k 8)) = true := fun e => he (hpe.1 e)
      rw [if_pos (by simpa using he)]
      have e2 : (if (fewK want offers k).length < (placesK k 8).length ∨ ((placesK k 8).length = (fewK want offers k).length ∧ 0 ≤ cmpL (intsN (placesK k 8)) (intsN (fewK want offers k))) then fewK want offers k else if enoughR want (pickL offers (placesK k 8)) then placesK k 8 else fewK want offers k) = fewK want offers k := by
        split
        · rfl
        · first | rfl | rw [if_neg hen]
      rw [e2]
      rcases sim hw h k (by omega) with ⟨s1, s2, s3⟩ | ⟨s1, s2⟩
      · left
        refine ⟨s1, s2, fun c hc => ?_⟩
        by_cases e : c = k
        · subst e; exact he
        · exact s3 c (by omega)
      · right
        exact ⟨s1, s2⟩
end Go.Proofs.Ytlcnkicmepcppaa
