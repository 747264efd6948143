/- One more offer: what is left is not more, the fewest are not more. -/
import Derived.Test.YtlcnkicmepcppaaPPlain
import Derived.Test.YtlcnkicmepcppaaPFew
namespace Go.Proofs.Ytlcnkicmepcppaa
open Go.RowKit

theorem fm_none {α β : Type} {f : α → Option β} : ∀ {l : List α}, (∀ x ∈ l, f x = none) → l.filterMap f = []
  | [], _ => rfl
  | x :: l, h => by rw [List.filterMap_cons, h x (by simp)]; simp only; exact fm_none (fun y hy => h y (by simp [hy]))
theorem ofI_self : ∀ {l : List It}, l.Pairwise (fun a b => ltS a.good b.good = true) → ∀ x ∈ l, ofI l x.good = x.n
  | [], _, x, hx => by simp at hx
  | y :: l, h, x, hx => by
    rw [List.pairwise_cons] at h
    rcases List.mem_cons.1 hx with rfl | hx
    · have h0 : ofI l x.good = 0 := ofI_none fun z hz e => by
        have := h.1 z hz
        rw [e, ltS_irrefl] at this
        cases this
      simp [ofI, h0]
    · have hne : (y.good.toList == x.good.toList) = false := by
        rw [beq_eq_false_iff_ne]
        intro e
        have := h.1 x hx
        rw [toList_inj e, ltS_irrefl] at this
        cases this
      simp only [ofI, hne]
      rw [ofI_self h.2 x hx]
      simp
theorem rest_left {a : List It} {s : ByteArray → Int} (ha : mayI a = true) (hs : ∀ g, 0 ≤ s g) : restI (leftD a s) a = [] := by
  unfold restI
  rw [eachI_fm]
  apply fm_none
  intro y hy
  unfold leftD at hy
  obtain ⟨x, hx, e⟩ := List.mem_filterMap.1 hy
  unfold cutF at e
  split at e
  · injection e with e
    subst e
    have h1 := ofI_self (mayI_iff.1 ha).2.1 x hx
    have h2 := hs x.good
    rw [if_neg]
    simp only
    rw [h1]
    omega
  · cases e
theorem rest_more {want more : List It} {offers : List (List It)} (h : mayI want = true) (hl : ∀ o ∈ offers, mayI o = true) (hm : mayI more = true) : restI (leftP want (offers ++ [more])) (leftP want offers) = [] := by
  have ha := leftP_may h hl
  rw [leftP_snoc, rest_meet ha hm]
  exact rest_left ha (fun g => (ofI_bd g (ok_of hm)).1)
theorem mayP_parts {want : List It} {offers : List (List It)} (h : mayP want offers = true) : mayI want = true ∧ offers.length ≤ 8 ∧ ∀ o ∈ offers, mayI o = true := by
  unfold mayP at h
  simp only [Bool.and_eq_true, decide_eq_true_eq] at h
  exact ⟨h.1.1, h.1.2, fun o ho => List.all_eq_true.1 h.2 o ho⟩
theorem mayP_of {want : List It} {offers : List (List It)} (h1 : mayI want = true) (h2 : offers.length ≤ 8) (h3 : ∀ o ∈ offers, mayI o = true) : mayP want offers = true := by
  unfold mayP
  rw [h1, decide_eq_true h2, List.all_eq_true.2 h3]
  rfl
theorem enoughR_iff {want : List It} {offers : List (List It)} : enoughR want offers = true ↔ mayP want offers = true ∧ leftP want offers = [] := by
  unfold enoughR splitR
  cases h : mayP want offers <;> simp [List.length_eq_zero_iff]
theorem enough_more {want more : List It} {offers : List (List It)} (h : mayP want (offers ++ [more]) = true) (he : enoughR want offers = true) : enoughR want (offers ++ [more]) = true := by
  rw [enoughR_iff] at he ⊢
  refine ⟨h, ?_⟩
  rw [leftP_snoc, he.2]
  rfl
/-- The fewest, between two choices: a choice that is enough, and none behind is shorter. -/
theorem fewK_inv {want : List It} {offers : List (List It)} (he : enoughR want offers = true) : ∀ k, k ≤ 2 ^ offers.length → (∃ c, c < 2 ^ offers.length ∧ fewK want offers k = placesK c 8 ∧ enoughR want (pickL offers (placesK c 8)) = true) ∧
    ∀ c, c < k → enoughR want (pickL offers (placesK c 8)) = true → (fewK want offers k).length ≤ (placesK c 8).length
  | 0, _ => by
    refine ⟨⟨2 ^ offers.length - 1, ?_, rfl, ?_⟩, fun c hc => absurd hc (by omega)⟩
    · have := Nat.one_le_two_pow (n := offers.length); omega
    · have h8 := (mayP_parts (enoughR_iff.1 he).1).2.1
      have e1 : placesK (2 ^ offers.length - 1) 8 = List.range offers.length := by
        obtain ⟨m, hm⟩ : ∃ m, offers.length = m := ⟨_, rfl⟩
        rw [hm] at h8 ⊢
        have : ∀ m : Fin 9, placesK (2 ^ m.val - 1) 8 = List.range m.val := by decide +kernel
        exact this ⟨m, by omega⟩
      have e2 : pickL offers (List.range offers.length) = offers := by
        apply List.ext_getElem
        · simp [pickL]
        · intro i h1 h2
          simp [pickL, h2]
      rw [e1, e2]
      exact he
  | k + 1, hk => by
    obtain ⟨⟨c0, h1, h2, h3⟩, h4⟩ := fewK_inv he k (by omega)
    rw [fewK_succ]
    unfold fewStep
    split
    · rename_i hc
      refine ⟨⟨c0, h1, h2, h3⟩, fun c hck hec => ?_⟩
      by_cases e : c = k
      · subst e; omega
      · exact h4 c (by omega) hec
    · rename_i hc
      split
      · rename_i hen
        refine ⟨⟨k, by omega, rfl, hen⟩, fun c hck hec => ?_⟩
        by_cases e : c = k
        · subst e; omega
        · have := h4 c (by omega) hec; omega
      · rename_i hen
        refine ⟨⟨c0, h1, h2, h3⟩, fun c hck hec => ?_⟩
        by_cases e : c = k
        · subst e; exact absurd hec hen
        · exact h4 c (by omega) hec
theorem fewer {want more : List It} {offers : List (List It)} (h : mayP want (offers ++ [more]) = true) : (fewP want offers).length = 0 ∨ (0 < (fewP want (offers ++ [more])).length ∧ (fewP want (offers ++ [more])).length ≤ (fewP want offers).length) := by
  by_cases hw : want.length = 0
  · left
    unfold fewP
    rw [if_pos (.inl hw)]
    rfl
  by_cases he : enoughR want offers = true
  · right
    have he2 := enough_more h he
    have e1 : fewP want offers = fewK want offers (2 ^ offers.length) := by unfold fewP; rw [if_neg]; simp [hw, he]
    have e2 : fewP want (offers ++ [more]) = fewK want (offers ++ [more]) (2 ^ (offers ++ [more]).length) := by unfold fewP; rw [if_neg]; simp [hw, he2]
    obtain ⟨⟨c, h1, h2, h3⟩, _⟩ := fewK_inv he (2 ^ offers.length) (Nat.le_refl _)
    obtain ⟨⟨d, k1, k2, k3⟩, k4⟩ := fewK_inv he2 (2 ^ (offers ++ [more]).length) (Nat.le_refl _)
    rw [e1, e2]
    constructor
    · rw [k2]
      rcases Nat.eq_zero_or_pos (placesK d 8).length with h0 | h0
      · exfalso
        rw [List.length_eq_zero_iff.1 h0] at k3
        have := (enoughR_iff.1 k3).2
        simp only [pickL, List.map_nil, leftP] at this
        rw [this] at hw
        exact hw rfl
      · exact h0
    · rw [h2]
      have hp : pickL (offers ++ [more]) (placesK c 8) = pickL offers (placesK c 8) := by
        unfold pickL
        apply List.map_congr_left
        intro i hi
        have := placesK_lt h1 hi
        simp [List.getD_eq_getElem?_getD, List.getElem?_append_left this]
      refine k4 c ?_ (by rw [hp]; exact h3)
      have : (offers ++ [more]).length = offers.length + 1 := by simp
      rw [this, Nat.pow_succ]
      omega
  · left
    unfold fewP
    rw [if_pos (.inr (by simpa using he))]
    rfl
end Go.Proofs.Ytlcnkicmepcppaa
