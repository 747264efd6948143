/- What is given and what is left, put together, is the want. -/
import Derived.Test.YtlcnkicmepcppaaPPlain2
namespace Go.Proofs.Ytlcnkicmepcppaa
open Go.RowKit

/-- A good's number put into a list whose goods rise. -/
def putP (g : ByteArray) (n : Int) : List It → List It
  | [] => [⟨g, n⟩]
  | x :: l => if ltS x.good g then x :: putP g n l else if x.good.toList == g.toList then ⟨g, n⟩ :: l else ⟨g, n⟩ :: x :: l
/-- The sums of all goods of a list. -/
def normK (L : List It) (k : Nat) : List It := (L.take k).foldl (fun out x => putP x.good (ofI L x.good) out) []
theorem normK_zero (L : List It) : normK L 0 = [] := rfl
theorem normK_succ {L : List It} {k : Nat} (h : k < L.length) : normK L (k + 1) = putP L[k].good (ofI L L[k].good) (normK L k) := by
  unfold normK
  rw [List.take_succ_eq_append_getElem h, List.foldl_append]
  rfl
theorem putP_low {g : ByteArray} {n : Int} : ∀ {l : List It}, (∀ x ∈ l, ltS g x.good = true) → putP g n l = ⟨g, n⟩ :: l
  | [], _ => rfl
  | x :: l, h => by
    have h1 := h x (by simp)
    have h2 : ltS x.good g = false := by
      by_cases h2 : ltS x.good g = true
      · have := ltS_trans h1 h2; rw [ltS_irrefl] at this; cases this
      · simpa using h2
    have h3 : (x.good.toList == g.toList) = false := by
      rw [beq_eq_false_iff_ne]
      intro e
      rw [toList_inj e, ltS_irrefl] at h1
      cases h1
    simp only [putP, h2, h3]
    rfl
theorem put_filter (p : It → Bool) {g : ByteArray} {n : Int} : ∀ {l : List It}, l.Pairwise (fun a b => ltS a.good b.good = true) → (⟨g, n⟩ : It) ∈ l → putP g n (l.filter p) = l.filter (fun y => p y || y.good.toList == g.toList)
  | [], _, h => by simp at h
  | y :: l, hp, h => by
    rw [List.pairwise_cons] at hp
    rcases List.mem_cons.1 h with rfl | h
    · have h0 : l.filter (fun y => p y || y.good.toList == g.toList) = l.filter p := by
        apply List.filter_congr
        intro x hx
        have h1 := hp.1 x hx
        have h3 : (x.good.toList == g.toList) = false := by
          rw [beq_eq_false_iff_ne]
          intro e
          simp only [toList_inj e] at h1
          rw [ltS_irrefl] at h1
          cases h1
        rw [h3, Bool.or_false]
      have hr : ∀ x ∈ l.filter p, ltS g x.good = true := fun x hx => hp.1 x (List.mem_filter.1 hx).1
      rw [List.filter_cons, List.filter_cons, h0]
      simp only [beq_self_eq_true, Bool.or_true, if_true]
      by_cases hy : p ⟨g, n⟩ = true
      · rw [if_pos hy]
        simp only [putP, ltS_irrefl, beq_self_eq_true]
        rfl
      · rw [if_neg hy]
        exact putP_low hr
    · have h1 : ltS y.good g = true := hp.1 _ h
      have h3 : (y.good.toList == g.toList) = false := by
        rw [beq_eq_false_iff_ne]
        intro e
        rw [toList_inj e, ltS_irrefl] at h1
        cases h1
      have ih := put_filter p hp.2 h
      rw [List.filter_cons, List.filter_cons]
      simp only [h3, Bool.or_false]
      by_cases hy : p y = true
      · rw [if_pos hy, if_pos hy]
        simp only [putP, h1, if_true]
        rw [ih]
      · rw [if_neg hy, if_neg hy]
        exact ih
/-- Where each good of L is one of the want's and L's sums are the want's: behind k items, the want's goods so far. -/
theorem normK_eq {L want : List It} (hw : mayI want = true) (hL : ∀ x ∈ L, ∃ y ∈ want, x.good = y.good) (hs : ∀ y ∈ want, ofI L y.good = y.n) : ∀ k, k ≤ L.length → normK L k = want.filter (fun y => (L.take k).any fun x => y.good.toList == x.good.toList)
  | 0, _ => by
    rw [normK_zero]
    simp
  | k + 1, h => by
    have hk : k < L.length := by omega
    obtain ⟨y, hy, e⟩ := hL L[k] (List.getElem_mem hk)
    have ih := normK_eq hw hL hs k (by omega)
    rw [normK_succ hk, ih, e, hs y hy]
    have h2 := put_filter (g := y.good) (n := y.n) (fun y => (L.take k).any fun x => y.good.toList == x.good.toList) (mayI_iff.1 hw).2.1 hy
    rw [h2]
    apply List.filter_congr
    intro z _
    rw [List.take_succ_eq_append_getElem hk, List.any_append, e.symm]
    simp
theorem normK_len {L want : List It} (hw : mayI want = true) (hL : ∀ x ∈ L, ∃ y ∈ want, x.good = y.good) (hs : ∀ y ∈ want, ofI L y.good = y.n) (k : Nat) (hk : k ≤ L.length) : (normK L k).length ≤ 16 := by
  rw [normK_eq hw hL hs k hk]
  exact Nat.le_trans (List.length_filter_le ..) (mayI_at hw).1
theorem normK_all {L want : List It} (hw : mayI want = true) (hL : ∀ x ∈ L, ∃ y ∈ want, x.good = y.good) (hs : ∀ y ∈ want, ofI L y.good = y.n) : normK L L.length = want := by
  rw [normK_eq hw hL hs _ (Nat.le_refl _), List.take_length]
  rw [List.filter_eq_self]
  intro y hy
  have h1 := (ok_of hw y hy).1
  have h2 := hs y hy
  by_cases h : (L.any fun x => y.good.toList == x.good.toList) = true
  · exact h
  · exfalso
    have h0 : ofI L y.good = 0 := ofI_none fun z hz e => h (List.any_eq_true.2 ⟨z, hz, by rw [e]; simp⟩)
    omega
theorem ofI_append (a b : List It) (g : ByteArray) : ofI (a ++ b) g = ofI a g + ofI b g := by
  induction a with
  | nil => simp [ofI]
  | cons x a ih => simp only [List.cons_append, ofI]; rw [ih]; omega
/-- What is left and all that is given, in one list. -/
def allP (want : List It) (offers : List (List It)) : List It := leftP want offers ++ (gotsP want offers).flatten
theorem meet_rest {want o : List It} (hw : mayI want = true) (ho : mayI o = true) : ∀ y ∈ want, ofI (meetI want o) y.good + ofI (restI want (meetI want o)) y.good = y.n := fun y hy => by
  have h2 := (mayI_iff.1 hw).2.1
  have h3 : ofI (meetI want o) y.good = _ := ofI_each h2 y hy
  have h3' : ofI (restI want (meetI want o)) y.good = _ := ofI_each h2 y hy
  have h4 := (ofI_bd y.good (ok_of ho)).1
  have h5 := (ok_of hw y hy).1
  rw [h3', h3]
  obtain ⟨s, hs⟩ : ∃ s, ofI o y.good = s := ⟨_, rfl⟩
  rw [hs] at h4 ⊢
  split <;> split <;> omega
theorem each_good {f : Int → Int → Int} {b a : List It} : ∀ x ∈ eachI f b a, ∃ y ∈ a, x.good = y.good := fun x hx => by
  obtain ⟨y, hy, e, _⟩ := eachI_mem hx
  exact ⟨y, hy, e⟩
theorem allP_good : ∀ {offers : List (List It)} {want : List It}, ∀ x ∈ allP want offers, ∃ y ∈ want, x.good = y.good
  | [], want, x, hx => by
    unfold allP leftP gotsP at hx
    exact ⟨x, by simpa using hx, rfl⟩
  | o :: l, want, x, hx => by
    unfold allP at hx
    simp only [leftP, gotsP, List.flatten_cons, List.mem_append] at hx
    have key : x ∈ meetI want o ∨ x ∈ allP (restI want (meetI want o)) l := by
      unfold allP
      rw [List.mem_append]
      rcases hx with h | h | h
      · exact .inr (.inl h)
      · exact .inl h
      · exact .inr (.inr h)
    rcases key with h | h
    · exact each_good x h
    · obtain ⟨z, hz, e⟩ := allP_good x h
      obtain ⟨y, hy, e2⟩ := each_good z hz
      exact ⟨y, hy, e.trans e2⟩
theorem allP_sum : ∀ {offers : List (List It)} {want : List It}, mayI want = true → (∀ o ∈ offers, mayI o = true) → ∀ g, ofI (allP want offers) g = ofI want g
  | [], want, _, _, g => by unfold allP leftP gotsP; simp
  | o :: l, want, h, hl, g => by
    have ho := hl o (by simp)
    have hm := meetI_may h ho
    have hr := restI_may h hm
    have ih := allP_sum (offers := l) hr (fun x hx => hl x (by simp [hx])) g
    unfold allP at ih ⊢
    simp only [leftP, gotsP, List.flatten_cons]
    rw [ofI_append] at ih ⊢
    rw [ofI_append]
    have key : ofI (meetI want o) g + ofI (restI want (meetI want o)) g = ofI want g := by
      by_cases hg : ∃ y ∈ want, y.good = g
      · obtain ⟨y, hy, rfl⟩ := hg
        rw [meet_rest h ho y hy, ofI_self (mayI_iff.1 h).2.1 y hy]
      · have hn : ∀ z ∈ want, z.good ≠ g := fun z hz e => hg ⟨z, hz, e⟩
        rw [ofI_none hn, ofI_none (l := meetI want o) (fun z hz e => by
          obtain ⟨y, hy, e2⟩ := each_good z hz
          exact hn y hy (e2.symm.trans e)), ofI_none (l := restI want (meetI want o)) (fun z hz e => by
          obtain ⟨y, hy, e2⟩ := each_good z hz
          exact hn y hy (e2.symm.trans e))]
        rfl
    omega
theorem allP_norm {offers : List (List It)} {want : List It} (h : mayI want = true) (hl : ∀ o ∈ offers, mayI o = true) :
    (∀ k, k ≤ (allP want offers).length → (normK (allP want offers) k).length ≤ 16) ∧ normK (allP want offers) (allP want offers).length = want := by
  have h1 : ∀ x ∈ allP want offers, ∃ y ∈ want, x.good = y.good := allP_good
  have h2 : ∀ y ∈ want, ofI (allP want offers) y.good = y.n := fun y hy => by rw [allP_sum h hl, ofI_self (mayI_iff.1 h).2.1 y hy]
  exact ⟨fun k hk => normK_len h h1 h2 k hk, normK_all h h1 h2⟩
theorem allP_may {offers : List (List It)} {want : List It} (h : mayI want = true) (hl : ∀ o ∈ offers, mayI o = true) : ∀ x ∈ allP want offers, okItem x = true := fun x hx => by
  unfold allP at hx
  rw [List.mem_append, List.mem_flatten] at hx
  rcases hx with hx | ⟨g, hg, hx⟩
  · exact (mayI_iff.1 (leftP_may h hl)).1 x hx
  · exact (mayI_iff.1 (gotsP_may h hl g hg)).1 x hx
theorem allP_ofI {offers : List (List It)} {want : List It} (h : mayI want = true) (hl : ∀ o ∈ offers, mayI o = true) (g : ByteArray) : ofI (allP want offers) g ≤ 1099511627776 := by
  rw [allP_sum h hl]
  by_cases hg : ∃ y ∈ want, y.good = g
  · obtain ⟨y, hy, rfl⟩ := hg
    rw [ofI_self (mayI_iff.1 h).2.1 y hy]
    exact (ok_of h y hy).2
  · rw [ofI_none (fun z hz e => hg ⟨z, hz, e⟩)]
    omega
/-- Nobody gives more than was offered. -/
theorem rest_meet_nil {want o : List It} : restI (meetI want o) o = [] := by
  unfold restI
  rw [eachI_fm]
  apply fm_none
  intro y hy
  obtain ⟨x, hx, e1, e2, e3⟩ := eachI_mem hy
  rw [if_neg]
  rw [e1, e2]
  omega
theorem gots_rest : ∀ {offers : List (List It)} {want : List It}, mayI want = true → (∀ o ∈ offers, mayI o = true) → ∀ (k : Nat) (h : k < (gotsP want offers).length) (h2 : k < offers.length), restI (gotsP want offers)[k] offers[k] = []
  | [], _, _, _, k, _, h2 => by simp at h2
  | o :: l, want, h, hl, 0, _, _ => rest_meet_nil
  | o :: l, want, h, hl, k + 1, h1, h2 => by
    have ho := hl o (by simp)
    exact gots_rest (offers := l) (restI_may h (meetI_may h ho)) (fun x hx => hl x (by simp [hx])) k (by simpa [gotsP] using h1) (by simpa using h2)
theorem ofI_take_le {L : List It} (h : ∀ x ∈ L, 1 ≤ x.n) (g : ByteArray) (k : Nat) : 0 ≤ ofI (L.take k) g ∧ ofI (L.take k) g ≤ ofI L g := by
  have h0 : ∀ M : List It, (∀ x ∈ M, 1 ≤ x.n) → 0 ≤ ofI M g := fun M hM => by
    induction M with
    | nil => simp [ofI]
    | cons x M ih =>
      have := ih (fun y hy => hM y (by simp [hy]))
      have := hM x (by simp)
      simp only [ofI]
      split <;> omega
  have h1 : ofI L g = ofI (L.take k) g + ofI (L.drop k) g := by rw [← ofI_append, List.take_append_drop]
  have h2 := h0 (L.take k) (fun x hx => h x (List.mem_of_mem_take hx))
  have h3 := h0 (L.drop k) (fun x hx => h x (List.mem_of_mem_drop hx))
  omega
end Go.Proofs.Ytlcnkicmepcppaa
