/- Package plan, by definition: what may be asked, how a want is split. -/
import Derived.Test.YtlcnkicmepcppaaIEach
namespace Go.Proofs.Ytlcnkicmepcppaa
open Go.RowKit

/-- Lists that may be, by their goods in order. -/
theorem mayI_iff {l : List It} : mayI l = true ↔ (∀ x ∈ l, okItem x = true) ∧ l.Pairwise (fun a b => ltS a.good b.good = true) ∧ l.length ≤ 16 := by
  constructor
  · intro h
    obtain ⟨h1, h2⟩ := mayI_at h
    refine ⟨fun x hx => ?_, ?_, h1⟩
    · obtain ⟨k, hk, rfl⟩ := List.getElem_of_mem hx
      exact okAt_item hk (h2 k hk)
    · rw [List.pairwise_iff_getElem]
      have key : ∀ d i (hi : i < l.length) (hj : i + (d + 1) < l.length), ltS l[i].good l[i + (d + 1)].good = true := by
        intro d
        induction d with
        | zero =>
          intro i hi hj
          have := h2 (i + 1) hj
          rw [okAt_succ hj] at this
          simp only [Bool.and_eq_true] at this
          exact this.2
        | succ d ih =>
          intro i hi hj
          have h3 := h2 (i + (d + 1) + 1) hj
          rw [okAt_succ (by omega)] at h3
          simp only [Bool.and_eq_true] at h3
          exact ltS_trans (ih i hi (by omega)) h3.2
      intro i j hi hj hij
      obtain ⟨d, rfl⟩ : ∃ d, j = i + (d + 1) := ⟨j - i - 1, by omega⟩
      exact key d i hi hj
  · rintro ⟨h1, h2, h3⟩
    rw [mayI_all, decide_eq_true h3]
    intro k hk
    cases k with
    | zero => rw [okAt_zero hk]; exact h1 _ (List.getElem_mem _)
    | succ k =>
      rw [okAt_succ hk, h1 _ (List.getElem_mem _), Bool.true_and]
      exact List.pairwise_iff_getElem.1 h2 k (k + 1) (by omega) hk (by omega)
theorem eachI_mem {f : Int → Int → Int} {b : List It} : ∀ {l : List It} {y : It}, y ∈ eachI f b l → ∃ x ∈ l, y.good = x.good ∧ y.n = f x.n (ofI b x.good) ∧ 0 < y.n
  | [], y, h => by simp [eachI] at h
  | x :: l, y, h => by
    simp only [eachI] at h
    split at h
    · rename_i hp
      rcases List.mem_cons.1 h with rfl | h
      · exact ⟨x, by simp, rfl, rfl, hp⟩
      · obtain ⟨z, hz, h1⟩ := eachI_mem h
        exact ⟨z, by simp [hz], h1⟩
    · obtain ⟨z, hz, h1⟩ := eachI_mem h
      exact ⟨z, by simp [hz], h1⟩
theorem eachI_pair {f : Int → Int → Int} {b : List It} : ∀ {l : List It}, l.Pairwise (fun a b => ltS a.good b.good = true) → (eachI f b l).Pairwise (fun a b => ltS a.good b.good = true)
  | [], _ => by simp [eachI]
  | x :: l, h => by
    rw [List.pairwise_cons] at h
    simp only [eachI]
    split
    · rw [List.pairwise_cons]
      refine ⟨fun y hy => ?_, eachI_pair h.2⟩
      obtain ⟨z, hz, e, _⟩ := eachI_mem hy
      rw [e]
      exact h.1 z hz
    · exact eachI_pair h.2
theorem eachI_may {f : Int → Int → Int} {a b : List It} (hf : ∀ n o, 1 ≤ n → 0 ≤ o → f n o ≤ n) (ha : mayI a = true) (hb : mayI b = true) : mayI (eachI f b a) = true := by
  obtain ⟨h1, h2, h3⟩ := mayI_iff.1 ha
  refine mayI_iff.2 ⟨fun y hy => ?_, eachI_pair h2, Nat.le_trans (eachI_len f b a) h3⟩
  obtain ⟨x, hx, e1, e2, e3⟩ := eachI_mem hy
  obtain ⟨k1, k2, k3⟩ := okItem_iff.1 (h1 x hx)
  have h4 := hf x.n (ofI b x.good) k2 (ofI_bd x.good (ok_of hb)).1
  exact okItem_iff.2 ⟨by rw [e1]; exact k1, by omega, by omega⟩
theorem meetI_may {a b : List It} (ha : mayI a = true) (hb : mayI b = true) : mayI (meetI a b) = true := eachI_may (fun n o _ _ => by omega) ha hb
theorem restI_may {a b : List It} (ha : mayI a = true) (hb : mayI b = true) : mayI (restI a b) = true := eachI_may (fun n o _ _ => by omega) ha hb
theorem bd_of_may {l : List It} (h : mayI l = true) : ∀ z ∈ l, BdIt z := fun z hz => by
  obtain ⟨h1, h2, h3⟩ := okItem_iff.1 ((mayI_iff.1 h).1 z hz)
  unfold goodS at h1
  simp only [Bool.and_eq_true, decide_eq_true_eq] at h1
  exact ⟨by omega, by omega, by omega⟩
/-- May all of these be? -/
def mayP (want : List It) (offers : List (List It)) : Bool := mayI want && decide (offers.length ≤ 8) && offers.all mayI
/-- What is left of a want. -/
def leftP (want : List It) : List (List It) → List It
  | [] => want
  | o :: l => leftP (restI want (meetI want o)) l
/-- What each gives. -/
def gotsP (want : List It) : List (List It) → List (List It)
  | [] => []
  | o :: l => meetI want o :: gotsP (restI want (meetI want o)) l
theorem leftP_snoc (o : List It) : ∀ (l : List (List It)) (want : List It), leftP want (l ++ [o]) = restI (leftP want l) (meetI (leftP want l) o)
  | [], _ => rfl
  | _ :: l, _ => leftP_snoc o l _
theorem gotsP_snoc (o : List It) : ∀ (l : List (List It)) (want : List It), gotsP want (l ++ [o]) = gotsP want l ++ [meetI (leftP want l) o]
  | [], _ => rfl
  | x :: l, want => by
    have := gotsP_snoc o l (restI want (meetI want x))
    simp only [List.cons_append, gotsP, this]
    rfl
theorem gotsP_len : ∀ (l : List (List It)) (want : List It), (gotsP want l).length = l.length
  | [], _ => rfl
  | _ :: l, _ => by simp only [gotsP, List.length_cons]; rw [gotsP_len l]
theorem leftP_may : ∀ {l : List (List It)} {want : List It}, mayI want = true → (∀ o ∈ l, mayI o = true) → mayI (leftP want l) = true
  | [], _, h, _ => h
  | o :: l, want, h, hl => by
    have h1 := leftP_may (l := l) (restI_may h (meetI_may h (hl o (by simp)))) (fun x hx => hl x (by simp [hx]))
    exact h1
theorem gotsP_may : ∀ {l : List (List It)} {want : List It}, mayI want = true → (∀ o ∈ l, mayI o = true) → ∀ g ∈ gotsP want l, mayI g = true
  | [], _, _, _, g, hg => by simp [gotsP] at hg
  | o :: l, _, h, hl, g, hg => by
    have hm := meetI_may h (hl o (by simp))
    rcases List.mem_cons.1 hg with rfl | hg
    · exact hm
    · exact gotsP_may (restI_may h hm) (fun x hx => hl x (by simp [hx])) g hg
/-- Lists of lists that may be read. -/
def RdII (W : World) (v : Value) (ls : List (List It)) : Prop := ∃ A c hs, v = .slice A ls.length c ∧ ls.length ≤ c ∧ c ≤ maxLen ∧ Rd W 1 A ls.length hs ∧ ∀ (j : Nat) (h : j < ls.length), ∃ u, hs[j]? = some u ∧ RdI W u ls[j]
theorem RdII.below {W W' : World} {v : Value} {ls : List (List It)} (h : RdII W v ls) (b : Below W.heap.size W W') : RdII W' v ls := by
  obtain ⟨A, c, hs, h1, h2, h3, h4, h5⟩ := h
  exact ⟨A, c, hs, h1, h2, h3, h4.below b, fun j hj => by obtain ⟨u, k1, k2⟩ := h5 j hj; exact ⟨u, k1, k2.below b⟩⟩
theorem RdI.own {W : World} {B : Nat} {v : Value} {l : List It} (h : W.ownsRow B 40 2 v l.length (l.flatMap encI)) : RdI W v l := by
  obtain ⟨A, c, e, h1, h2, h3, _⟩ := own_slice h
  exact ⟨A, c, e, h1, h2, h3⟩
/-- Items in range. -/
def BdL (l : List It) : Prop := (∀ z ∈ l, BdIt z) ∧ l.length ≤ 4611686018427387903
theorem BdL.of {l : List It} (h : mayI l = true) : BdL l := ⟨bd_of_may h, by have := (mayI_at h).1; omega⟩
end Go.Proofs.Ytlcnkicmepcppaa
