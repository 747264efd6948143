/- What is left of a want, good by good: the order of the offers does not count. -/
import Derived.Test.YtlcnkicmepcppaaPPure
namespace Go.Proofs.Ytlcnkicmepcppaa
open Go.RowKit

theorem fm_congr {α β : Type} {f g : α → Option β} : ∀ {l : List α}, (∀ x ∈ l, f x = g x) → l.filterMap f = l.filterMap g
  | [], _ => rfl
  | x :: l, h => by rw [List.filterMap_cons, List.filterMap_cons, h x (by simp), fm_congr (l := l) (fun y hy => h y (by simp [hy]))]
theorem fm_some {α : Type} {f : α → Option α} : ∀ {l : List α}, (∀ x ∈ l, f x = some x) → l.filterMap f = l
  | [], _ => rfl
  | x :: l, h => by rw [List.filterMap_cons, h x (by simp)]; simp only; rw [fm_some (l := l) (fun y hy => h y (by simp [hy]))]
/-- What is left where 's' of each good was given. -/
def cutF (s : ByteArray → Int) (x : It) : Option It := if 0 < x.n - s x.good then some ⟨x.good, x.n - s x.good⟩ else none
def leftD (want : List It) (s : ByteArray → Int) : List It := want.filterMap (cutF s)
theorem eachI_fm (f : Int → Int → Int) (b : List It) : ∀ l : List It, eachI f b l = l.filterMap (fun x => if 0 < f x.n (ofI b x.good) then some ⟨x.good, f x.n (ofI b x.good)⟩ else none)
  | [] => rfl
  | x :: l => by
    rw [List.filterMap_cons]
    simp only [eachI]
    rw [eachI_fm f b l]
    split <;> rfl
theorem ofI_none {g : ByteArray} : ∀ {l : List It}, (∀ z ∈ l, z.good ≠ g) → ofI l g = 0
  | [], _ => rfl
  | x :: l, h => by
    have h1 : (x.good.toList == g.toList) = false := by
      rw [beq_eq_false_iff_ne]
      intro e
      exact h x (by simp) (toList_inj e)
    simp only [ofI, h1]
    rw [ofI_none (fun z hz => h z (by simp [hz]))]
    simp
theorem ofI_each {f : Int → Int → Int} {b : List It} : ∀ {l : List It}, l.Pairwise (fun a b => ltS a.good b.good = true) → ∀ x ∈ l, ofI (eachI f b l) x.good = if 0 < f x.n (ofI b x.good) then f x.n (ofI b x.good) else 0
  | [], _, x, hx => by simp at hx
  | y :: l, h, x, hx => by
    rw [List.pairwise_cons] at h
    rcases List.mem_cons.1 hx with rfl | hx
    · have h0 : ofI (eachI f b l) x.good = 0 := ofI_none fun z hz e => by
        obtain ⟨u, hu, e1, _⟩ := eachI_mem hz
        have := h.1 u hu
        rw [← e1, e, ltS_irrefl] at this
        cases this
      simp only [eachI]
      split
      · simp [ofI, h0]
      · exact h0
    · have hne : (y.good.toList == x.good.toList) = false := by
        rw [beq_eq_false_iff_ne]
        intro e
        have := h.1 x hx
        rw [toList_inj e, ltS_irrefl] at this
        cases this
      have ih := ofI_each (f := f) (b := b) h.2 x hx
      simp only [eachI]
      split
      · simp only [ofI, hne]
        rw [ih]
        simp
      · exact ih
theorem leftD_congr {want : List It} {s t : ByteArray → Int} (h : ∀ x ∈ want, s x.good = t x.good) : leftD want s = leftD want t := by
  unfold leftD
  apply fm_congr
  intro x hx
  unfold cutF
  rw [h x hx]
theorem rest_meet {want o : List It} (hw : mayI want = true) (ho : mayI o = true) : restI want (meetI want o) = leftD want (ofI o) := by
  obtain ⟨h1, h2, _⟩ := mayI_iff.1 hw
  unfold restI leftD
  rw [eachI_fm]
  apply fm_congr
  intro x hx
  have h3 : ofI (meetI want o) x.good = _ := ofI_each h2 x hx
  have h4 := (ofI_bd x.good (ok_of ho)).1
  have h5 := (ok_of hw x hx).1
  rw [h3]
  unfold cutF
  obtain ⟨s, hs⟩ : ∃ s, ofI o x.good = s := ⟨_, rfl⟩
  rw [hs] at h4 ⊢
  by_cases h6 : s < x.n
  · have e : (if 0 < min x.n s then min x.n s else 0) = s := by split <;> omega
    rw [e]
  · have e : (if 0 < min x.n s then min x.n s else 0) = x.n := by split <;> omega
    rw [e, if_neg (by omega), if_neg (by omega)]
theorem leftD_leftD {want : List It} {s t : ByteArray → Int} (ht : ∀ g, 0 ≤ t g) : leftD (leftD want s) t = leftD want (fun g => s g + t g) := by
  unfold leftD
  rw [List.filterMap_filterMap]
  apply fm_congr
  intro x _
  have := ht x.good
  show (cutF s x).bind (cutF t) = if 0 < x.n - (s x.good + t x.good) then some ⟨x.good, x.n - (s x.good + t x.good)⟩ else none
  unfold cutF
  by_cases h : 0 < x.n - s x.good
  · rw [if_pos h]
    simp only [Option.bind_some]
    by_cases h2 : 0 < x.n - s x.good - t x.good
    · rw [if_pos h2, if_pos (by omega)]
      congr 2
      omega
    · rw [if_neg h2, if_neg (by omega)]
  · rw [if_neg h, if_neg (by omega)]
    rfl
theorem leftD_zero {want : List It} (h : mayI want = true) : leftD want (fun _ => 0) = want := by
  unfold leftD
  have : ∀ x ∈ want, cutF (fun _ => 0) x = some x := fun x hx => by
    have := (ok_of h x hx).1
    unfold cutF
    rw [if_pos (by show 0 < x.n - 0; omega)]
    simp
  exact fm_some this
/-- How much of a good all offers are. -/
def sumO (offers : List (List It)) (g : ByteArray) : Int := (offers.map fun o => ofI o g).sum
theorem sumO_nonneg {offers : List (List It)} (h : ∀ o ∈ offers, mayI o = true) (g : ByteArray) : 0 ≤ sumO offers g := by
  unfold sumO
  induction offers with
  | nil => simp
  | cons o l ih =>
    have h1 := (ofI_bd g (ok_of (h o (by simp)))).1
    have h2 := ih (fun x hx => h x (by simp [hx]))
    simp only [List.map_cons, List.sum_cons]
    omega
theorem sumO_append (a b : List (List It)) (g : ByteArray) : sumO (a ++ b) g = sumO a g + sumO b g := by
  unfold sumO
  rw [List.map_append, List.sum_append]
theorem leftP_eq : ∀ {offers : List (List It)} {want : List It}, mayI want = true → (∀ o ∈ offers, mayI o = true) → leftP want offers = leftD want (sumO offers)
  | [], want, h, _ => (leftD_zero h).symm
  | o :: l, want, h, hl => by
    have ho := hl o (by simp)
    have hl' : ∀ x ∈ l, mayI x = true := fun x hx => hl x (by simp [hx])
    have h1 := leftP_eq (offers := l) (restI_may h (meetI_may h ho)) hl'
    show leftP (restI want (meetI want o)) l = _
    rw [h1, rest_meet h ho, leftD_leftD (fun g => sumO_nonneg hl' g)]
    rfl
theorem leftP_turn {want : List It} {a b : List (List It)} (h : mayI want = true) (hl : ∀ o ∈ a ++ b, mayI o = true) : leftP want (b ++ a) = leftP want (a ++ b) := by
  rw [leftP_eq h hl, leftP_eq h (fun o ho => hl o (by simp at ho ⊢; exact Or.symm ho))]
  apply leftD_congr
  intro x _
  rw [sumO_append, sumO_append]
  omega
theorem splitR_turn {want : List It} {a b : List (List It)} : ((if mayP want (b ++ a) then leftP want (b ++ a) else [])) = (if mayP want (a ++ b) then leftP want (a ++ b) else []) := by
  unfold mayP
  have e1 : (b ++ a).length = (a ++ b).length := by simp [Nat.add_comm]
  have e2 : (b ++ a).all mayI = (a ++ b).all mayI := by rw [List.all_append, List.all_append, Bool.and_comm]
  rw [e1, e2]
  split
  · rename_i hc
    simp only [Bool.and_eq_true] at hc
    exact leftP_turn hc.1.1 (fun o ho => List.all_eq_true.1 hc.2 o ho)
  · rfl
end Go.Proofs.Ytlcnkicmepcppaa
