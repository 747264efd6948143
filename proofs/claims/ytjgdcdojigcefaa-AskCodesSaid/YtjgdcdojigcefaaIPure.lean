/- Lists of goods, by definition: what may be, sums, what both have, what one has more. -/
import Derived.Test.YtjgdcdojigcefaaMem3
import Derived.Lib.Hide
import Derived.Lib.Strings
namespace Go.Proofs.Ytjgdcdojigcefaa
open Go.RowKit

/-- A good and how many. -/
structure It where
  good : ByteArray
  n : Int
def encI (z : It) : List Value := [.string z.good, .int .i64 z.n]
/-- A letter of a good. -/
def okC (c : UInt8) : Bool := (decide (97 ≤ c.toNat) && decide (c.toNat ≤ 122)) || (decide (48 ≤ c.toNat) && decide (c.toNat ≤ 57)) || decide (c.toNat = 45)
theorem okC_iff (c : UInt8) : okC c = true ↔ (97 ≤ c.toNat ∧ c.toNat ≤ 122) ∨ (48 ≤ c.toNat ∧ c.toNat ≤ 57) ∨ c.toNat = 45 := by
  simp [okC, or_assoc]
def goodS (s : ByteArray) : Bool := s.toList.all okC && decide (1 ≤ s.size) && decide (s.size ≤ 16)
/-- The lexical order of texts. -/
def ltS (a b : ByteArray) : Bool := Op.bytesLess a.toList b.toList
theorem bytesLess_lt : ∀ (x y : List UInt8), Op.bytesLess x y = decide (x < y)
  | [], [] => by simp [Op.bytesLess]
  | _ :: _, [] => by simp [Op.bytesLess]
  | [], _ :: _ => by simp [Op.bytesLess]
  | a :: x, b :: y => by
    rw [Op.bytesLess, bytesLess_lt x y]
    simp only [List.cons_lt_cons_iff]
    by_cases h1 : a < b <;> by_cases h2 : a = b <;> by_cases h3 : x < y <;> simp [h1, h2, h3]
theorem toList_inj {a b : ByteArray} (h : a.toList = b.toList) : a = b := by
  rw [Lib.toList_data, Lib.toList_data] at h
  cases a; cases b
  simp only at h
  congr
  exact Array.toList_inj.1 h
theorem ltS_irrefl (a : ByteArray) : ltS a a = false := by
  unfold ltS; rw [bytesLess_lt]; simp
theorem ltS_trans {a b c : ByteArray} (h1 : ltS a b = true) (h2 : ltS b c = true) : ltS a c = true := by
  unfold ltS at *
  rw [bytesLess_lt] at *
  simp only [decide_eq_true_eq] at *
  exact List.lt_trans h1 h2
theorem ltS_total (a b : ByteArray) : ltS a b = true ∨ a = b ∨ ltS b a = true := by
  unfold ltS
  simp only [bytesLess_lt, decide_eq_true_eq]
  by_cases h : a.toList < b.toList
  · exact .inl h
  · have h1 : b.toList ≤ a.toList := List.not_lt.1 h
    by_cases e : a = b
    · exact .inr (.inl e)
    · refine .inr (.inr ?_)
      rcases Classical.em (b.toList < a.toList) with h2 | h2
      · exact h2
      · exact absurd (toList_inj (List.le_antisymm (List.not_lt.1 h2) h1)) e
/-- 'a <= b', as the code asks it. -/
theorem leS_iff (a b : ByteArray) : (Op.bytesLess a.toList b.toList || a.toList == b.toList) = !ltS b a := by
  by_cases h : ltS b a = true
  · rw [h]
    have h1 : ltS a b = false := by
      by_cases h2 : ltS a b = true
      · have := ltS_trans h h2; rw [ltS_irrefl] at this; cases this
      · simpa using h2
    have h2 : (a.toList == b.toList) = false := by
      simp only [beq_eq_false_iff_ne]
      intro e
      rw [toList_inj e, ltS_irrefl] at h
      cases h
    unfold ltS at h1
    rw [h1, h2]; rfl
  · have h' : ltS b a = false := by simpa using h
    rw [h']
    rcases ltS_total a b with h1 | rfl | h1
    · unfold ltS at h1; rw [h1]; rfl
    · simp
    · exact absurd h1 h
/-- May the item at k be? -/
def okItem (z : It) : Bool := goodS z.good && decide (1 ≤ z.n) && decide (z.n ≤ 1099511627776)
def okAt (l : List It) (k : Nat) : Bool :=
  match l[k]? with
  | none => false
  | some z => okItem z && (match k with | 0 => true | j + 1 => match l[j]? with | none => false | some x => ltS x.good z.good)
/-- May a list be? -/
def mayI (l : List It) : Bool := (List.range l.length).all (okAt l) && decide (l.length ≤ 16)
theorem mayI_all {l : List It} (h : ∀ k, k < l.length → okAt l k = true) : mayI l = decide (l.length ≤ 16) := by
  unfold mayI
  rw [List.all_eq_true.2 (fun k hk => h k (List.mem_range.1 hk))]
  rfl
theorem mayI_bad {l : List It} {k : Nat} (hk : k < l.length) (h : okAt l k = false) : mayI l = false := by
  unfold mayI
  rw [List.all_eq_false.2 ⟨k, List.mem_range.2 hk, by rw [h]; simp⟩]
  rfl
theorem mayI_at {l : List It} (h : mayI l = true) : l.length ≤ 16 ∧ ∀ k, k < l.length → okAt l k = true := by
  unfold mayI at h
  simp only [Bool.and_eq_true, decide_eq_true_eq] at h
  exact ⟨h.2, fun k hk => List.all_eq_true.1 h.1 k (List.mem_range.2 hk)⟩
theorem okAt_zero {l : List It} (h : 0 < l.length) : okAt l 0 = okItem l[0] := by
  unfold okAt
  rw [List.getElem?_eq_getElem h]
  simp
theorem okAt_succ {l : List It} {k : Nat} (h : k + 1 < l.length) : okAt l (k + 1) = (okItem l[k + 1] && ltS l[k].good l[k + 1].good) := by
  unfold okAt
  rw [List.getElem?_eq_getElem h]
  simp [List.getElem?_eq_getElem (show k < l.length by omega)]
theorem okAt_item {l : List It} {k : Nat} (hk : k < l.length) (h : okAt l k = true) : okItem l[k] = true := by
  cases k with
  | zero => rw [okAt_zero hk] at h; exact h
  | succ k => rw [okAt_succ hk] at h; simp only [Bool.and_eq_true] at h; exact h.1
theorem okItem_iff {z : It} : okItem z = true ↔ goodS z.good = true ∧ 1 ≤ z.n ∧ z.n ≤ 1099511627776 := by
  simp [okItem, and_assoc]
/-- How many of a good. -/
def ofI : List It → ByteArray → Int
  | [], _ => 0
  | x :: l, g => (if x.good.toList == g.toList then x.n else 0) + ofI l g
theorem ofI_snoc (l : List It) (x : It) (g : ByteArray) : ofI (l ++ [x]) g = if x.good.toList == g.toList then ofI l g + x.n else ofI l g := by
  induction l with
  | nil => by_cases h : (x.good.toList == g.toList) = true <;> simp [ofI, h]
  | cons y l ih => simp only [List.cons_append, ofI]; rw [ih]; by_cases h : (x.good.toList == g.toList) = true <;> simp [h] <;> omega
theorem ofI_bd {l : List It} (g : ByteArray) (h : ∀ x ∈ l, 1 ≤ x.n ∧ x.n ≤ 1099511627776) : 0 ≤ ofI l g ∧ ofI l g ≤ 1099511627776 * l.length := by
  induction l with
  | nil => simp [ofI]
  | cons x l ih =>
    have h1 := ih (fun y hy => h y (by simp [hy]))
    have h2 := h x (by simp)
    simp only [List.length_cons, ofI]
    split <;> omega
/-- What is made of each good of a list. -/
def eachI (f : Int → Int → Int) (b : List It) : List It → List It
  | [] => []
  | x :: l => if 0 < f x.n (ofI b x.good) then ⟨x.good, f x.n (ofI b x.good)⟩ :: eachI f b l else eachI f b l
theorem eachI_snoc (f : Int → Int → Int) (b : List It) : ∀ (l : List It) (x : It), eachI f b (l ++ [x]) = if 0 < f x.n (ofI b x.good) then eachI f b l ++ [⟨x.good, f x.n (ofI b x.good)⟩] else eachI f b l
  | [], x => by simp only [List.nil_append, eachI]
  | y :: l, x => by
    have ih := eachI_snoc f b l x
    simp only [List.cons_append, eachI]
    rw [ih]
    split <;> split <;> rfl
def meetI (a b : List It) : List It := eachI (fun n o => min n o) b a
def restI (a b : List It) : List It := eachI (fun n o => n - o) b a
/-- A list of items that may be read. -/
def RdI (W : World) (v : Value) (l : List It) : Prop := ∃ A c, v = .slice A l.length c ∧ l.length ≤ c ∧ c ≤ maxLen ∧ Rd W 2 A l.length (l.flatMap encI)
theorem RdI.below {W W' : World} {v : Value} {l : List It} (h : RdI W v l) (b : Below W.heap.size W W') : RdI W' v l := by
  obtain ⟨A, c, h1, h2, h3, h4⟩ := h
  exact ⟨A, c, h1, h2, h3, h4.below b⟩
theorem RdI.nil (W : World) : RdI W (.slice none 0 0) [] := ⟨none, 0, rfl, Nat.le_refl _, Nat.zero_le _, Rd.nil⟩
theorem encI_len (z : It) : (encI z).length = 2 := rfl
theorem flatI_len (l : List It) : (l.flatMap encI).length = l.length * 2 := by
  induction l with
  | nil => rfl
  | cons z l ih => rw [List.flatMap_cons, List.length_append, ih, encI_len, List.length_cons]; omega
theorem flatI_at (zs : List It) (k j : Nat) (hk : k < zs.length) (hj : j < 2) : (zs.flatMap encI)[k * 2 + j]? = (encI zs[k])[j]? := by
  induction zs generalizing k with
  | nil => simp at hk
  | cons z zs ih =>
    cases k with
    | zero => rw [List.flatMap_cons, List.getElem?_append_left (by rw [encI_len]; omega)]; simp
    | succ k => rw [List.flatMap_cons, List.getElem?_append_right (by rw [encI_len]; omega), encI_len, show (k + 1) * 2 + j - 2 = k * 2 + j by omega, ih k (by simpa using hk)]; simp
/-- The item at k. -/
theorem rdi_at {W : World} {A : Option Addr} {l : List It} {k : Nat} (h : Rd W 2 A l.length (l.flatMap encI)) (hk : k < l.length) : ∃ g o, A = some ⟨g, o, none⟩ ∧ g < W.heap.size ∧ W.cell? ⟨g, o + k * 2, none⟩ = some (.string l[k].good) ∧ W.cell? ⟨g, o + k * 2 + 1, none⟩ = some (.int .i64 l[k].n) := by
  obtain ⟨g, o, e, hg, hc⟩ := h.2 (by omega)
  exact ⟨g, o, e, hg, hc (k * 2 + 0) _ ((flatI_at l k 0 hk (by omega)).trans rfl), by rw [Nat.add_assoc]; exact hc (k * 2 + 1) _ ((flatI_at l k 1 hk (by omega)).trans rfl)⟩
end Go.Proofs.Ytjgdcdojigcefaa
