/- Parts in their order: what slices.symMergeCmpFunc and stableCmpFunc make of rows. -/
import Derived.Test.YtochhjdjfgiaeaaNSort
namespace Go.Proofs.Ytochhjdjfgiaeaa
abbrev Pt := Nat × Nat
namespace SymP
def z : Pt := (0, 0)
def R (x y : Pt) : Prop := y.2 < x.2 ∨ (x.2 = y.2 ∧ x.1 < y.1)
theorem R.trans {x y w : Pt} (h1 : R x y) (h2 : R y w) : R x w := by
  unfold R at *
  omega
/-- Sorted from a on, up to b. -/
def Srt (l : List Pt) (a b : Nat) : Prop := ∀ s t, a ≤ s → s < t → t < b → R (l.getD s z) (l.getD t z)
/-- All ahead of m came ahead of all behind it. -/
def Sep (l : List Pt) (a m b : Nat) : Prop := ∀ s t, a ≤ s → s < m → m ≤ t → t < b → (l.getD s z).1 < (l.getD t z).1
/-- l' is l, from a to b in some other order. -/
structure Res (a b : Nat) (l l' : List Pt) : Prop where
  len : l'.length = l.length
  out : ∀ t, t < a ∨ b ≤ t → l'.getD t z = l.getD t z
  mem : ∀ s, a ≤ s → s < b → ∃ s', a ≤ s' ∧ s' < b ∧ l'.getD s z = l.getD s' z
  perm : l'.Perm l
theorem Res.refl (a b : Nat) (l : List Pt) : Res a b l l := ⟨rfl, fun _ _ => rfl, fun s h1 h2 => ⟨s, h1, h2, rfl⟩, .refl l⟩
theorem Res.trans {a b : Nat} {l l1 l2 : List Pt} (h : Res a b l l1) (h' : Res a b l1 l2) : Res a b l l2 :=
  ⟨h'.len.trans h.len, fun t ht => (h'.out t ht).trans (h.out t ht), fun s h1 h2 => by
    obtain ⟨s', h3, h4, h5⟩ := h'.mem s h1 h2
    obtain ⟨s'', h6, h7, h8⟩ := h.mem s' h3 h4
    exact ⟨s'', h6, h7, h5.trans h8⟩, h'.perm.trans h.perm⟩
theorem Res.wide {a b c d : Nat} {l l' : List Pt} (h : Res c d l l') (h1 : a ≤ c) (h2 : d ≤ b) : Res a b l l' :=
  ⟨h.len, fun t ht => h.out t (by omega), fun s h3 h4 => by
    by_cases hs : c ≤ s ∧ s < d
    · obtain ⟨s', h5, h6, h7⟩ := h.mem s hs.1 hs.2
      exact ⟨s', by omega, by omega, h7⟩
    · exact ⟨s, h3, h4, h.out s (by omega)⟩, h.perm⟩
/-- Two, exchanged. -/
def sw (l : List Pt) (i j : Nat) : List Pt := (l.set i (l.getD j z)).set j (l.getD i z)
theorem sw_len (l : List Pt) (i j : Nat) : (sw l i j).length = l.length := by simp [sw]
theorem sw_get {l : List Pt} {i j : Nat} (hi : i < l.length) (hj : j < l.length) (t : Nat) : (sw l i j).getD t z = if t = j then l.getD i z else if t = i then l.getD j z else l.getD t z := by
  unfold sw
  rw [List.getD_eq_getElem?_getD, List.getElem?_set]
  by_cases h1 : j = t
  · subst h1
    rw [if_pos rfl, if_pos rfl, if_pos (by simpa using hj)]
    rfl
  · rw [if_neg h1, if_neg (Ne.symm h1), List.getElem?_set]
    by_cases h2 : i = t
    · subst h2
      rw [if_pos rfl, if_pos rfl, if_pos hi]
      rfl
    · rw [if_neg h2, if_neg (Ne.symm h2), List.getD_eq_getElem?_getD]
theorem sw_perm {l : List Pt} {i j : Nat} (hi : i < l.length) (hj : j < l.length) : (sw l i j).Perm l := by
  unfold sw
  rw [List.getD_eq_getElem?_getD, List.getD_eq_getElem?_getD, List.getElem?_eq_getElem hi, List.getElem?_eq_getElem hj]
  exact List.set_set_perm hi hj
theorem sw_res {a b : Nat} {l : List Pt} {i j : Nat} (hi : a ≤ i ∧ i < b) (hj : a ≤ j ∧ j < b) (hb : b ≤ l.length) : Res a b l (sw l i j) := by
  have e := sw_get (l := l) (i := i) (j := j) (by omega) (by omega)
  refine ⟨sw_len l i j, fun t ht => ?_, fun s h1 h2 => ?_, sw_perm (by omega) (by omega)⟩
  · rw [e, if_neg (by omega), if_neg (by omega)]
  · rw [e]
    split
    · exact ⟨i, hi.1, hi.2, rfl⟩
    · split
      · exact ⟨j, hj.1, hj.2, rfl⟩
      · exact ⟨s, h1, h2, rfl⟩
/-- k neighbours exchanged with k others. -/
def swR (a b : Nat) : Nat → List Pt → List Pt
  | 0, l => l
  | k + 1, l => sw (swR a b k l) (a + k) (b + k)
theorem swR_len (a b : Nat) : ∀ (k : Nat) (l : List Pt), (swR a b k l).length = l.length
  | 0, _ => rfl
  | k + 1, l => by rw [swR, sw_len, swR_len a b k l]
theorem swR_get {a b : Nat} : ∀ (k : Nat) {l : List Pt}, a + k ≤ b → b + k ≤ l.length → ∀ t, (swR a b k l).getD t z = if a ≤ t ∧ t < a + k then l.getD (t - a + b) z else if b ≤ t ∧ t < b + k then l.getD (t - b + a) z else l.getD t z
  | 0, l, h1, h2, t => by rw [if_neg (by omega), if_neg (by omega)]; rfl
  | k + 1, l, h1, h2, t => by
    have ih := swR_get (a := a) (b := b) k (l := l) (by omega) (by omega)
    have hl := swR_len a b k l
    rw [swR, sw_get (l := swR a b k l) (i := a + k) (j := b + k) (by omega) (by omega), ih, ih, ih]
    by_cases e1 : t = b + k
    · subst e1
      rw [if_pos rfl, if_neg (by omega), if_neg (by omega), if_neg (by omega), if_pos (by omega)]
      congr 1; omega
    · rw [if_neg e1]
      by_cases e2 : t = a + k
      · subst e2
        rw [if_pos rfl, if_neg (by omega), if_neg (by omega), if_pos (by omega)]
        congr 1; omega
      · rw [if_neg e2]
        by_cases e3 : a ≤ t ∧ t < a + k
        · rw [if_pos e3, if_pos (by omega)]
        · by_cases e4 : b ≤ t ∧ t < b + k
          · rw [if_neg e3, if_pos e4, if_neg (by omega), if_pos (by omega)]
          · rw [if_neg e3, if_neg e4, if_neg (by omega), if_neg (by omega)]
theorem swR_perm {a b : Nat} : ∀ (k : Nat) {l : List Pt}, a + k ≤ b → b + k ≤ l.length → (swR a b k l).Perm l
  | 0, l, _, _ => .refl l
  | k + 1, l, h1, h2 => by
    have hl := swR_len a b k l
    exact (sw_perm (l := swR a b k l) (i := a + k) (j := b + k) (by omega) (by omega)).trans (swR_perm k (by omega) (by omega))
/-- What a rotation makes. -/
structure Rot (a m b : Nat) (l l' : List Pt) : Prop where
  len : l'.length = l.length
  get : ∀ t, l'.getD t z = if t < a then l.getD t z else if t < a + (b - m) then l.getD (t - a + m) z else if t < b then l.getD (t - (b - m)) z else l.getD t z
  perm : l'.Perm l
theorem Rot.res {a m b : Nat} {l l' : List Pt} (h : Rot a m b l l') (h1 : a ≤ m) (h2 : m ≤ b) : Res a b l l' :=
  ⟨h.len, fun t ht => by
    rw [h.get]
    by_cases e : t < a
    · rw [if_pos e]
    · rw [if_neg e, if_neg (by omega), if_neg (by omega)], fun s h3 h4 => by
    rw [h.get, if_neg (by omega)]
    by_cases e : s < a + (b - m)
    · rw [if_pos e]; exact ⟨s - a + m, by omega, by omega, rfl⟩
    · rw [if_neg e, if_pos h4]; exact ⟨s - (b - m), by omega, by omega, rfl⟩, h.perm⟩
/-- One round of the rotation's loop: what is left to rotate. i: how many stand ahead of m, j: behind it. -/
theorem rot_gt {m i j : Nat} {l l' : List Pt} (him : i ≤ m) (hj : j < i) (hl : m + j ≤ l.length) (h : Rot (m - (i - j)) m (m + j) (swR (m - i) m j l) l') : Rot (m - i) m (m + j) l l' := by
  have e := swR_get (a := m - i) (b := m) j (l := l) (by omega) hl
  refine ⟨h.len.trans (swR_len _ _ _ _), fun t => ?_, h.perm.trans (swR_perm j (by omega) hl)⟩
  rw [h.get]
  by_cases c1 : t < m - i
  · rw [if_pos c1, if_pos (by omega), e, if_neg (by omega), if_neg (by omega)]
  · rw [if_neg c1]
    by_cases c2 : t < m - i + j
    · rw [if_pos (show t < m - i + (m + j - m) by omega), if_pos (by omega), e, if_pos (by omega)]
    · rw [if_neg (show ¬ t < m - i + (m + j - m) by omega)]
      by_cases c3 : t < m - (i - j) + (m + j - m)
      · rw [if_neg (by omega), if_pos c3, e, if_neg (by omega), if_pos (by omega), if_pos (by omega)]
        congr 1; omega
      · by_cases c4 : t < m + j
        · rw [if_neg (by omega), if_neg c3, if_pos c4, if_pos c4, e, if_neg (by omega), if_neg (by omega)]
        · rw [if_neg (by omega), if_neg c3, if_neg c4, if_neg c4, e, if_neg (by omega), if_neg (by omega)]
theorem rot_lt {m i j : Nat} {l l' : List Pt} (him : i ≤ m) (hj : i < j) (hl : m + j ≤ l.length) (h : Rot (m - i) m (m + (j - i)) (swR (m - i) (m + j - i) i l) l') : Rot (m - i) m (m + j) l l' := by
  have e := swR_get (a := m - i) (b := m + j - i) i (l := l) (by omega) (by omega)
  refine ⟨h.len.trans (swR_len _ _ _ _), fun t => ?_, h.perm.trans (swR_perm i (by omega) (by omega))⟩
  rw [h.get]
  by_cases c1 : t < m - i
  · rw [if_pos c1, if_pos c1, e, if_neg (by omega), if_neg (by omega)]
  · rw [if_neg c1, if_neg c1]
    by_cases c2 : t < m - i + (m + (j - i) - m)
    · rw [if_pos c2, if_pos (by omega), e, if_neg (by omega), if_neg (by omega)]
    · rw [if_neg c2]
      by_cases c3 : t < m + (j - i)
      · rw [if_pos c3, e, if_pos (by omega), if_pos (by omega)]
        congr 1; omega
      · rw [if_neg c3, e, if_neg (by omega)]
        by_cases c4 : t < m + j
        · rw [if_pos (by omega), if_neg (by omega), if_pos c4]
          congr 1; omega
        · rw [if_neg (by omega), if_neg (by omega), if_neg c4]
theorem rot_eq {m i : Nat} {l : List Pt} (him : i ≤ m) (hl : m + i ≤ l.length) : Rot (m - i) m (m + i) l (swR (m - i) m i l) := by
  have e := swR_get (a := m - i) (b := m) i (l := l) (by omega) hl
  refine ⟨swR_len _ _ _ _, fun t => ?_, swR_perm i (by omega) hl⟩
  rw [e]
  by_cases c1 : t < m - i
  · rw [if_neg (by omega), if_neg (by omega), if_pos c1]
  · rw [if_neg c1]
    by_cases c2 : t < m
    · rw [if_pos (by omega), if_pos (by omega)]
    · by_cases c3 : t < m + i
      · rw [if_neg (by omega), if_pos (by omega), if_neg (by omega), if_pos c3]
        congr 1; omega
      · rw [if_neg (by omega), if_neg (by omega), if_neg (by omega), if_neg c3]
/-- The merge of two sorted rows, cut in halves: what both halves' merges make of it is sorted. -/
theorem merge_sorted {l l1 l2 l3 : List Pt} {a m b mid st en : Nat} (h1 : a ≤ st) (h2 : st ≤ m) (h3 : m ≤ en) (h4 : en ≤ b) (hm : mid = st + (en - m)) (hS1 : Srt l a m) (hS2 : Srt l m b)
    (hc1 : a < st → en < b → R (l.getD (st - 1) z) (l.getD en z)) (hc2 : st < m → m < en → R (l.getD (en - 1) z) (l.getD st z))
    (hr : Rot st m en l l1) (k1 : Res a mid l1 l2) (q1 : Srt l2 a mid) (k2 : Res mid b l2 l3) (q2 : Srt l3 mid b) : Srt l3 a b := by
  have hmid : a ≤ mid ∧ mid ≤ b := by omega
  -- what stands where, behind the rotation
  have g : ∀ t, l1.getD t z = if t < st then l.getD t z else if t < mid then l.getD (t - st + m) z else if t < en then l.getD (t - (en - m)) z else l.getD t z := fun t => by rw [hr.get, hm]
  have key : ∀ s t, a ≤ s → s < mid → mid ≤ t → t < b → R (l1.getD s z) (l1.getD t z) := fun s t p1 p2 p3 p4 => by
    rw [g s, g t, if_neg (show ¬ t < st by omega), if_neg (show ¬ t < mid by omega)]
    by_cases e1 : s < st
    · rw [if_pos e1]
      by_cases e2 : t < en
      · rw [if_pos e2]
        exact hS1 _ _ p1 (by omega) (by omega)
      · rw [if_neg e2]
        have hx := hc1 (by omega) (by omega)
        have hl : s = st - 1 ∨ R (l.getD s z) (l.getD (st - 1) z) := by
          by_cases e : s = st - 1
          · exact .inl e
          · exact .inr (hS1 _ _ p1 (by omega) (by omega))
        have hrr : t = en ∨ R (l.getD en z) (l.getD t z) := by
          by_cases e : t = en
          · exact .inl e
          · exact .inr (hS2 _ _ h3 (by omega) p4)
        rcases hl with rfl | hl <;> rcases hrr with rfl | hrr
        · exact hx
        · exact hx.trans hrr
        · exact hl.trans hx
        · exact hl.trans (hx.trans hrr)
    · rw [if_neg e1, if_pos p2]
      by_cases e2 : t < en
      · rw [if_pos e2]
        have hx := hc2 (by omega) (by omega)
        have hl : s - st + m = en - 1 ∨ R (l.getD (s - st + m) z) (l.getD (en - 1) z) := by
          by_cases e : s - st + m = en - 1
          · exact .inl e
          · exact .inr (hS2 _ _ (by omega) (by omega) (by omega))
        have hrr : t - (en - m) = st ∨ R (l.getD st z) (l.getD (t - (en - m)) z) := by
          by_cases e : t - (en - m) = st
          · exact .inl e
          · exact .inr (hS1 _ _ h1 (by omega) (by omega))
        rcases hl with hl | hl <;> rcases hrr with hrr | hrr
        · rw [hl, hrr]; exact hx
        · rw [hl]; exact hx.trans hrr
        · rw [hrr]; exact hl.trans hx
        · exact hl.trans (hx.trans hrr)
      · rw [if_neg e2]
        exact hS2 _ _ (by omega) (by omega) p4
  intro s t p1 p2 p3
  by_cases e1 : t < mid
  · rw [k2.out s (by omega), k2.out t (by omega)]
    exact q1 s t p1 p2 e1
  · by_cases e2 : mid ≤ s
    · exact q2 s t e2 p2 p3
    · obtain ⟨t', r1, r2, r3⟩ := k2.mem t (by omega) p3
      rw [k2.out s (by omega), r3, k1.out t' (by omega)]
      obtain ⟨s', r4, r5, r6⟩ := k1.mem s p1 (by omega)
      rw [r6]
      exact key s' t' r4 r5 r1 r2
/-- The halves that the cut leaves, ahead of their merges. -/
theorem cut_left {l l1 : List Pt} {a m b mid st en : Nat} (h1 : a ≤ st) (h2 : st ≤ m) (h3 : m ≤ en) (h4 : en ≤ b) (hm : mid = st + (en - m)) (hS1 : Srt l a m) (hS2 : Srt l m b) (hP : Sep l a m b) (hr : Rot st m en l l1) : Srt l1 a st ∧ Srt l1 st mid ∧ Sep l1 a st mid ∧ Srt l1 mid en ∧ Srt l1 en b ∧ Sep l1 mid en b := by
  have g : ∀ t, l1.getD t z = if t < st then l.getD t z else if t < mid then l.getD (t - st + m) z else if t < en then l.getD (t - (en - m)) z else l.getD t z := fun t => by rw [hr.get, hm]
  refine ⟨fun s t p1 p2 p3 => ?_, fun s t p1 p2 p3 => ?_, fun s t p1 p2 p3 p4 => ?_, fun s t p1 p2 p3 => ?_, fun s t p1 p2 p3 => ?_, fun s t p1 p2 p3 p4 => ?_⟩
  · rw [g, g, if_pos (by omega), if_pos (by omega)]; exact hS1 _ _ p1 p2 (by omega)
  · rw [g, g, if_neg (by omega), if_pos (by omega), if_neg (by omega), if_pos (by omega)]; exact hS2 _ _ (by omega) (by omega) (by omega)
  · rw [g, g, if_pos (by omega), if_neg (by omega), if_pos (by omega)]; exact hP _ _ p1 (by omega) (by omega) (by omega)
  · rw [g, g, if_neg (by omega), if_neg (by omega), if_pos (by omega), if_neg (by omega), if_neg (by omega), if_pos (by omega)]; exact hS1 _ _ (by omega) (by omega) (by omega)
  · rw [g, g, if_neg (by omega), if_neg (by omega), if_neg (by omega), if_neg (by omega), if_neg (by omega), if_neg (by omega)]; exact hS2 _ _ (by omega) p2 p3
  · rw [g, g, if_neg (by omega), if_neg (by omega), if_pos (by omega), if_neg (by omega), if_neg (by omega), if_neg (by omega)]; exact hP _ _ (by omega) (by omega) (by omega) p4
/-- The one at a, moved up by k. -/
def shU (a : Nat) : Nat → List Pt → List Pt
  | 0, l => l
  | k + 1, l => sw (shU a k l) (a + k) (a + k + 1)
theorem shU_len (a : Nat) : ∀ (k : Nat) (l : List Pt), (shU a k l).length = l.length
  | 0, _ => rfl
  | k + 1, l => by rw [shU, sw_len, shU_len a k l]
theorem shU_get {a : Nat} : ∀ (k : Nat) {l : List Pt}, a + k < l.length → ∀ t, (shU a k l).getD t z = if t < a then l.getD t z else if t < a + k then l.getD (t + 1) z else if t = a + k then l.getD a z else l.getD t z
  | 0, l, h, t => by
    rw [shU]
    by_cases e : t = a
    · subst e; rw [if_neg (by omega), if_neg (by omega), if_pos (by omega)]
    · by_cases e2 : t < a
      · rw [if_pos e2]
      · rw [if_neg e2, if_neg (by omega), if_neg (by omega)]
  | k + 1, l, h, t => by
    have ih := shU_get (a := a) k (l := l) (by omega)
    have hl := shU_len a k l
    rw [shU, sw_get (l := shU a k l) (i := a + k) (j := a + k + 1) (by omega) (by omega), ih, ih, ih]
    by_cases e1 : t = a + k + 1
    · subst e1
      rw [if_pos rfl, if_neg (by omega), if_neg (by omega), if_pos rfl, if_neg (by omega), if_neg (by omega), if_pos (by omega)]
    · rw [if_neg e1]
      by_cases e2 : t = a + k
      · subst e2
        rw [if_pos rfl, if_neg (by omega), if_neg (by omega), if_neg (by omega), if_neg (by omega), if_pos (by omega)]
      · rw [if_neg e2]
        by_cases e3 : t < a
        · rw [if_pos e3, if_pos e3]
        · rw [if_neg e3, if_neg e3]
          by_cases e4 : t < a + k
          · rw [if_pos e4, if_pos (by omega)]
          · rw [if_neg e4, if_neg e2, if_neg (by omega), if_neg (by omega)]
theorem shU_res {a b : Nat} : ∀ (k : Nat) {l : List Pt}, a + k < b → b ≤ l.length → Res a b l (shU a k l)
  | 0, l, _, _ => Res.refl a b l
  | k + 1, l, h1, h2 => (shU_res k (by omega) h2).trans (sw_res (by omega) (by omega) (by rw [shU_len]; exact h2))
/-- The one at m, moved down by k. -/
def shD (m : Nat) : Nat → List Pt → List Pt
  | 0, l => l
  | k + 1, l => sw (shD m k l) (m - k) (m - k - 1)
theorem shD_len (m : Nat) : ∀ (k : Nat) (l : List Pt), (shD m k l).length = l.length
  | 0, _ => rfl
  | k + 1, l => by rw [shD, sw_len, shD_len m k l]
theorem shD_get {m : Nat} : ∀ (k : Nat) {l : List Pt}, k ≤ m → m < l.length → ∀ t, (shD m k l).getD t z = if t < m - k then l.getD t z else if t = m - k then l.getD m z else if t ≤ m then l.getD (t - 1) z else l.getD t z
  | 0, l, h, h2, t => by
    rw [shD]
    by_cases e : t = m
    · subst e; rw [if_neg (by omega), if_pos (by omega)]
    · by_cases e2 : t < m
      · rw [if_pos (by omega)]
      · rw [if_neg (by omega), if_neg (by omega), if_neg (by omega)]
  | k + 1, l, h, h2, t => by
    have ih := shD_get (m := m) k (l := l) (by omega) h2
    have hl := shD_len m k l
    rw [shD, sw_get (l := shD m k l) (i := m - k) (j := m - k - 1) (by omega) (by omega), ih, ih, ih]
    by_cases e1 : t = m - k - 1
    · subst e1
      rw [if_pos rfl, if_neg (by omega), if_pos rfl, if_neg (by omega), if_pos (by omega)]
    · rw [if_neg e1]
      by_cases e2 : t = m - k
      · subst e2
        rw [if_pos rfl, if_pos (by omega), if_neg (by omega), if_neg (by omega), if_pos (by omega)]
      · rw [if_neg e2]
        by_cases e3 : t < m - k - 1
        · rw [if_pos (by omega), if_pos (by omega)]
        · rw [if_neg (by omega), if_neg e2]
          by_cases e4 : t ≤ m
          · rw [if_pos e4, if_neg (by omega), if_neg (by omega)]
          · rw [if_neg e4, if_neg (by omega), if_neg (by omega)]
theorem shD_res {a m b : Nat} : ∀ (k : Nat) {l : List Pt}, a + k ≤ m → m < b → b ≤ l.length → Res a b l (shD m k l)
  | 0, l, _, _, _ => Res.refl a b l
  | k + 1, l, h1, h2, h3 => (shD_res k (by omega) h2 h3).trans (sw_res (by omega) (by omega) (by rw [shD_len]; exact h3))
/-- One on the left, brought to its place on the right. -/
theorem up_sorted {l : List Pt} {a b i : Nat} (h1 : a + 1 ≤ i) (h2 : i ≤ b) (hb : b ≤ l.length) (hab : a < b) (hS : Srt l (a + 1) b) (hc1 : a + 1 < i → R (l.getD (i - 1) z) (l.getD a z)) (hc2 : i < b → R (l.getD a z) (l.getD i z)) : Srt (shU a (i - 1 - a) l) a b := by
  have g := shU_get (a := a) (i - 1 - a) (l := l) (by have := hab; omega)
  intro s t p1 p2 p3
  rw [g, g, if_neg (by omega), if_neg (show ¬ t < a by omega)]
  by_cases e1 : t < a + (i - 1 - a)
  · rw [if_pos (by omega), if_pos e1]; exact hS _ _ (by omega) (by omega) (by omega)
  · rw [if_neg e1]
    by_cases e2 : t = a + (i - 1 - a)
    · rw [if_pos e2, if_pos (by omega)]
      by_cases e3 : s + 1 = i - 1
      · rw [e3]; exact hc1 (by omega)
      · exact (hS (s + 1) (i - 1) (by omega) (by omega) (by omega)).trans (hc1 (by omega))
    · rw [if_neg e2]
      by_cases e3 : s < a + (i - 1 - a)
      · rw [if_pos e3]; exact hS _ _ (by omega) (by omega) p3
      · rw [if_neg e3]
        by_cases e4 : s = a + (i - 1 - a)
        · rw [if_pos e4]
          by_cases e5 : t = i
          · rw [e5]; exact hc2 (by omega)
          · exact (hc2 (by omega)).trans (hS i t (by omega) (by omega) p3)
        · rw [if_neg e4]; exact hS _ _ (by omega) p2 p3
/-- One on the right, brought to its place on the left. -/
theorem down_sorted {l : List Pt} {a m i : Nat} (h1 : a ≤ i) (h2 : i ≤ m) (hb : m < l.length) (hS : Srt l a m) (hc1 : a < i → R (l.getD (i - 1) z) (l.getD m z)) (hc2 : i < m → R (l.getD m z) (l.getD i z)) : Srt (shD m (m - i) l) a (m + 1) := by
  have g := shD_get (m := m) (m - i) (l := l) (by omega) hb
  have e0 : m - (m - i) = i := by omega
  intro s t p1 p2 p3
  rw [g, g, e0]
  by_cases e1 : t < i
  · rw [if_pos (show s < i by omega), if_pos e1]; exact hS _ _ p1 p2 (by omega)
  · rw [if_neg e1]
    by_cases e2 : t = i
    · rw [if_pos e2, if_pos (show s < i by omega)]
      by_cases e3 : s = i - 1
      · rw [e3]; exact hc1 (by omega)
      · exact (hS s (i - 1) p1 (by omega) (by omega)).trans (hc1 (by omega))
    · rw [if_neg e2, if_pos (show t ≤ m by omega)]
      by_cases e3 : s < i
      · rw [if_pos e3]; exact hS _ _ p1 (by omega) (by omega)
      · rw [if_neg e3]
        by_cases e4 : s = i
        · rw [if_pos e4]
          by_cases e5 : t - 1 = i
          · rw [e5]; exact hc2 (by omega)
          · exact (hc2 (by omega)).trans (hS i (t - 1) h1 (by omega) (by omega))
        · rw [if_neg e4, if_pos (show s ≤ m by omega)]; exact hS _ _ (by omega) (by omega) (by omega)
end SymP
namespace SymP
theorem swapL_sw (l : List (Nat × Nat)) (j : Nat) : swapL l j = sw l j (j - 1) := rfl
/-- One, moved down to its place, in a sorted row. -/
theorem insD_srt {a : Nat} : ∀ (j : Nat) {l : List Pt}, a ≤ j → j < l.length → Srt l a j → (∀ s, a ≤ s → s < j → (l.getD s z).1 < (l.getD j z).1) → Srt (insD a j l) a (j + 1) ∧ Res a (j + 1) l (insD a j l)
  | 0, l, h1, h2, hS, hi => ⟨fun s t p1 p2 p3 => absurd p2 (by omega), Res.refl _ _ _⟩
  | j + 1, l, h1, h2, hS, hi => by
    rw [insD]
    by_cases hc : a < j + 1 ∧ (l.getD j (0, 0)).2 < (l.getD (j + 1) (0, 0)).2
    · rw [if_pos hc, swapL_sw, Nat.add_sub_cancel]
      obtain ⟨ha, hlt⟩ := hc
      have g := sw_get (l := l) (i := j + 1) (j := j) h2 (by omega)
      have ih := insD_srt (a := a) j (l := sw l (j + 1) j) (by omega) (by rw [sw_len]; omega) (fun s t p1 p2 p3 => by
        rw [g, g, if_neg (show ¬ s = j by omega), if_neg (show ¬ s = j + 1 by omega), if_neg (show ¬ t = j by omega), if_neg (show ¬ t = j + 1 by omega)]
        exact hS s t p1 p2 (by omega)) (fun s p1 p2 => by
        rw [g, g, if_neg (show ¬ s = j by omega), if_neg (show ¬ s = j + 1 by omega), if_pos rfl]
        exact hi s p1 (by omega))
      obtain ⟨q1, q2⟩ := ih
      refine ⟨fun s t p1 p2 p3 => ?_, (sw_res (a := a) (b := j + 1 + 1) (l := l) (i := j + 1) (j := j) (by omega) (by omega) (by omega)).trans (q2.wide (Nat.le_refl _) (by omega))⟩
      by_cases e : t < j + 1
      · exact q1 s t p1 p2 e
      · have et : t = j + 1 := by omega
        subst et
        rw [q2.out (j + 1) (.inr (Nat.le_refl _)), g, if_neg (show ¬ j + 1 = j by omega), if_pos rfl]
        obtain ⟨s', r1, r2, r3⟩ := q2.mem s p1 (by omega)
        rw [r3, g]
        by_cases e2 : s' = j
        · rw [if_pos e2]
          exact .inl hlt
        · rw [if_neg e2, if_neg (show ¬ s' = j + 1 by omega)]
          exact hS s' j r1 (by omega) (by omega)
    · rw [if_neg hc]
      refine ⟨fun s t p1 p2 p3 => ?_, Res.refl _ _ _⟩
      by_cases e : t < j + 1
      · exact hS s t p1 p2 e
      · have et : t = j + 1 := by omega
        subst et
        have hle : (l.getD (j + 1) z).2 ≤ (l.getD j z).2 := by
          have : ¬ ((l.getD j (0, 0)).2 < (l.getD (j + 1) (0, 0)).2) := fun h => hc ⟨by omega, h⟩
          exact Nat.le_of_not_lt this
        have hj : R (l.getD j z) (l.getD (j + 1) z) := by
          have hx := hi j (by omega) (by omega)
          unfold R
          omega
        by_cases e2 : s = j
        · rw [e2]; exact hj
        · exact (hS s j p1 (by omega) (by omega)).trans hj
/-- k of them, moved down: what came in order stands in order. -/
theorem insN_srt {a : Nat} : ∀ (k : Nat) {l : List Pt}, (k = 0 ∨ a + k < l.length) → (∀ s t, a ≤ s → s < t → t < a + 1 + k → (l.getD s z).1 < (l.getD t z).1) → Srt (insN a k l) a (a + 1 + k) ∧ Res a (a + 1 + k) l (insN a k l)
  | 0, l, h, hi => ⟨fun s t p1 p2 p3 => absurd p2 (by omega), Res.refl _ _ _⟩
  | k + 1, l, h, hi => by
    obtain ⟨q1, q2⟩ := insN_srt (a := a) k (l := l) (by omega) (fun s t p1 p2 p3 => hi s t p1 p2 (by omega))
    rw [insN]
    have hlen := q2.len
    obtain ⟨r1, r2⟩ := insD_srt (a := a) (a + 1 + k) (l := insN a k l) (by omega) (by omega) q1 (fun s p1 p2 => by
      rw [q2.out (a + 1 + k) (.inr (Nat.le_refl _))]
      obtain ⟨s', u1, u2, u3⟩ := q2.mem s p1 p2
      rw [u3]
      exact hi s' (a + 1 + k) u1 u2 (by omega))
    exact ⟨r1, (q2.wide (Nat.le_refl _) (by omega)).trans r2⟩
end SymP
namespace SymP
def Inc (l : List Pt) (a b : Nat) : Prop := ∀ s t, a ≤ s → s < t → t < b → (l.getD s z).1 < (l.getD t z).1
theorem Res.srt {a b c d : Nat} {l l' : List Pt} (h : Res a b l l') (hd : d ≤ a ∨ b ≤ c) (hS : Srt l c d) : Srt l' c d := fun s t p1 p2 p3 => by
  rw [h.out s (by omega), h.out t (by omega)]
  exact hS s t p1 p2 p3
theorem Res.inc {a b c d : Nat} {l l' : List Pt} (h : Res a b l l') (hd : d ≤ a ∨ b ≤ c) (hS : Inc l c d) : Inc l' c d := fun s t p1 p2 p3 => by
  rw [h.out s (by omega), h.out t (by omega)]
  exact hS s t p1 p2 p3
theorem Res.sep {a b c n : Nat} {l l' : List Pt} (h : Res a b l l') (hb : b ≤ n) (hc : c ≤ a ∨ b ≤ c) (hS : Sep l 0 c n) : Sep l' 0 c n := fun s t p1 p2 p3 p4 => by
  by_cases es : a ≤ s ∧ s < b
  · obtain ⟨s', q1, q2, q3⟩ := h.mem s es.1 es.2
    rw [q3, h.out t (by omega)]
    exact hS s' t (by omega) (by omega) p3 p4
  · rw [h.out s (by omega)]
    by_cases et : a ≤ t ∧ t < b
    · obtain ⟨t', q1, q2, q3⟩ := h.mem t et.1 et.2
      rw [q3]
      exact hS s t' p1 p2 (by omega) (by omega)
    · rw [h.out t (by omega)]
      exact hS s t p1 p2 p3 p4
/-- The blocks of twenty below a are sorted; from a on all stands as it came. -/
structure J (n k : Nat) (l0 l : List Pt) : Prop where
  len : l.length = n
  perm : l.Perm l0
  srt : ∀ i, i < k → Srt l (20 * i) (20 * i + 20)
  inc : Inc l (20 * k) n
  sep : ∀ c, Sep l 0 (20 * c) n
theorem J.start {n : Nat} {l : List Pt} (h : l.length = n) (hi : Inc l 0 n) : J n 0 l l := ⟨h, .refl l, fun i h => absurd h (by omega), hi, fun c s t p1 p2 p3 p4 => hi s t p1 (by omega) p4⟩
theorem insN_of {n a b : Nat} {l : List Pt} (hab : a < b) (hb : b ≤ n) (hl : l.length = n) (hi : Inc l a n) : Srt (insN a (b - a - 1) l) a b ∧ Res a b l (insN a (b - a - 1) l) := by
  have := insN_srt (a := a) (b - a - 1) (l := l) (by omega) (fun s t p1 p2 p3 => hi s t p1 p2 (by omega))
  have e : a + 1 + (b - a - 1) = b := by omega
  rwa [e] at this
theorem J.step {n k : Nat} {l0 l : List Pt} (h : J n k l0 l) (hk : 20 * k + 20 ≤ n) : J n (k + 1) l0 (insN (20 * k) (20 * k + 20 - 20 * k - 1) l) := by
  obtain ⟨q1, q2⟩ := insN_of (a := 20 * k) (b := 20 * k + 20) (by omega) hk h.len h.inc
  refine ⟨q2.len.trans h.len, q2.perm.trans h.perm, fun i hi => ?_, q2.inc (.inr (by omega)) (fun s t p1 p2 p3 => h.inc s t (by omega) p2 p3), fun c => q2.sep hk (by omega) (h.sep c)⟩
  by_cases e : i = k
  · subst e; exact q1
  · exact q2.srt (.inl (by omega)) (h.srt i (by omega))
/-- j pairs of blocks are merged. -/
structure K (n j : Nat) (l0 l : List Pt) : Prop where
  len : l.length = n
  perm : l.Perm l0
  big : ∀ i, i < j → Srt l (40 * i) (40 * i + 40)
  srt : ∀ i, 2 * j ≤ i → Srt l (20 * i) (min (20 * i + 20) n)
  sepb : ∀ c, Sep l 0 (40 * c) n
  sep : ∀ c, 2 * j ≤ c → Sep l 0 (20 * c) n
theorem J.last {n k : Nat} {l0 l : List Pt} (h : J n k l0 l) (hk : 20 * k ≤ n) (hk2 : n < 20 * k + 20) : K n 0 l0 (insN (20 * k) (n - 20 * k - 1) l) := by
  by_cases e : 20 * k = n
  · have e2 : n - 20 * k - 1 = 0 := by omega
    rw [e2]
    refine ⟨h.len, h.perm, fun i hi => absurd hi (by omega), fun i _ => ?_, fun c => ?_, fun c _ => h.sep c⟩
    · by_cases hi : i < k
      · rw [show min (20 * i + 20) n = 20 * i + 20 by omega]; exact h.srt i hi
      · intro s t p1 p2 p3; exact absurd p3 (by omega)
    · rw [show 40 * c = 20 * (2 * c) by omega]; exact h.sep (2 * c)
  · obtain ⟨q1, q2⟩ := insN_of (a := 20 * k) (b := n) (by omega) (Nat.le_refl n) h.len h.inc
    refine ⟨q2.len.trans h.len, q2.perm.trans h.perm, fun i hi => absurd hi (by omega), fun i _ => ?_, fun c => ?_, fun c _ => ?_⟩
    · by_cases hi : i < k
      · rw [show min (20 * i + 20) n = 20 * i + 20 by omega]; exact q2.srt (.inl (by omega)) (h.srt i hi)
      · by_cases e3 : i = k
        · subst e3
          rw [show min (20 * i + 20) n = n by omega]; exact q1
        · intro s t p1 p2 p3; exact absurd p3 (by omega)
    · rw [show 40 * c = 20 * (2 * c) by omega]
      by_cases e3 : 2 * c ≤ k
      · exact q2.sep (Nat.le_refl n) (.inl (by omega)) (h.sep (2 * c))
      · intro s t p1 p2 p3 p4; exact absurd p4 (by omega)
    · by_cases e3 : c ≤ k
      · exact q2.sep (Nat.le_refl n) (.inl (by omega)) (h.sep c)
      · intro s t p1 p2 p3 p4; exact absurd p4 (by omega)
theorem Sep.sub {l : List Pt} {a m b n : Nat} (h : Sep l 0 m n) (hb : b ≤ n) : Sep l a m b := fun s t _ p2 p3 p4 => h s t (Nat.zero_le _) p2 p3 (by omega)
/-- What a merge of two neighbours needs, and what it makes. -/
theorem K.step {n j b : Nat} {l0 l l' : List Pt} (h : K n j l0 l) (hb : b = min (40 * j + 40) n) (hj : 40 * j + 20 < n) (hr : Res (40 * j) b l l') (hs : Srt l' (40 * j) b) (hbb : b = 40 * j + 40) : K n (j + 1) l0 l' := by
  refine ⟨hr.len.trans h.len, hr.perm.trans h.perm, fun i hi => ?_, fun i hi => ?_, fun c => hr.sep (by omega) (by omega) (h.sepb c), fun c hc => hr.sep (by omega) (.inr (by omega)) (h.sep c (by omega))⟩
  · by_cases e : i = j
    · subst e; rw [← hbb]; exact hs
    · exact hr.srt (.inl (by omega)) (h.big i (by omega))
  · exact hr.srt (.inr (by omega)) (h.srt i (by omega))
theorem K.ask {n j b : Nat} {l0 l : List Pt} (h : K n j l0 l) (hb : b = min (40 * j + 40) n) (hj : 40 * j + 20 < n) : Srt l (40 * j) (40 * j + 20) ∧ Srt l (40 * j + 20) b ∧ Sep l (40 * j) (40 * j + 20) b := by
  have h1 := h.srt (2 * j) (Nat.le_refl _)
  have h2 := h.srt (2 * j + 1) (by omega)
  have h3 := h.sep (2 * j + 1) (by omega)
  rw [show 20 * (2 * j) = 40 * j by omega, show min (40 * j + 20) n = 40 * j + 20 by omega] at h1
  rw [show 20 * (2 * j + 1) = 40 * j + 20 by omega] at h2 h3
  rw [show min (40 * j + 20 + 20) n = b by omega] at h2
  exact ⟨h1, h2, h3.sub (by omega)⟩
/-- Blocks of forty, sorted. -/
structure L (n : Nat) (l0 l : List Pt) : Prop where
  len : l.length = n
  perm : l.Perm l0
  srt : ∀ i, Srt l (40 * i) (min (40 * i + 40) n)
  sep : ∀ c, Sep l 0 (40 * c) n
theorem K.last {n j : Nat} {l0 l l' : List Pt} (h : K n j l0 l) (hj : 40 * j + 20 < n) (hj2 : n < 40 * j + 40) (hr : Res (40 * j) n l l') (hs : Srt l' (40 * j) n) : L n l0 l' := by
  refine ⟨hr.len.trans h.len, hr.perm.trans h.perm, fun i => ?_, fun c => ?_⟩
  · by_cases e : i = j
    · subst e; rw [show min (40 * i + 40) n = n by omega]; exact hs
    · by_cases e2 : i < j
      · rw [show min (40 * i + 40) n = 40 * i + 40 by omega]
        exact hr.srt (.inl (by omega)) (h.big i e2)
      · intro s t p1 p2 p3; exact absurd p3 (by omega)
  · by_cases e : c ≤ j
    · exact hr.sep (Nat.le_refl n) (.inl (by omega)) (h.sepb c)
    · intro s t p1 p2 p3 p4; exact absurd p4 (by omega)
theorem K.none {n j : Nat} {l0 l : List Pt} (h : K n j l0 l) (hj : 40 * j ≤ n) (hj2 : n ≤ 40 * j + 20) : L n l0 l := by
  refine ⟨h.len, h.perm, fun i => ?_, h.sepb⟩
  by_cases e2 : i < j
  · rw [show min (40 * i + 40) n = 40 * i + 40 by omega]
    exact h.big i e2
  · by_cases e : i = j
    · have h1 := h.srt (2 * j) (Nat.le_refl _)
      rw [show 20 * (2 * j) = 40 * j by omega] at h1
      subst e
      intro s t p1 p2 p3
      exact h1 s t p1 p2 (by omega)
    · intro s t p1 p2 p3; exact absurd p3 (by omega)
theorem L.ask {n : Nat} {l0 l : List Pt} (h : L n l0 l) (h1 : 40 < n) (h2 : n ≤ 80) : Srt l 0 40 ∧ Srt l 40 n ∧ Sep l 0 40 n := by
  have e1 := h.srt 0
  have e2 := h.srt 1
  have e3 := h.sep 1
  rw [show min (40 * 0 + 40) n = 40 by omega] at e1
  rw [show min (40 * 1 + 40) n = n by omega] at e2
  exact ⟨e1, e2, e3⟩
theorem L.small {n : Nat} {l0 l : List Pt} (h : L n l0 l) (h1 : n ≤ 40) : Srt l 0 n := by
  have e1 := h.srt 0
  rwa [show min (40 * 0 + 40) n = n by omega] at e1
/-- The order is strict and total on what differs: sorted once, sorted alike. -/
theorem R.asymm {x y : Pt} (h : R x y) (h' : R y x) : False := by
  unfold R at h h'
  omega
theorem Srt.pw {l : List Pt} {n : Nat} (hl : l.length = n) (h : Srt l 0 n) : l.Pairwise R := by
  rw [List.pairwise_iff_getElem]
  intro i j hi hj hij
  have := h i j (Nat.zero_le _) hij (by omega)
  simpa [List.getD_eq_getElem?_getD, hi, hj] using this
theorem Srt.one {l l' : List Pt} {n : Nat} (hl : l.length = n) (hl' : l'.length = n) (h : Srt l 0 n) (h' : Srt l' 0 n) (hp : l.Perm l') : l = l' :=
  List.Perm.eq_of_pairwise (fun _ _ _ _ h1 h2 => (R.asymm h1 h2).elim) (h.pw hl) (h'.pw hl') hp
end SymP
namespace SymP
theorem Rot.id {st m en : Nat} {l : List Pt} (h1 : st ≤ m) (h2 : m ≤ en) (h : st = m ∨ m = en) : Rot st m en l l := by
  refine ⟨rfl, fun t => ?_, .refl l⟩
  by_cases c1 : t < st
  · rw [if_pos c1]
  · rw [if_neg c1]
    by_cases c2 : t < st + (en - m)
    · rw [if_pos c2]
      congr 1; omega
    · rw [if_neg c2]
      by_cases c3 : t < en
      · rw [if_pos c3]
        congr 1; omega
      · rw [if_neg c3]
theorem Res.sep2 {a b c m d : Nat} {l l' : List Pt} (h : Res a b l l') (hd : b ≤ c) (hS : Sep l c m d) : Sep l' c m d := fun s t p1 p2 p3 p4 => by
  rw [h.out s (by omega), h.out t (by omega)]
  exact hS s t p1 p2 p3 p4
theorem Srt.join {a st mid : Nat} {l : List Pt} (h : ¬ (a < st ∧ st < mid)) (h1 : a ≤ st) (h2 : st ≤ mid) (hS1 : Srt l a st) (hS2 : Srt l st mid) : Srt l a mid := by
  by_cases e : a < st
  · obtain rfl : st = mid := by omega
    exact hS1
  · obtain rfl : st = a := by omega
    exact hS2
/-- What stands where the search is: all that the cut needs. -/
structure Cut (a m b mid st : Nat) (l : List Pt) : Prop where
  h1 : a ≤ st
  h2 : st ≤ m
  h3 : st ≤ mid
  h4 : mid + m - st ≤ b
  hc1 : a < st → mid + m - st < b → R (l.getD (st - 1) z) (l.getD (mid + m - st) z)
  hc2 : st < m → m < mid + m - st → R (l.getD (mid + m - st - 1) z) (l.getD st z)
/-- The search: where it is. -/
structure Srch (lo hi n : Nat) (l : List Pt) (st r : Nat) : Prop where
  h1 : lo ≤ st
  h2 : st ≤ r
  h3 : r ≤ hi
  left : st = lo ∨ R (l.getD (st - 1) z) (l.getD (n - st) z)
  right : r = hi ∨ R (l.getD (n - 1 - r) z) (l.getD r z)
theorem Srch.up {lo hi n c : Nat} {l : List Pt} {st r : Nat} (h : Srch lo hi n l st r) (h1 : st ≤ c) (h2 : c < r) (hc : R (l.getD c z) (l.getD (n - 1 - c) z)) : Srch lo hi n l (c + 1) r :=
  ⟨by have := h.h1; omega, by omega, h.h3, .inr (by rw [Nat.add_sub_cancel, show n - (c + 1) = n - 1 - c by omega]; exact hc), h.right⟩
theorem Srch.down {lo hi n c : Nat} {l : List Pt} {st r : Nat} (h : Srch lo hi n l st r) (h1 : st ≤ c) (h2 : c < r) (hc : R (l.getD (n - 1 - c) z) (l.getD c z)) : Srch lo hi n l st c :=
  ⟨h.h1, h1, by have := h.h3; omega, h.left, .inr hc⟩
theorem Srch.cut {a m b mid lo hi st : Nat} {l : List Pt} (hmid : mid = (a + b) / 2) (hlo : lo = if mid < m then mid + m - b else a) (hhi : hi = if mid < m then mid else m) (h : Srch lo hi (mid + m) l st st) : Cut a m b mid st l := by
  have h1 := h.h1
  have h3 := h.h3
  by_cases hc : mid < m
  · rw [if_pos hc] at hlo hhi
    refine ⟨by omega, by omega, by omega, by omega, fun q1 q2 => ?_, fun q1 q2 => ?_⟩
    · rcases h.left with e | e
      · omega
      · exact e
    · rcases h.right with e | e
      · omega
      · rwa [show mid + m - 1 - st = mid + m - st - 1 by omega] at e
  · rw [if_neg hc] at hlo hhi
    refine ⟨by omega, by omega, by omega, by omega, fun q1 q2 => ?_, fun q1 q2 => ?_⟩
    · rcases h.left with e | e
      · omega
      · exact e
    · rcases h.right with e | e
      · omega
      · rwa [show mid + m - 1 - st = mid + m - st - 1 by omega] at e
/-- What the halves ask, behind the rotation. -/
theorem Cut.ask {a m b mid st : Nat} {l l1 : List Pt} (h : Cut a m b mid st l) (hS1 : Srt l a m) (hS2 : Srt l m b) (hP : Sep l a m b) (hr : Rot st m (mid + m - st) l l1) : Srt l1 a st ∧ Srt l1 st mid ∧ Sep l1 a st mid ∧ Srt l1 mid (mid + m - st) ∧ Srt l1 (mid + m - st) b ∧ Sep l1 mid (mid + m - st) b :=
  cut_left h.h1 h.h2 (by have := h.h3; omega) h.h4 (by have := h.h3; have := h.h2; omega) hS1 hS2 hP hr
theorem Cut.all {a m b mid st : Nat} {l l1 l2 l3 : List Pt} (hm1 : a ≤ mid) (hm2 : mid ≤ b) (h : Cut a m b mid st l) (hS1 : Srt l a m) (hS2 : Srt l m b) (hr : Rot st m (mid + m - st) l l1) (k1 : Res a mid l1 l2) (q1 : Srt l2 a mid) (k2 : Res mid b l2 l3) (q2 : Srt l3 mid b) : Res a b l l3 ∧ Srt l3 a b := by
  have h1 := h.h1
  have h2 := h.h2
  have h3 := h.h3
  have h4 := h.h4
  refine ⟨(((hr.res h2 (by omega)).wide h1 h4).trans (k1.wide (Nat.le_refl _) hm2)).trans (k2.wide hm1 (Nat.le_refl _)), ?_⟩
  exact merge_sorted h1 h2 (by omega) h4 (by omega) hS1 hS2 h.hc1 h.hc2 hr k1 q1 k2 q2
/-- One on the left: the search. -/
structure Up (a b lo : Nat) (l : List Pt) (i j : Nat) : Prop where
  h1 : lo ≤ i
  h2 : i ≤ j
  h3 : j ≤ b
  left : lo < i → R (l.getD (i - 1) z) (l.getD a z)
  right : j < b → R (l.getD a z) (l.getD j z)
theorem Up.up {a b lo h : Nat} {l : List Pt} {i j : Nat} (q : Up a b lo l i j) (h1 : i ≤ h) (h2 : h < j) (hc : R (l.getD h z) (l.getD a z)) : Up a b lo l (h + 1) j :=
  ⟨by have := q.h1; omega, by omega, q.h3, fun _ => by rw [Nat.add_sub_cancel]; exact hc, q.right⟩
theorem Up.down {a b lo h : Nat} {l : List Pt} {i j : Nat} (q : Up a b lo l i j) (h1 : i ≤ h) (h2 : h < j) (hc : R (l.getD a z) (l.getD h z)) : Up a b lo l i h :=
  ⟨q.h1, h1, by have := q.h3; omega, q.left, fun _ => hc⟩
end SymP
end Go.Proofs.Ytochhjdjfgiaeaa
