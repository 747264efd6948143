/- Rounds in which all that is told comes: behind enough of them none is open, and all bodies have come. -/
import Derived.Test.YtnmbblkfaoihfaaZLY28
namespace Go.Proofs.Ytnmbblkfaoihfaa

theorem comeY_zero {p : Play} {a : Bool} {x : LPk} {r : List LPk} (h : p.way a = x :: r) : comeY p a 0 false false = onY { p with way := upB p.way a r } a x := by
  unfold comeY
  split
  · rename_i h2; rw [h2] at h; cases h
  · rename_i x' r' h2
    rw [h2] at h
    injection h with e1 e2
    subst e1; subst e2
    simp
theorem comeY_none {p : Play} {a : Bool} (h : p.way a = []) (n : Int) (s l : Bool) : comeY p a n s l = p := by
  unfold comeY
  split
  · rfl
  · rename_i x r h2; rw [h2] at h; cases h
/-- How many bodies are on their way. -/
def datas (l : List LPk) : Nat := (l.filter fun k => !decide (k.seq = 0)).length
theorem datas_le (l : List LPk) : datas l ≤ l.length := List.length_filter_le _ _
theorem datas_cons (x : LPk) (l : List LPk) : datas (x :: l) = (if x.seq = 0 then 0 else 1) + datas l := by
  unfold datas
  by_cases h : x.seq = 0 <;> simp [h] <;> omega
theorem datas_snoc0 (x : LPk) (l : List LPk) (h : x.seq = 0) : datas (l ++ [x]) = datas l := by
  unfold datas
  simp [h]
theorem onY_parts (p : Play) (a : Bool) (x : LPk) : (onY p a x).e = upB p.e a (onS (p.e a) x) ∧ (onY p a x).now = p.now ∧
    (onY p a x).way = if ((onP (p.e a) x).seq ≠ 0 ∨ (onP (p.e a) x).ack ≠ 0) ∧ (p.way (!a)).length < 400 then upB p.way (!a) (p.way (!a) ++ [onP (p.e a) x]) else p.way := by
  unfold onY
  simp only
  generalize (if onI (p.e a) x = true then upB p.came a (p.came a ++ [onB (p.e a) x]) else p.came) = C
  by_cases h : (onP (p.e a) x).seq ≠ 0 ∨ (onP (p.e a) x).ack ≠ 0
  · rw [if_pos h]
    unfold putY
    simp only
    by_cases h2 : (p.way (!a)).length < 400
    · rw [if_pos h2, if_pos ⟨h, h2⟩]
      exact ⟨rfl, rfl, rfl⟩
    · rw [if_neg h2, if_neg (fun hh => h2 hh.2)]
      exact ⟨rfl, rfl, rfl⟩
  · rw [if_neg h, if_neg (fun hh => h hh.1)]
    exact ⟨rfl, rfl, rfl⟩
theorem upB_at {α : Type} (f : Bool → α) (a : Bool) (x : α) : upB f (!a) x a = f a ∧ upB f (!a) x (!a) = x ∧ upB f a x (!a) = f (!a) ∧ upB f a x a = x := by cases a <;> simp [upB]
/-- What one coming does to the ways. -/
theorem come_ways {p : Play} {a : Bool} {x : LPk} {r : List LPk} (h : p.way a = x :: r) :
    (comeY p a 0 false false).way a = r ∧ ((comeY p a 0 false false).way (!a) = p.way (!a) ∨ x.seq ≠ 0 ∧ ∃ k : LPk, k.seq = 0 ∧ (comeY p a 0 false false).way (!a) = p.way (!a) ++ [k]) := by
  rw [comeY_zero h]
  obtain ⟨_, _, e⟩ := onY_parts { p with way := upB p.way a r } a x
  rw [e]
  simp only [(upB_at p.way a r).2.2.1]
  by_cases hc : ((onP (p.e a) x).seq ≠ 0 ∨ (onP (p.e a) x).ack ≠ 0) ∧ (p.way (!a)).length < 400
  · rw [if_pos hc]
    have hx : x.seq ≠ 0 := by
      intro e
      have hp := hc.1
      unfold onP at hp
      rw [if_neg (by simp [e])] at hp
      simp at hp
    have hk : (onP (p.e a) x).seq = 0 := by unfold onP; split <;> rfl
    rw [(upB_at _ a _).1, (upB_at _ a _).2.1, (upB_at p.way a r).2.2.2]
    exact ⟨rfl, .inr ⟨hx, _, hk, rfl⟩⟩
  · rw [if_neg hc, (upB_at p.way a r).2.2.2, (upB_at p.way a r).2.2.1]
    exact ⟨rfl, .inl rfl⟩
/-- One step of a round. -/
def stepY (p : Play) : Play := comeY (comeY p false 0 false false) true 0 false false
/-- All that is on its way comes. -/
def drainY : Nat → Play → Play
  | 0, p => p
  | n + 1, p => if (p.way false).length + (p.way true).length > 0 then drainY n (stepY p) else p
def roundY (p : Play) : Play := drainY 900 (ticksY p)
def roundsY : Nat → Play → Play
  | 0, p => p
  | n + 1, p => roundY (roundsY n p)
/-- How long a round still is. -/
def thetaN (w0 d0 w1 d1 : Nat) : Nat := max (w0 + d1) (w1 + d0) + if d0 = 0 ∧ d1 = w1 ∧ (0 < w0 ∨ w1 = 0) then 0 else 1
def thetaY (p : Play) : Nat := thetaN (p.way false).length (datas (p.way false)) (p.way true).length (datas (p.way true))
theorem theta_pos {w0 d0 w1 d1 : Nat} (h : d0 = 0 ∧ d1 = w1 ∧ (0 < w0 ∨ w1 = 0)) : thetaN w0 d0 w1 d1 = max (w0 + d1) (w1 + d0) := by unfold thetaN; rw [if_pos h]; omega
theorem theta_neg {w0 d0 w1 d1 : Nat} (h : ¬ (d0 = 0 ∧ d1 = w1 ∧ (0 < w0 ∨ w1 = 0))) : thetaN w0 d0 w1 d1 = max (w0 + d1) (w1 + d0) + 1 := by unfold thetaN; rw [if_neg h]
theorem theta_num {w0 d0 w1 d1 W0 D0 W1 D1 δ ε δ' ε' : Nat} (a1 : ε ≤ δ) (a4 : 0 < w0) (a5 : δ ≤ d0) (b1 : ε' ≤ δ') (b2 : δ' ≤ 1)
    (h1 : W0 + 1 = w0 + ε') (h2 : D0 + δ = d0) (h3 : W1 + 1 = w1 + ε) (h4 : D1 + δ' = d1) (s1 : D1 ≤ W1) : thetaN W0 D0 W1 D1 < thetaN w0 d0 w1 d1 := by
  have k : max (W0 + D1) (W1 + D0) + 1 ≤ max (w0 + d1) (w1 + d0) := by omega
  by_cases h : d0 = 0 ∧ d1 = w1 ∧ (0 < w0 ∨ w1 = 0)
  · rw [theta_pos h]
    obtain ⟨k2, k3, _⟩ := h
    by_cases h' : D0 = 0 ∧ D1 = W1 ∧ (0 < W0 ∨ W1 = 0)
    · rw [theta_pos h']; omega
    · rw [theta_neg h']
      have : W0 = 0 ∧ 0 < W1 := by omega
      omega
  · rw [theta_neg h]
    clear h
    by_cases h' : D0 = 0 ∧ D1 = W1 ∧ (0 < W0 ∨ W1 = 0)
    · rw [theta_pos h']; omega
    · rw [theta_neg h']; omega
/-- The other way is empty. -/
theorem theta_num0 {w0 d0 W0 D0 δ : Nat} (h1 : W0 + 1 = w0) (h2 : D0 + δ = d0) (s0 : D0 ≤ W0) : thetaN W0 D0 0 0 < thetaN w0 d0 0 0 := by
  by_cases h : d0 = 0
  · rw [theta_pos ⟨h, rfl, .inr rfl⟩, theta_pos ⟨by omega, rfl, .inr rfl⟩]
    omega
  · rw [theta_neg (w0 := w0) (fun hh => h hh.1)]
    by_cases h' : D0 = 0
    · rw [theta_pos ⟨h', rfl, .inr rfl⟩]; omega
    · rw [theta_neg (fun hh => h' hh.1)]; omega
/-- The first way is empty. -/
theorem theta_num1 {w1 d1 W0 W1 D1 δ ε : Nat} (a1 : ε ≤ δ) (a2 : δ ≤ 1) (h1 : W0 = ε) (h3 : W1 + 1 = w1) (h4 : D1 + δ = d1) (s1 : D1 ≤ W1) : thetaN W0 0 W1 D1 < thetaN 0 0 w1 d1 := by
  rw [theta_neg (w0 := 0) (fun hh => by have := hh.2.2; omega)]
  by_cases h' : (0 : Nat) = 0 ∧ D1 = W1 ∧ (0 < W0 ∨ W1 = 0)
  · rw [theta_pos h']; omega
  · rw [theta_neg h']
    have : D1 ≠ W1 ∨ W0 = 0 ∧ 0 < W1 := by omega
    omega
theorem theta_step (p : Play) (hp : 0 < (p.way false).length + (p.way true).length) : thetaY (stepY p) < thetaY p := by
  obtain ⟨q, hq⟩ : ∃ q, comeY p false 0 false false = q := ⟨_, rfl⟩
  have h0 := datas_le (p.way false)
  have h1 := datas_le (p.way true)
  -- the first coming
  have key1 : (p.way false = [] ∧ q = p) ∨ ∃ δ ε : Nat, ε ≤ δ ∧ δ ≤ 1 ∧ δ ≤ datas (p.way false) ∧ (q.way false).length + 1 = (p.way false).length ∧ datas (q.way false) + δ = datas (p.way false) ∧ (q.way true).length = (p.way true).length + ε ∧ datas (q.way true) = datas (p.way true) := by
    cases hw : p.way false with
    | nil => exact .inl ⟨rfl, by rw [← hq]; exact comeY_none hw _ _ _⟩
    | cons x r =>
      right
      obtain ⟨k1, k2⟩ := come_ways hw
      rw [hq] at k1 k2
      simp only [Bool.not_false] at k2
      rcases k2 with k2 | ⟨hx, k, hk, k2⟩
      · refine ⟨if x.seq = 0 then 0 else 1, 0, by omega, by split <;> omega, by rw [datas_cons]; omega, by rw [k1]; simp, by rw [k1, datas_cons]; omega, by rw [k2]; omega, by rw [k2]⟩
      · refine ⟨1, 1, by omega, by omega, by rw [datas_cons, if_neg hx]; omega, by rw [k1]; simp, by rw [k1, datas_cons, if_neg hx]; omega, by rw [k2]; simp, by rw [k2, datas_snoc0 _ _ hk]⟩
  have g0 := datas_le (q.way false)
  have g1 := datas_le (q.way true)
  obtain ⟨s, hs⟩ : ∃ s, comeY q true 0 false false = s := ⟨_, rfl⟩
  have key2 : (q.way true = [] ∧ s = q) ∨ ∃ δ ε : Nat, ε ≤ δ ∧ δ ≤ 1 ∧ δ ≤ datas (q.way true) ∧ (s.way true).length + 1 = (q.way true).length ∧ datas (s.way true) + δ = datas (q.way true) ∧ (s.way false).length = (q.way false).length + ε ∧ datas (s.way false) = datas (q.way false) := by
    cases hw : q.way true with
    | nil => exact .inl ⟨rfl, by rw [← hs]; exact comeY_none hw _ _ _⟩
    | cons x r =>
      right
      obtain ⟨k1, k2⟩ := come_ways hw
      rw [hs] at k1 k2
      simp only [Bool.not_true] at k2
      rcases k2 with k2 | ⟨hx, k, hk, k2⟩
      · refine ⟨if x.seq = 0 then 0 else 1, 0, by omega, by split <;> omega, by rw [datas_cons]; omega, by rw [k1]; simp, by rw [k1, datas_cons]; omega, by rw [k2]; omega, by rw [k2]⟩
      · refine ⟨1, 1, by omega, by omega, by rw [datas_cons, if_neg hx]; omega, by rw [k1]; simp, by rw [k1, datas_cons, if_neg hx]; omega, by rw [k2]; simp, by rw [k2, datas_snoc0 _ _ hk]⟩
  have s0 := datas_le (s.way false)
  have s1 := datas_le (s.way true)
  have hst : stepY p = s := by unfold stepY; rw [hq, hs]
  rw [hst]
  unfold thetaY
  have e0 : p.way false = [] → (p.way false).length = 0 := fun e => by rw [e]; rfl
  have e1 : q.way true = [] → (q.way true).length = 0 := fun e => by rw [e]; rfl
  rcases key1 with ⟨k1, rfl⟩ | ⟨δ, ε, a1, a2, a3, a4, a5, a6, a7⟩
  · have z := e0 k1
    have zd : datas (q.way false) = 0 := by omega
    rcases key2 with ⟨k2, rfl⟩ | ⟨δ', ε', b1, b2, b3, b4, b5, b6, b7⟩
    · have := e1 k2; omega
    · rw [b7, zd, z]
      exact theta_num1 b1 b2 (by omega) (by omega) (by omega) s1
  · rcases key2 with ⟨k2, rfl⟩ | ⟨δ', ε', b1, b2, b3, b4, b5, b6, b7⟩
    · have z := e1 k2
      have hw1 : (p.way true).length = 0 := by omega
      have hd1 : datas (p.way true) = 0 := by omega
      have hD1 : datas (s.way true) = 0 := by omega
      rw [hw1, hd1, hD1, z]
      exact theta_num0 (by omega) a5 s0
    · exact theta_num a1 (by omega) a3 b1 b2 (by omega) (by omega) (by omega) (by omega) s1
theorem drain_empty : ∀ (n : Nat) (p : Play), thetaY p ≤ n → (drainY n p).way false = [] ∧ (drainY n p).way true = []
  | 0, p, h => by
    have h0 := datas_le (p.way false)
    unfold thetaY thetaN at h
    have : (p.way false).length = 0 ∧ (p.way true).length = 0 := by omega
    exact ⟨List.eq_nil_of_length_eq_zero this.1, List.eq_nil_of_length_eq_zero this.2⟩
  | n + 1, p, h => by
    by_cases hp : (p.way false).length + (p.way true).length > 0
    · have e : drainY (n + 1) p = drainY n (stepY p) := if_pos hp
      have := theta_step p hp
      rw [e]
      exact drain_empty n _ (by omega)
    · have e : drainY (n + 1) p = p := if_neg hp
      rw [e]
      exact ⟨List.eq_nil_of_length_eq_zero (by omega), List.eq_nil_of_length_eq_zero (by omega)⟩
/-- What a step keeps, all comings keep. -/
theorem drain_keeps {Q : Play → Prop} (hQ : ∀ p, Q p → Q (stepY p)) : ∀ (n : Nat) (p : Play), Q p → Q (drainY n p)
  | 0, _, h => h
  | n + 1, p, h => by
    unfold drainY
    split
    · exact drain_keeps hQ n _ (hQ p h)
    · exact h
theorem GoodY.theta {p : Play} (h : GoodY p) : thetaY p ≤ 900 := by
  have h0 := datas_le (p.way false)
  have h1 := datas_le (p.way true)
  have w0 := h.way false
  have w1 := h.way true
  unfold thetaY thetaN
  split <;> omega
theorem stepG {p : Play} {n : Nat} (hn : n ≤ 1000000) (h : GoodY p ∧ FewY p n) : GoodY (stepY p) ∧ FewY (stepY p) n := by
  obtain ⟨h1, h2⟩ := h.1.come h.2 hn false 0 false false
  exact h1.come h2 hn true 0 false false
theorem GoodY.round {p : Play} (h : GoodY p) {n : Nat} (hf : FewY p n) (hn : n < 1000000) : GoodY (roundY p) ∧ FewY (roundY p) (n + 1) ∧ (roundY p).way false = [] ∧ (roundY p).way true = [] := by
  obtain ⟨h1, h2⟩ := h.ticks hf hn
  obtain ⟨k1, k2⟩ := drain_keeps (Q := fun p => GoodY p ∧ FewY p (n + 1)) (fun q hq => stepG (by omega) hq) 900 _ ⟨h1, h2⟩
  exact ⟨k1, k2, drain_empty 900 _ h1.theta⟩
/-- The item s of end a is under way, or is not open any more. -/
def Pend (a : Bool) (s : Int) (p : Play) : Prop := 1 ≤ s ∧ s ≤ (p.e (!a)).mark + 1 ∧ (p.way false).length + (p.way true).length < 400 ∧ ((∃ k ∈ p.way (!a), k.seq = s) ∨ (∃ k ∈ p.way a, s ≤ k.ack) ∨ ∀ x ∈ (p.e a).l, s < x.seq)
/-- What a coming leaves, by parts. -/
theorem come_parts {p : Play} {c : Bool} {x : LPk} {r : List LPk} (hw : p.way c = x :: r) (hs : (p.way false).length + (p.way true).length < 400) (hm : mayL x = true) :
    (comeY p c 0 false false).e = upB p.e c (onS (p.e c) x) ∧ (comeY p c 0 false false).way c = r ∧ (comeY p c 0 false false).way (!c) = p.way (!c) ++ (if x.seq ≠ 0 ∧ (onS (p.e c) x).mark ≠ 0 then [⟨0, (onS (p.e c) x).mark, []⟩] else []) := by
  have hlt : (p.way (!c)).length < 400 := by cases c <;> simp <;> omega
  rw [comeY_zero hw]
  obtain ⟨e1, _, e3⟩ := onY_parts { p with way := upB p.way c r } c x
  have hp : (x.seq ≠ 0 ∧ onP (p.e c) x = ⟨0, (onS (p.e c) x).mark, []⟩) ∨ (x.seq = 0 ∧ onP (p.e c) x = ⟨0, 0, []⟩) := by
    unfold onP
    by_cases e : x.seq ≠ 0
    · exact .inl ⟨e, if_pos ⟨hm, e⟩⟩
    · exact .inr ⟨by simpa using e, if_neg (fun h => e h.2)⟩
  refine ⟨e1, ?_⟩
  rw [e3]
  simp only [(upB_at p.way c r).2.2.1]
  rcases hp with ⟨hx, hp⟩ | ⟨hx, hp⟩
  · rw [hp]
    by_cases e2 : (onS (p.e c) x).mark ≠ 0
    · rw [if_pos ⟨.inr e2, hlt⟩, if_pos ⟨hx, e2⟩, (upB_at _ c _).1, (upB_at _ c _).2.1, (upB_at p.way c r).2.2.2]
      exact ⟨rfl, rfl⟩
    · rw [if_neg (by simp at e2; simp [e2]), if_neg (fun h => e2 h.2), (upB_at p.way c r).2.2.2, (upB_at p.way c r).2.2.1]
      simp
  · rw [hp, if_neg (by simp), if_neg (fun h => h.1 hx), (upB_at p.way c r).2.2.2, (upB_at p.way c r).2.2.1]
    simp
theorem onS_mark {s : LSt} {x : LPk} (hm : mayL x = true) : s.mark ≤ (onS s x).mark ∧ (x.seq ≠ 0 → x.seq ≤ s.mark + 1 → x.seq ≤ (onS s x).mark) := by
  unfold onS
  rw [if_pos hm]
  simp only
  split
  · exact ⟨by omega, fun _ h => by omega⟩
  · rename_i h
    exact ⟨Int.le_refl _, fun h0 h1 => by omega⟩
theorem onS_l {s : LSt} {x : LPk} (hm : mayL x = true) : (onS s x).l = s.l.filter fun y => !decide (y.seq ≤ x.ack) := by
  unfold onS
  rw [if_pos hm]
  rfl
theorem Pend.come {a : Bool} {s : Int} {p : Play} (h : Pend a s p) (hg : GoodY p) (c : Bool) : Pend a s (comeY p c 0 false false) := by
  obtain ⟨h1, h2, h3, h4⟩ := h
  cases hw : p.way c with
  | nil => rw [comeY_none hw]; exact ⟨h1, h2, h3, h4⟩
  | cons x r =>
    have hxm : mayL x = true := hg.may c x (by rw [hw]; simp)
    obtain ⟨e1, e2, e3⟩ := come_parts hw h3 hxm
    obtain ⟨q, hq⟩ : ∃ q, comeY p c 0 false false = q := ⟨_, rfl⟩
    rw [hq] at e1 e2 e3 ⊢
    have hmk := onS_mark (s := p.e c) hxm
    have hsum : (q.way false).length + (q.way true).length ≤ (p.way false).length + (p.way true).length := by
      have f1 := congrArg List.length e2
      have f2 := congrArg List.length e3
      have f3 := congrArg List.length hw
      simp only [List.length_append, List.length_cons] at f1 f2 f3
      have : (if x.seq ≠ 0 ∧ (onS (p.e c) x).mark ≠ 0 then [(⟨0, (onS (p.e c) x).mark, []⟩ : LPk)] else []).length ≤ 1 := by split <;> simp
      cases c <;> simp only [Bool.not_false, Bool.not_true] at f2 <;> omega
    refine ⟨h1, ?_, by omega, ?_⟩
    · rw [e1]
      simp only [upB]
      split
      · rename_i e; rw [e] at h2; omega
      · exact h2
    · by_cases hc : c = a
      · -- it comes to a
        subst hc
        have hl : (q.e c).l = (p.e c).l.filter fun y => !decide (y.seq ≤ x.ack) := by rw [e1, upB_same, onS_l hxm]
        rcases h4 with ⟨k, hk, hks⟩ | ⟨k, hk, hks⟩ | h4
        · exact .inl ⟨k, by rw [e3]; exact List.mem_append_left _ hk, hks⟩
        · rw [hw] at hk
          rcases List.mem_cons.1 hk with rfl | hk
          · refine .inr (.inr fun y hy => ?_)
            rw [hl] at hy
            have := (List.mem_filter.1 hy).2
            simp at this
            omega
          · exact .inr (.inl ⟨k, by rw [e2]; exact hk, hks⟩)
        · refine .inr (.inr fun y hy => ?_)
          rw [hl] at hy
          exact h4 y (List.mem_filter.1 hy).1
      · -- it comes to the other
        have hca : c = !a := by cases a <;> cases c <;> simp_all
        subst hca
        have hea : q.e a = p.e a := by rw [e1]; simp [upB]
        simp only [Bool.not_not] at e3
        rcases h4 with ⟨k, hk, hks⟩ | ⟨k, hk, hks⟩ | h4
        · rw [hw] at hk
          rcases List.mem_cons.1 hk with rfl | hk
          · have hb := hmk.2 (by omega) (by omega)
            refine .inr (.inl ⟨⟨0, (onS (p.e (!a)) k).mark, []⟩, ?_, by simp only; omega⟩)
            rw [e3, if_pos ⟨by omega, by omega⟩]
            simp
          · exact .inl ⟨k, by rw [e2]; exact hk, hks⟩
        · exact .inr (.inl ⟨k, by rw [e3]; exact List.mem_append_left _ hk, hks⟩)
        · exact .inr (.inr (by rw [hea]; exact h4))
/-- How much is to be done at an end. -/
def phiY (p : Play) (a : Bool) : Nat :=
  match (p.e a).l with
  | [] => 0
  | x :: l => 17 * (l.length + 1) + (x.due - p.now).toNat
/-- What of the items of an end is left behind a round. -/
def Left (now : Int) (l l' : List LIt) : Prop := ∀ y ∈ l', ∃ x ∈ l, y = tickI now x
theorem come_left {a : Bool} {now : Int} {l : List LIt} {p : Play} (h : Left now l (p.e a).l ∧ p.now = now) (c : Bool) : Left now l ((comeY p c 0 false false).e a).l ∧ (comeY p c 0 false false).now = now := by
  cases hw : p.way c with
  | nil => rw [comeY_none hw]; exact h
  | cons x r =>
    rw [comeY_zero hw]
    obtain ⟨e1, e2, _⟩ := onY_parts { p with way := upB p.way c r } c x
    rw [e1, e2]
    refine ⟨fun y hy => ?_, h.2⟩
    simp only [upB] at hy
    split at hy
    · rename_i ea
      subst ea
      refine h.1 y ?_
      unfold onS at hy
      split at hy
      · exact (List.mem_filter.1 hy).1
      · exact hy
    · exact h.1 y hy
theorem ticks_parts {p : Play} (h : GoodY p) (hw : p.way false = [] ∧ p.way true = []) : (∀ a, (ticksY p).e a = tickS (p.e a) (p.now + 1)) ∧ (∀ a, (ticksY p).way (!a) = tickP (p.e a) (p.now + 1)) ∧ (ticksY p).now = p.now + 1 := by
  have hl : ∀ a, (tickP (p.e a) (p.now + 1)).length ≤ 64 := fun a => by
    unfold tickP
    rw [List.length_map]
    exact Nat.le_trans (List.length_filter_le _ _) (h.len a)
  obtain ⟨q, hq⟩ : ∃ q, tickY { p with now := p.now + 1 } false = q := ⟨_, rfl⟩
  have hq1 : q.e = upB p.e false (tickS (p.e false) (p.now + 1)) ∧ q.now = p.now + 1 ∧ q.way true = tickP (p.e false) (p.now + 1) ∧ q.way false = [] := by
    rw [← hq]
    unfold tickY
    obtain ⟨_, e2, _, e4⟩ := putsY_keeps (!false) (tickP (p.e false) (p.now + 1)) { p with now := p.now + 1, e := upB p.e false (tickS (p.e false) (p.now + 1)) }
    obtain ⟨w1, w2⟩ := putsY_ways (!false) (tickP (p.e false) (p.now + 1)) { p with now := p.now + 1, e := upB p.e false (tickS (p.e false) (p.now + 1)) } (by have := hl false; simp [hw.2]; omega)
    refine ⟨e2, e4, ?_, ?_⟩
    · simp only [Bool.not_false] at w1; simp only [Bool.not_false]; rw [w1, hw.2]; rfl
    · simp only [Bool.not_false, Bool.not_true] at w2; simp only [Bool.not_false]; rw [w2, hw.1]
  obtain ⟨q1, q2, q3, q4⟩ := hq1
  have qt : q.e true = p.e true := by rw [q1]; simp [upB]
  have qf : q.e false = tickS (p.e false) (p.now + 1) := by rw [q1]; simp [upB]
  have ht : ticksY p = tickY q true := by unfold ticksY; rw [hq]
  rw [ht]
  unfold tickY
  rw [qt]
  have hl2 := hl true
  rw [← q2] at hl2
  have wt : (putsY { q with e := upB q.e true (tickS (p.e true) q.now) } (!true) (tickP (p.e true) q.now)).e = upB q.e true (tickS (p.e true) q.now) ∧
      (putsY { q with e := upB q.e true (tickS (p.e true) q.now) } (!true) (tickP (p.e true) q.now)).now = q.now ∧
      (putsY { q with e := upB q.e true (tickS (p.e true) q.now) } (!true) (tickP (p.e true) q.now)).way false = tickP (p.e true) q.now ∧
      (putsY { q with e := upB q.e true (tickS (p.e true) q.now) } (!true) (tickP (p.e true) q.now)).way true = q.way true := by
    obtain ⟨_, e2, _, e4⟩ := putsY_keeps (!true) (tickP (p.e true) q.now) { q with e := upB q.e true (tickS (p.e true) q.now) }
    obtain ⟨w1, w2⟩ := putsY_ways (!true) (tickP (p.e true) q.now) { q with e := upB q.e true (tickS (p.e true) q.now) } (by simp [q4]; omega)
    simp only [Bool.not_true, Bool.not_false, q4, List.nil_append] at w1 w2
    exact ⟨e2, e4, w1, w2⟩
  obtain ⟨s, hs⟩ : ∃ s, putsY { q with e := upB q.e true (tickS (p.e true) q.now) } (!true) (tickP (p.e true) q.now) = s := ⟨_, rfl⟩
  rw [hs] at wt ⊢
  obtain ⟨s1, s2, s3, s4⟩ := wt
  rw [q2] at s1 s2 s3
  refine ⟨fun a => ?_, fun a => ?_, s2⟩
  · rw [s1]
    cases a
    · simpa [upB] using qf
    · simp [upB]
  · cases a
    · exact s4.trans q3
    · exact s3
/-- A round brings an end forward. -/
theorem phi_round {p : Play} (h : GoodY p) {n : Nat} (hf : FewY p n) (hn : n < 1000000) (hw : p.way false = [] ∧ p.way true = []) (a : Bool) : phiY (roundY p) a ≤ phiY p a - 1 := by
  obtain ⟨t1, t2, t3⟩ := ticks_parts h hw
  obtain ⟨g1, g2⟩ := h.ticks hf hn
  obtain ⟨r1, r2, r3, r4⟩ := h.round hf hn
  have hleft : Left (p.now + 1) (p.e a).l ((roundY p).e a).l ∧ (roundY p).now = p.now + 1 := by
    refine drain_keeps (Q := fun q => Left (p.now + 1) (p.e a).l (q.e a).l ∧ q.now = p.now + 1) (fun q hq => come_left (come_left hq false) true) 900 _ ⟨fun y hy => ?_, t3⟩
    rw [t1] at hy
    simp only [tickS, List.mem_map] at hy
    obtain ⟨x, hx, rfl⟩ := hy
    exact ⟨x, hx, rfl⟩
  obtain ⟨lo, k1, k2⟩ := h.run a
  obtain ⟨lo', j1, j2⟩ := r1.run a
  -- what was sent is what it was
  have hsent : ((roundY p).e a).sent = (p.e a).sent := by
    refine drain_keeps (Q := fun q => (q.e a).sent = (p.e a).sent) (fun q hq => ?_) 900 _ (by rw [t1]; rfl)
    have one : ∀ (q : Play) (c : Bool), (q.e a).sent = (p.e a).sent → ((comeY q c 0 false false).e a).sent = (p.e a).sent := fun q c hq => by
      cases hw : q.way c with
      | nil => rw [comeY_none hw]; exact hq
      | cons x r =>
        rw [comeY_zero hw]
        rw [(onY_parts { q with way := upB q.way c r } c x).1]
        simp only [upB]
        split
        · rename_i ea
          subst ea
          unfold onS
          split <;> exact hq
        · exact hq
    exact one _ true (one _ false hq)
  have L1 := k2.length
  have L2 := j2.length
  rw [hsent] at L2 j2
  cases hl' : ((roundY p).e a).l with
  | nil => unfold phiY; rw [hl']; exact Nat.zero_le _
  | cons y l' =>
    obtain ⟨x, hx, hyx⟩ := hleft.1 y (by rw [hl']; simp)
    have hys : y.seq = lo' + 1 := by rw [hl'] at j2; exact j2.1
    have hxs : x.seq = y.seq := by rw [hyx, tickI_seq]
    have hxlo := k2.gt x hx
    cases hl : (p.e a).l with
    | nil => rw [hl] at hx; simp at hx
    | cons z l =>
      have hzs : z.seq = lo + 1 := by rw [hl] at k2; exact k2.1
      have hzm : z ∈ (p.e a).l := by rw [hl]; simp
      have e1 : phiY (roundY p) a = 17 * (l'.length + 1) + (y.due - (p.now + 1)).toNat := by unfold phiY; rw [hl', hleft.2]
      have e2 : phiY p a = 17 * (l.length + 1) + (z.due - p.now).toNat := by unfold phiY; rw [hl]
      have hyd := r1.due a y (by rw [hl']; simp)
      rw [hleft.2] at hyd
      rw [hl] at L1
      rw [hl'] at L2
      simp only [List.length_cons] at L1 L2
      rw [e1, e2]
      by_cases hz : z.due ≤ p.now + 1
      · -- it is due: it goes
        have hpend : Pend a z.seq (roundY p) := by
          refine (drain_keeps (Q := fun q => (GoodY q ∧ FewY q (n + 1)) ∧ Pend a z.seq q) (fun q hq => ⟨stepG (by omega) hq.1, ?_⟩) 900 _ ⟨⟨g1, g2⟩, ?_⟩).2
          · exact (hq.2.come hq.1.1 false).come (hq.1.1.come hq.1.2 (by omega) false 0 false false).1 true
          · have hit := (h.right.it a z hzm).1
            refine ⟨hit, ?_, ?_, .inl ⟨⟨z.seq, (p.e a).mark, z.body⟩, ?_, rfl⟩⟩
            · rw [t1]; simp only [tickS]; omega
            · have w1 : ((ticksY p).way true).length ≤ 64 := by
                have := t2 false
                rw [Bool.not_false] at this
                rw [this]
                unfold tickP
                rw [List.length_map]
                exact Nat.le_trans (List.length_filter_le _ _) (h.len false)
              have w2 : ((ticksY p).way false).length ≤ 64 := by
                have := t2 true
                rw [Bool.not_true] at this
                rw [this]
                unfold tickP
                rw [List.length_map]
                exact Nat.le_trans (List.length_filter_le _ _) (h.len true)
              omega
            · rw [t2]
              unfold tickP
              exact List.mem_map.2 ⟨z, List.mem_filter.2 ⟨hzm, by simpa using hz⟩, rfl⟩
        obtain ⟨_, _, _, hp⟩ := hpend
        have hgo : z.seq < y.seq := by
          rcases hp with ⟨k, hk, _⟩ | ⟨k, hk, _⟩ | hp
          · cases a <;> simp [r3, r4] at hk
          · cases a <;> simp [r3, r4] at hk
          · exact hp y (by rw [hl']; simp)
        have d1 : (y.due - (p.now + 1)).toNat ≤ 16 := by omega
        have d2 : l'.length < l.length + 0 := by omega
        clear hp hleft hl hl'
        omega
      · by_cases hlo : lo' = lo
        · -- it is the same item
          have hxz : x = z := by
            rw [hl] at hx
            rcases List.mem_cons.1 hx with e | hx2
            · exact e
            · rw [hl] at k2
              have := k2.2.gt x hx2
              omega
          have hyz : y = z := by rw [hyx, hxz]; unfold tickI; rw [if_neg hz]
          rw [hyz]
          omega
        · omega
theorem phi_le {p : Play} (h : GoodY p) (a : Bool) : phiY p a ≤ 1104 := by
  have hl := h.len a
  unfold phiY
  split
  · omega
  · rename_i x l e
    have := h.due a x (by rw [e]; simp)
    rw [e] at hl
    simp at hl
    omega
theorem rounds_good {p : Play} (h : GoodY p) {n : Nat} (hf : FewY p n) : ∀ k : Nat, n + k ≤ 1000000 → GoodY (roundsY k p) ∧ FewY (roundsY k p) (n + k) ∧ (0 < k → (roundsY k p).way false = [] ∧ (roundsY k p).way true = [] ∧ ∀ a, phiY (roundsY k p) a ≤ 1105 - k)
  | 0, _ => ⟨h, hf, fun hk => by omega⟩
  | k + 1, hk => by
    obtain ⟨h1, h2, h3⟩ := rounds_good h hf k (by omega)
    obtain ⟨r1, r2, r3, r4⟩ := h1.round h2 (by omega)
    refine ⟨r1, r2, fun _ => ⟨r3, r4, fun a => ?_⟩⟩
    by_cases e : k = 0
    · subst e; exact phi_le r1 a
    · obtain ⟨w1, w2, w3⟩ := h3 (by omega)
      have := phi_round h1 h2 (by omega) ⟨w1, w2⟩ a
      have := w3 a
      show phiY (roundY (roundsY k p)) a ≤ _
      omega
theorem phi_zero {p : Play} {a : Bool} (h : phiY p a = 0) : (p.e a).l = [] := by
  unfold phiY at h
  split at h
  · assumption
  · omega
/-- Behind 1105 rounds none is open. -/
theorem rounds_closed {p : Play} (h : GoodY p) {n : Nat} (hf : FewY p n) (hn : n ≤ 1000) : ((roundsY 1105 p).e false).l = [] ∧ ((roundsY 1105 p).e true).l = [] := by
  obtain ⟨_, _, h3⟩ := rounds_good h hf 1105 (by omega)
  obtain ⟨_, _, h4⟩ := h3 (by omega)
  exact ⟨phi_zero (by have := h4 false; omega), phi_zero (by have := h4 true; omega)⟩
/-- Where none is open, all have come. -/
theorem GoodY.all {p : Play} (h : GoodY p) (a : Bool) (hl : (p.e a).l = []) : (p.came (!a)).length = (p.sent a).length := by
  obtain ⟨lo, h1, h2⟩ := h.run a
  rw [hl] at h2
  have h2' : lo = (p.e a).sent := h2
  have h3 := h.right.sent a
  have h4 := h.right.mark (!a)
  have h5 := (h.mark (!a)).2
  rw [Bool.not_not] at h5
  omega
end Go.Proofs.Ytnmbblkfaoihfaa
