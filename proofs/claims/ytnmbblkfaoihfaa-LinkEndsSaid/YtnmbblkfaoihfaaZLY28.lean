/- Two ends and their ways, by definition: where all that is told comes, all bodies come, and none stays open. -/
import Derived.Test.YtnmbblkfaoihfaaZLY24
namespace Go.Proofs.Ytnmbblkfaoihfaa

/-- Items whose numbers go from one behind lo up to hi. -/
def RunY : Int → List LIt → Int → Prop
  | lo, [], hi => lo = hi
  | lo, x :: l, hi => x.seq = lo + 1 ∧ RunY (lo + 1) l hi
theorem RunY.length : ∀ {l : List LIt} {lo hi : Int}, RunY lo l hi → (l.length : Int) = hi - lo
  | [], lo, hi, h => by have h' : lo = hi := h; simp; omega
  | x :: l, lo, hi, h => by have := RunY.length h.2; simp only [List.length_cons]; omega
theorem RunY.gt : ∀ {l : List LIt} {lo hi : Int}, RunY lo l hi → ∀ x ∈ l, lo < x.seq
  | [], _, _, _, x, hx => by simp at hx
  | y :: l, lo, hi, h, x, hx => by
    rcases List.mem_cons.1 hx with rfl | hx
    · have := h.1; omega
    · have := RunY.gt h.2 x hx; omega
theorem RunY.snoc : ∀ {l : List LIt} {lo hi : Int} {x : LIt}, RunY lo l hi → x.seq = hi + 1 → RunY lo (l ++ [x]) (hi + 1)
  | [], _, _, _, h, hx => by obtain rfl : _ = _ := h; exact ⟨hx, rfl⟩
  | _ :: _, _, _, _, h, hx => ⟨h.1, RunY.snoc h.2 hx⟩
theorem RunY.map {f : LIt → LIt} (hf : ∀ x, (f x).seq = x.seq) : ∀ {l : List LIt} {lo hi : Int}, RunY lo l hi → RunY lo (l.map f) hi
  | [], _, _, h => h
  | y :: _, _, _, h => ⟨(hf y).trans h.1, RunY.map hf h.2⟩
theorem RunY.cut (k : Int) : ∀ {l : List LIt} {lo hi : Int}, RunY lo l hi → ∃ lo', lo ≤ lo' ∧ (lo' = lo ∨ lo' ≤ k) ∧ RunY lo' (l.filter fun x => !decide (x.seq ≤ k)) hi
  | [], lo, hi, h => ⟨lo, Int.le_refl _, .inl rfl, h⟩
  | y :: l, lo, hi, h => by
    have hs := h.1
    by_cases hk : y.seq ≤ k
    · obtain ⟨lo', h1, h2, h3⟩ := RunY.cut k h.2
      refine ⟨lo', by omega, .inr (by omega), ?_⟩
      rw [List.filter_cons_of_neg (by simpa using hk)]
      exact h3
    · refine ⟨lo, Int.le_refl _, .inl rfl, ?_⟩
      have hall : ∀ x ∈ l, ¬ x.seq ≤ k := fun x hx => by have := RunY.gt h.2 x hx; omega
      rw [List.filter_cons_of_pos (by simpa using hk), List.filter_eq_self.2 (fun x hx => by simpa using hall x hx)]
      exact h
theorem nextL_le (now t : Int) (hn : now ≤ 1000000) : nextL now t ≤ now + 16 := by
  have hw : 0 ≤ waitL t ∧ waitL t ≤ 16 := by
    unfold waitL
    split
    · omega
    · split
      · omega
      · split
        · omega
        · split <;> omega
  unfold nextL
  split <;> omega
/-- What holds of a play behind some deeds. -/
structure GoodY (p : Play) : Prop where
  right : RightY p
  run : ∀ a, ∃ lo, lo ≤ (p.e (!a)).mark ∧ RunY lo (p.e a).l (p.e a).sent
  due : ∀ a, ∀ x ∈ (p.e a).l, x.due ≤ p.now + 16
  tries : ∀ a, ∀ x ∈ (p.e a).l, 0 ≤ x.tries ∧ x.tries ≤ p.now + 1 ∧ x.body.length ≤ 2048
  len : ∀ a, (p.e a).l.length ≤ 64
  now : 0 ≤ p.now
  way : ∀ a, (p.way a).length ≤ 400
  may : ∀ a, ∀ k ∈ p.way a, mayL k = true
  ack : ∀ a, ∀ k ∈ p.way a, k.ack ≤ (p.e (!a)).mark
/-- How many were sent at most, and how late it is. -/
structure FewY (p : Play) (n : Nat) : Prop where
  sent : ∀ a, (p.sent a).length ≤ n
  now : p.now ≤ n
theorem GoodY.mark {p : Play} (h : GoodY p) (a : Bool) : 0 ≤ (p.e a).mark ∧ (p.e a).mark ≤ (p.sent (!a)).length := by
  have h1 := h.right.mark a
  obtain ⟨r, hr⟩ := h.right.came a
  have : (p.sent (!a)).length = (p.came a).length + r.length := by rw [hr, List.length_append]
  omega
theorem mayL_iff (k : LPk) : mayL k = true ↔ 0 ≤ k.seq ∧ k.seq ≤ 1099511627776 ∧ 0 ≤ k.ack ∧ k.ack ≤ 1099511627776 ∧ k.body.length ≤ 2048 ∧ (0 < k.seq ∨ k.body.length = 0) := by
  unfold mayL
  simp [and_assoc]
/-- One more packet on its way. -/
theorem GoodY.put {p : Play} (h : GoodY p) (to : Bool) {x : LPk} (hx : x.seq = 0 ∨ IsSent (p.sent (!to)) x.seq x.body) (hm : mayL x = true) (ha : x.ack ≤ (p.e (!to)).mark) : GoodY (putY p to x) := by
  obtain ⟨e1, e2, e3, e4⟩ := putY_sent p to x
  refine ⟨h.right.put to hx, by rw [e2]; exact h.run, by rw [e2, e4]; exact h.due, by rw [e2, e4]; exact h.tries, by rw [e2]; exact h.len, by rw [e4]; exact h.now, fun a => ?_, fun a k hk => ?_, fun a k hk => ?_⟩
  · unfold putY
    split
    · simp only [upB]
      split
      · simp; omega
      · exact h.way a
    · exact h.way a
  · unfold putY at hk
    split at hk
    · simp only [upB] at hk
      split at hk
      · rename_i e
        subst e
        rcases List.mem_append.1 hk with hk | hk
        · exact h.may _ k hk
        · simp at hk; subst hk; exact hm
      · exact h.may a k hk
    · exact h.may a k hk
  · rw [e2]
    unfold putY at hk
    split at hk
    · simp only [upB] at hk
      split at hk
      · rename_i e
        subst e
        rcases List.mem_append.1 hk with hk | hk
        · exact h.ack _ k hk
        · simp at hk; subst hk; exact ha
      · exact h.ack a k hk
    · exact h.ack a k hk
theorem FewY.put {p : Play} {n : Nat} (h : FewY p n) (to : Bool) (x : LPk) : FewY (putY p to x) n := by
  obtain ⟨e1, e2, e3, e4⟩ := putY_sent p to x
  exact ⟨by rw [e1]; exact h.sent, by rw [e4]; exact h.now⟩
theorem GoodY.puts {to : Bool} : ∀ (l : List LPk) {p : Play}, GoodY p → (∀ x ∈ l, (x.seq = 0 ∨ IsSent (p.sent (!to)) x.seq x.body) ∧ mayL x = true ∧ x.ack ≤ (p.e (!to)).mark) → GoodY (putsY p to l)
  | [], _, h, _ => h
  | x :: l, p, h, hl => by
    obtain ⟨h1, h2, h3⟩ := hl x (by simp)
    refine GoodY.puts l (h.put to h1 h2 h3) fun y hy => ?_
    rw [(putY_sent p to x).1, (putY_sent p to x).2.1]
    exact hl y (by simp [hy])
theorem putsY_keeps (to : Bool) : ∀ (l : List LPk) (p : Play), (putsY p to l).sent = p.sent ∧ (putsY p to l).e = p.e ∧ (putsY p to l).came = p.came ∧ (putsY p to l).now = p.now
  | [], _ => ⟨rfl, rfl, rfl, rfl⟩
  | x :: l, p => by
    obtain ⟨h1, h2, h3, h4⟩ := putsY_keeps to l (putY p to x)
    obtain ⟨k1, k2, k3, k4⟩ := putY_sent p to x
    exact ⟨h1.trans k1, h2.trans k2, h3.trans k3, h4.trans k4⟩
theorem putsY_ways (to : Bool) : ∀ (l : List LPk) (p : Play), (p.way to).length + l.length ≤ 400 → (putsY p to l).way to = p.way to ++ l ∧ (putsY p to l).way (!to) = p.way (!to)
  | [], p, _ => by simp [putsY]
  | x :: l, p, h => by
    have e : putY p to x = { p with way := upB p.way to (p.way to ++ [x]) } := by unfold putY; rw [if_pos (by simp at h; omega)]
    have e1 : (putY p to x).way to = p.way to ++ [x] := by rw [e]; simp [upB]
    have e2 : (putY p to x).way (!to) = p.way (!to) := by rw [e]; simp [upB_other]
    obtain ⟨h1, h2⟩ := putsY_ways to l (putY p to x) (by rw [e1]; simp at h ⊢; omega)
    refine ⟨?_, h2.trans e2⟩
    rw [e1] at h1
    show (putsY (putY p to x) to l).way to = _
    rw [h1]; simp
theorem tickI_seq (now : Int) (x : LIt) : (tickI now x).seq = x.seq := by unfold tickI; split <;> rfl
theorem GoodY.e {p : Play} (h : GoodY p) {n : Nat} (hf : FewY p n) (hn : n ≤ 1000000) (a : Bool) : ∀ x ∈ tickP (p.e a) p.now, (x.seq = 0 ∨ IsSent (p.sent a) x.seq x.body) ∧ mayL x = true ∧ x.ack ≤ (p.e a).mark := fun x hx => by
  simp only [tickP, List.mem_map, List.mem_filter] at hx
  obtain ⟨y, ⟨hy, _⟩, rfl⟩ := hx
  have hs := h.right.it a y hy
  have hm := h.mark a
  have hb := (h.tries a y hy).2.2
  have hlt := (List.getElem?_eq_some_iff.1 hs.2).1
  have h1 := hs.1
  have f1 := hf.sent a
  have f2 := hf.sent (!a)
  refine ⟨.inr hs, (mayL_iff _).2 ⟨?_, ?_, ?_, ?_, ?_, ?_⟩, Int.le_refl _⟩
  all_goals simp only
  all_goals omega
theorem GoodY.tick {p : Play} (h : GoodY p) {n : Nat} (hf : FewY p n) (hn : n ≤ 1000000) (a : Bool) (hnow : ∀ x ∈ (p.e a).l, x.tries ≤ p.now) : GoodY (tickY p a) := by
  have hn' : p.now ≤ 1000000 := by have := hf.now; omega
  have hp := h.e hf hn a
  have hr := h.right.tick a
  unfold tickY at hr ⊢
  have key : GoodY { p with e := upB p.e a (tickS (p.e a) p.now) } := by
    refine ⟨⟨fun b => ?_, h.right.came, fun b => ?_, fun b x hx => ?_, h.right.way⟩, fun b => ?_, fun b x hx => ?_, fun b x hx => ?_, fun b => ?_, h.now, h.way, h.may, fun b k hk => ?_⟩
    · simp only [upB]
      split
      · rename_i e; subst e; exact h.right.mark _
      · exact h.right.mark b
    · simp only [upB]
      split
      · rename_i e; subst e; exact h.right.sent _
      · exact h.right.sent b
    · simp only [upB] at hx
      split at hx
      · rename_i e
        subst e
        simp only [tickS, List.mem_map] at hx
        obtain ⟨y, hy, rfl⟩ := hx
        have := h.right.it _ y hy
        unfold tickI
        split <;> exact this
      · exact h.right.it b x hx
    · obtain ⟨lo, h1, h2⟩ := h.run b
      refine ⟨lo, ?_, ?_⟩
      · simp only [upB]
        split
        · rename_i e; subst e; exact h1
        · exact h1
      · simp only [upB]
        split
        · rename_i e; subst e; exact h2.map (tickI_seq _)
        · exact h2
    · simp only [upB] at hx
      split at hx
      · rename_i e
        subst e
        simp only [tickS, List.mem_map] at hx
        obtain ⟨y, hy, rfl⟩ := hx
        unfold tickI
        split
        · exact nextL_le _ _ hn'
        · exact h.due _ y hy
      · exact h.due b x hx
    · simp only [upB] at hx
      split at hx
      · rename_i e
        subst e
        simp only [tickS, List.mem_map] at hx
        obtain ⟨y, hy, rfl⟩ := hx
        have h1 := h.tries _ y hy
        have h2 := hnow y hy
        unfold tickI
        split
        · exact ⟨by simp only; omega, by simp only; omega, h1.2.2⟩
        · exact h1
      · exact h.tries b x hx
    · simp only [upB]
      split
      · rename_i e; subst e; simpa [tickS] using h.len _
      · exact h.len b
    · simp only [upB]
      split
      · rename_i e; rw [← e]; exact h.ack b k hk
      · exact h.ack b k hk
  refine GoodY.puts _ key fun x hx => ?_
  obtain ⟨h1, h2, h3⟩ := hp x hx
  simp only [Bool.not_not, upB_same]
  exact ⟨h1, h2, h3⟩
theorem FewY.tick {p : Play} {n : Nat} (h : FewY p n) (a : Bool) : FewY (tickY p a) n := by
  unfold tickY
  obtain ⟨e1, e2, e3, e4⟩ := putsY_keeps (!a) (tickP (p.e a) p.now) { p with e := upB p.e a (tickS (p.e a) p.now) }
  exact ⟨by rw [e1]; exact h.sent, by rw [e4]; exact h.now⟩
theorem GoodY.ticks {p : Play} (h : GoodY p) {n : Nat} (hf : FewY p n) (hn : n < 1000000) : GoodY (ticksY p) ∧ FewY (ticksY p) (n + 1) := by
  have h0 : GoodY { p with now := p.now + 1 } := ⟨⟨h.right.mark, h.right.came, h.right.sent, h.right.it, h.right.way⟩, h.run, fun a x hx => by have := h.due a x hx; simp only; omega, fun a x hx => by obtain ⟨h1, h2, h3⟩ := h.tries a x hx; refine ⟨h1, ?_, h3⟩; simp only; omega, h.len, by have := h.now; simp only; omega, h.way, h.may, h.ack⟩
  have f0 : FewY { p with now := p.now + 1 } (n + 1) := ⟨fun a => Nat.le_succ_of_le (hf.sent a), by have := hf.now; simp only; omega⟩
  have ht : ∀ a, ∀ x ∈ (p.e a).l, x.tries ≤ p.now + 1 := fun a x hx => (h.tries a x hx).2.1
  have h1 := h0.tick f0 (by omega) false (ht false)
  have f1 := f0.tick false
  refine ⟨h1.tick f1 (by omega) true ?_, f1.tick true⟩
  have e : (tickY { p with now := p.now + 1 } false).e true = p.e true ∧ (tickY { p with now := p.now + 1 } false).now = p.now + 1 := by
    unfold tickY
    obtain ⟨e1, e2, e3, e4⟩ := putsY_keeps (!false) (tickP (p.e false) (p.now + 1)) { p with now := p.now + 1, e := upB p.e false (tickS (p.e false) (p.now + 1)) }
    exact ⟨by rw [e2]; simp [upB], e4⟩
  rw [e.1, e.2]
  exact ht true
theorem GoodY.send {p : Play} (h : GoodY p) {n : Nat} (hf : FewY p n) (hn : n < 1000000) (a : Bool) (m : Int) : GoodY (sendY p a m) ∧ FewY (sendY p a m) (n + 1) := by
  have hR := h.right.send a m
  have hn' : p.now ≤ 1000000 := by have := hf.now; omega
  unfold sendY at hR ⊢
  split
  · rename_i he
    have hl64 : (p.e a).l.length < 64 := by
      unfold sendE at he
      split at he
      · omega
      · split at he <;> omega
    have hs : sendS (p.e a) (bodyY p a m) p.now = ⟨(p.e a).l ++ [⟨(p.e a).sent + 1, bodyY p a m, 1, nextL p.now 0⟩], (p.e a).sent + 1, (p.e a).mark⟩ := by unfold sendS; rw [if_pos he]
    have hp : sendP (p.e a) (bodyY p a m) = ⟨(p.e a).sent + 1, (p.e a).mark, bodyY p a m⟩ := by unfold sendP; rw [if_pos he]
    rw [if_pos he] at hR
    obtain ⟨q, hq⟩ : ∃ q, { p with e := upB p.e a (sendS (p.e a) (bodyY p a m) p.now), sent := upB p.sent a (p.sent a ++ [bodyY p a m]) } = q := ⟨_, rfl⟩
    have hsl := h.right.sent a
    have hnew : IsSent (p.sent a ++ [bodyY p a m]) ((p.e a).sent + 1) (bodyY p a m) := by
      refine ⟨by omega, ?_⟩
      rw [hsl, show (((p.sent a).length : Int) + 1 - 1).toNat = (p.sent a).length by omega]
      simp
    have hbl : (bodyY p a m).length = 2 := rfl
    have hmk := h.mark a
    have hmk2 := h.mark (!a)
    have f1 := hf.sent a
    have f2 := hf.sent (!a)
    have hnow := h.now
    have key : GoodY { p with e := upB p.e a (sendS (p.e a) (bodyY p a m) p.now), sent := upB p.sent a (p.sent a ++ [bodyY p a m]) } := by
      rw [hs]
      refine ⟨⟨fun b => ?_, fun b => ?_, fun b => ?_, fun b x hx => ?_, fun b k hk => ?_⟩, fun b => ?_, fun b x hx => ?_, fun b x hx => ?_, fun b => ?_, h.now, h.way, h.may, fun b k hk => ?_⟩
      · simp only [upB]
        split
        · rename_i e; subst e; exact h.right.mark _
        · exact h.right.mark b
      · obtain ⟨r, hr⟩ := h.right.came b
        simp only [upB]
        split
        · rename_i e; exact ⟨r ++ [bodyY p a m], by rw [← e, hr, List.append_assoc]⟩
        · exact ⟨r, hr⟩
      · simp only [upB]
        split
        · simp only [List.length_append, List.length_cons, List.length_nil]; omega
        · exact h.right.sent b
      · simp only [upB] at hx ⊢
        split at hx
        · rename_i e
          subst e
          rw [if_pos rfl]
          rcases List.mem_append.1 hx with hx | hx
          · exact (h.right.it _ x hx).more
          · simp at hx
            subst hx
            exact hnew
        · rename_i e
          rw [if_neg e]
          exact h.right.it b x hx
      · rcases h.right.way b k hk with h1 | h1
        · exact .inl h1
        · right
          simp only [upB]
          split
          · rename_i e; rw [e] at h1; exact h1.more
          · exact h1
      · obtain ⟨lo, h1, h2⟩ := h.run b
        refine ⟨lo, ?_, ?_⟩
        · simp only [upB]
          split
          · rename_i e; subst e; exact h1
          · exact h1
        · simp only [upB]
          split
          · rename_i e; subst e; exact h2.snoc rfl
          · exact h2
      · simp only [upB] at hx
        split at hx
        · rename_i e
          subst e
          rcases List.mem_append.1 hx with hx | hx
          · exact h.due _ x hx
          · simp at hx
            subst hx
            exact nextL_le _ _ hn'
        · exact h.due b x hx
      · simp only [upB] at hx
        split at hx
        · rename_i e
          subst e
          rcases List.mem_append.1 hx with hx | hx
          · exact h.tries _ x hx
          · simp at hx
            subst hx
            refine ⟨by simp, by simp only; omega, by simp [hbl]⟩
        · exact h.tries b x hx
      · simp only [upB]
        split
        · simp only [List.length_append, List.length_cons, List.length_nil]; omega
        · exact h.len b
      · simp only [upB]
        split
        · rename_i e; rw [← e]; exact h.ack b k hk
        · exact h.ack b k hk
    have few : FewY { p with e := upB p.e a (sendS (p.e a) (bodyY p a m) p.now), sent := upB p.sent a (p.sent a ++ [bodyY p a m]) } (n + 1) := by
      refine ⟨fun b => ?_, by have := hf.now; simp only; omega⟩
      simp only [upB]
      split
      · simp only [List.length_append, List.length_cons, List.length_nil]; omega
      · have := hf.sent b; omega
    refine ⟨key.put _ ?_ ?_ ?_, few.put _ _⟩
    · right
      rw [hp]
      simp only [upB, Bool.not_not]
      exact hnew
    · rw [hp, mayL_iff]
      refine ⟨?_, ?_, ?_, ?_, ?_, ?_⟩
      all_goals simp only [hbl]
      all_goals omega
    · rw [hp]
      simp only [Bool.not_not, upB_same, hs]
      exact Int.le_refl _
  · exact ⟨h, fun b => Nat.le_succ_of_le (hf.sent b), by have := hf.now; omega⟩
theorem GoodY.on {p : Play} (h : GoodY p) {n : Nat} (hf : FewY p n) (hn : n ≤ 1000000) (a : Bool) {x : LPk} (hx : x.seq = 0 ∨ IsSent (p.sent (!a)) x.seq x.body) (hxm : mayL x = true) (hxa : x.ack ≤ (p.e (!a)).mark) : GoodY (onY p a x) ∧ FewY (onY p a x) n := by
  have hms := h.mark a
  have hm := h.right.mark a
  have f2 := hf.sent (!a)
  have ho : onS (p.e a) x = ⟨onL (p.e a) x, (p.e a).sent, if x.seq ≠ 0 ∧ x.seq = (p.e a).mark + 1 then (p.e a).mark + 1 else (p.e a).mark⟩ := by unfold onS; rw [if_pos hxm]
  have hmle : (p.e a).mark ≤ (onS (p.e a) x).mark := by rw [ho]; simp only; split <;> omega
  obtain ⟨q, hq⟩ : ∃ q : Play, { p with e := upB p.e a (onS (p.e a) x), came := if onI (p.e a) x = true then upB p.came a (p.came a ++ [onB (p.e a) x]) else p.came } = q := ⟨_, rfl⟩
  have qe : q.e = upB p.e a (onS (p.e a) x) := by rw [← hq]
  have qs : q.sent = p.sent := by rw [← hq]
  have qw : q.way = p.way := by rw [← hq]
  have qn : q.now = p.now := by rw [← hq]
  have key : RightY q := by
    have hR := h.right.on a hx
    unfold onY at hR
    simp only at hR
    rw [hq] at hR
    split at hR
    · have e := putY_sent q (!a) (onP (p.e a) x)
      refine ⟨fun b => ?_, fun b => ?_, fun b => ?_, fun b z hz => ?_, fun b k hk => ?_⟩
      · have := hR.mark b; rw [e.2.1, e.2.2.1] at this; exact this
      · have := hR.came b; rw [e.1, e.2.2.1] at this; exact this
      · have := hR.sent b; rw [e.1, e.2.1] at this; exact this
      · have := hR.it b z (by rw [e.2.1]; exact hz); rw [e.1] at this; exact this
      · rw [qw] at hk; rw [qs]; exact h.right.way b k hk
    · exact hR
  have kmark : (onS (p.e a) x).mark ≤ (p.sent (!a)).length := by
    have h1 := key.mark a
    obtain ⟨r, hr⟩ := key.came a
    rw [qe, upB_same] at h1
    have : (q.sent (!a)).length = (q.came a).length + r.length := by rw [hr, List.length_append]
    rw [qs] at this
    omega
  have keyG : GoodY q := by
    refine ⟨key, fun b => ?_, fun b z hz => ?_, fun b z hz => ?_, fun b => ?_, by rw [qn]; exact h.now, by rw [qw]; exact h.way, by rw [qw]; exact h.may, fun b k hk => ?_⟩
    · obtain ⟨lo, h1, h2⟩ := h.run b
      rw [qe]
      by_cases e : b = a
      · subst e
        simp only [upB_same, upB_other]
        obtain ⟨lo', k1, k2, k3⟩ := h2.cut x.ack
        rw [ho]
        exact ⟨lo', by omega, k3⟩
      · have e2 : (!b) = a := by cases a <;> cases b <;> simp_all
        refine ⟨lo, ?_, ?_⟩
        · simp only [upB]
          rw [if_pos e2]
          rw [e2] at h1
          omega
        · simp only [upB]
          rw [if_neg e]
          exact h2
    · rw [qe] at hz
      rw [qn]
      simp only [upB] at hz
      split at hz
      · rename_i e
        subst e
        rw [ho] at hz
        exact h.due _ z (List.mem_filter.1 hz).1
      · exact h.due b z hz
    · rw [qe] at hz
      rw [qn]
      simp only [upB] at hz
      split at hz
      · rename_i e
        subst e
        rw [ho] at hz
        exact h.tries _ z (List.mem_filter.1 hz).1
      · exact h.tries b z hz
    · rw [qe]
      simp only [upB]
      split
      · rename_i e
        subst e
        rw [ho]
        exact Nat.le_trans (List.length_filter_le _ _) (h.len _)
      · exact h.len b
    · rw [qw] at hk
      rw [qe]
      have h1 := h.ack b k hk
      simp only [upB]
      split
      · rename_i e
        rw [e] at h1
        omega
      · exact h1
  have few : FewY q n := ⟨by rw [qs]; exact hf.sent, by rw [qn]; exact hf.now⟩
  unfold onY
  simp only
  rw [hq]
  split
  · have hP : onP (p.e a) x = ⟨0, (onS (p.e a) x).mark, []⟩ ∨ onP (p.e a) x = ⟨0, 0, []⟩ := by
      unfold onP
      split
      · exact .inl rfl
      · exact .inr rfl
    refine ⟨keyG.put _ ?_ ?_ ?_, few.put _ _⟩
    · left
      rcases hP with e | e <;> rw [e]
    · rw [mayL_iff]
      rcases hP with e | e
      · rw [e]
        refine ⟨?_, ?_, ?_, ?_, ?_, .inr rfl⟩
        all_goals simp only [List.length_nil]
        all_goals omega
      · rw [e]
        simp
    · rw [Bool.not_not, qe, upB_same]
      rcases hP with e | e
      · rw [e]
        exact Int.le_refl _
      · rw [e]
        simp only
        omega
  · exact ⟨keyG, few⟩
theorem GoodY.come {p : Play} (h : GoodY p) {n : Nat} (hf : FewY p n) (hn : n ≤ 1000000) (a : Bool) (m : Int) (stays lost : Bool) : GoodY (comeY p a m stays lost) ∧ FewY (comeY p a m stays lost) n := by
  unfold comeY
  split
  · exact ⟨h, hf⟩
  · rename_i x r hw
    simp only
    obtain ⟨k, hk⟩ : ∃ k, (m.tmod ((r.length + 1 : Nat) : Int)).natAbs = k := ⟨_, rfl⟩
    rw [hk]
    have hy : (x :: r).getD k x ∈ p.way a := by
      rw [hw]
      by_cases hlt : k < (x :: r).length
      · simp only [List.getD_eq_getElem?_getD, List.getElem?_eq_getElem hlt, Option.getD_some]
        exact List.getElem_mem hlt
      · simp only [List.getD_eq_getElem?_getD, List.getElem?_eq_none (Nat.le_of_not_lt hlt), Option.getD_none]
        exact List.mem_cons_self
    have hsub : ∀ b, ∀ y ∈ (upB p.way a ((x :: r).eraseIdx k)) b, y ∈ p.way b := fun b y hb => by
      simp only [upB] at hb
      split at hb
      · rename_i e
        subst e
        rw [hw]
        exact List.mem_of_mem_eraseIdx hb
      · exact hb
    have hlen : ∀ b, ((upB p.way a ((x :: r).eraseIdx k)) b).length ≤ 400 := fun b => by
      have h1 := h.way b
      simp only [upB]
      split
      · rename_i e
        subst e
        rw [hw] at h1
        exact Nat.le_trans (List.length_eraseIdx_le _ _) h1
      · exact h1
    have hq : GoodY (if stays = true then p else { p with way := upB p.way a ((x :: r).eraseIdx k) }) := by
      split
      · exact h
      · exact ⟨⟨h.right.mark, h.right.came, h.right.sent, h.right.it, fun b y hb => h.right.way b y (hsub b y hb)⟩, h.run, h.due, h.tries, h.len, h.now, hlen, fun b y hb => h.may b y (hsub b y hb), fun b y hb => h.ack b y (hsub b y hb)⟩
    have hqf : FewY (if stays = true then p else { p with way := upB p.way a ((x :: r).eraseIdx k) }) n := by
      split
      · exact hf
      · exact ⟨hf.sent, hf.now⟩
    have hs : (if stays = true then p else { p with way := upB p.way a ((x :: r).eraseIdx k) }).sent = p.sent := by split <;> rfl
    have he : (if stays = true then p else { p with way := upB p.way a ((x :: r).eraseIdx k) }).e = p.e := by split <;> rfl
    split
    · exact ⟨hq, hqf⟩
    · exact hq.on hqf hn a (by rw [hs]; exact h.right.way a _ hy) (h.may a _ hy) (by rw [he]; exact h.ack a _ hy)
end Go.Proofs.Ytnmbblkfaoihfaa
