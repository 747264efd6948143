/- Joined: Two ends and what is on its way between them, by definition: what comes are the other's bodies, in order. Two ends and their ways, in memory. -/
import Derived.Test.YtnmbblkfaoihfaaZLY23
import Derived.Test.YtnmbblkfaoihfaaZLY11
import Derived.Test.YtnmbblkfaoihfaaZLY15
namespace Go.Proofs.Ytnmbblkfaoihfaa

/-- Two ends, what was sent by each, what came, and what is on its way to each; 'false' is the first. -/
structure Play where
  e : Bool → LSt
  sent : Bool → List (List Nat)
  came : Bool → List (List Nat)
  way : Bool → List LPk
  now : Int
/-- One of two is another now. -/
def upB {α : Type} (f : Bool → α) (a : Bool) (x : α) : Bool → α := fun b => if b = a then x else f b
theorem upB_same {α : Type} (f : Bool → α) (a : Bool) (x : α) : upB f a x a = x := by simp [upB]
theorem upB_other {α : Type} (f : Bool → α) (a : Bool) (x : α) : upB f a x (!a) = f (!a) := by cases a <;> simp [upB]
def putY (p : Play) (to : Bool) (x : LPk) : Play := if (p.way to).length < 400 then { p with way := upB p.way to (p.way to ++ [x]) } else p
def putsY (p : Play) (to : Bool) (l : List LPk) : Play := l.foldl (fun p x => putY p to x) p
def tickY (p : Play) (a : Bool) : Play := putsY { p with e := upB p.e a (tickS (p.e a) p.now) } (!a) (tickP (p.e a) p.now)
def ticksY (p : Play) : Play := tickY (tickY { p with now := p.now + 1 } false) true
def bodyY (p : Play) (a : Bool) (n : Int) : List Nat := [(n % 256).toNat, (p.sent a).length % 256]
def sendY (p : Play) (a : Bool) (n : Int) : Play :=
  if sendE (p.e a) (bodyY p a n) = 0 then
    putY { p with e := upB p.e a (sendS (p.e a) (bodyY p a n) p.now), sent := upB p.sent a (p.sent a ++ [bodyY p a n]) } (!a) (sendP (p.e a) (bodyY p a n))
  else p
/-- A packet comes to an end. -/
def onY (p : Play) (a : Bool) (x : LPk) : Play :=
  let q : Play := { p with e := upB p.e a (onS (p.e a) x), came := if onI (p.e a) x = true then upB p.came a (p.came a ++ [onB (p.e a) x]) else p.came }
  if (onP (p.e a) x).seq ≠ 0 ∨ (onP (p.e a) x).ack ≠ 0 then putY q (!a) (onP (p.e a) x) else q
def comeY (p : Play) (a : Bool) (n : Int) (stays lost : Bool) : Play :=
  match p.way a with
  | [] => p
  | x :: r =>
    let k := (n.tmod ((r.length + 1 : Nat) : Int)).natAbs
    let y := (x :: r).getD k x
    let q : Play := if stays = true then p else { p with way := upB p.way a ((x :: r).eraseIdx k) }
    if lost = true then q else onY q a y
/-- What holds of a body's number: it is the one that was sent. -/
def IsSent (l : List (List Nat)) (n : Int) (b : List Nat) : Prop := 1 ≤ n ∧ l[(n - 1).toNat]? = some b
/-- What holds always. -/
structure RightY (p : Play) : Prop where
  mark : ∀ a, (p.e a).mark = (p.came a).length
  came : ∀ a, ∃ r, p.sent (!a) = p.came a ++ r
  sent : ∀ a, (p.e a).sent = (p.sent a).length
  it : ∀ a, ∀ x ∈ (p.e a).l, IsSent (p.sent a) x.seq x.body
  way : ∀ a, ∀ k ∈ p.way a, k.seq = 0 ∨ IsSent (p.sent (!a)) k.seq k.body
theorem IsSent.more {l r : List (List Nat)} {n : Int} {b : List Nat} (h : IsSent l n b) : IsSent (l ++ r) n b := by
  refine ⟨h.1, ?_⟩
  have h2 := h.2
  have hlt := (List.getElem?_eq_some_iff.1 h2).1
  rw [List.getElem?_append_left hlt]
  exact h2
theorem RightY.put {p : Play} (h : RightY p) (to : Bool) {x : LPk} (hx : x.seq = 0 ∨ IsSent (p.sent (!to)) x.seq x.body) : RightY (putY p to x) := by
  unfold putY
  split
  · refine ⟨h.mark, h.came, h.sent, h.it, fun a k hk => ?_⟩
    simp only [upB] at hk
    split at hk
    · rename_i e
      subst e
      rcases List.mem_append.1 hk with hk | hk
      · exact h.way _ k hk
      · simp at hk
        subst hk
        exact hx
    · exact h.way a k hk
  · exact h
theorem putY_sent (p : Play) (to : Bool) (x : LPk) : (putY p to x).sent = p.sent ∧ (putY p to x).e = p.e ∧ (putY p to x).came = p.came ∧ (putY p to x).now = p.now := by
  unfold putY
  split <;> exact ⟨rfl, rfl, rfl, rfl⟩
theorem RightY.puts {to : Bool} : ∀ (l : List LPk) {p : Play}, RightY p → (∀ x ∈ l, x.seq = 0 ∨ IsSent (p.sent (!to)) x.seq x.body) → RightY (putsY p to l)
  | [], _, h, _ => h
  | x :: l, p, h, hl => RightY.puts l (h.put to (hl x (by simp))) (fun y hy => by rw [(putY_sent p to x).1]; exact hl y (by simp [hy]))
theorem RightY.tick {p : Play} (h : RightY p) (a : Bool) : RightY (tickY p a) := by
  unfold tickY
  refine RightY.puts _ ⟨fun b => ?_, h.came, fun b => ?_, fun b x hx => ?_, h.way⟩ (fun x hx => ?_)
  · simp only [upB]
    split
    · rename_i e; subst e; exact h.mark _
    · exact h.mark b
  · simp only [upB]
    split
    · rename_i e; subst e; exact h.sent _
    · exact h.sent b
  · simp only [upB] at hx
    split at hx
    · rename_i e
      subst e
      simp only [tickS, List.mem_map] at hx
      obtain ⟨y, hy, rfl⟩ := hx
      have := h.it _ y hy
      unfold tickI
      split <;> exact this
    · exact h.it b x hx
  · right
    simp only [tickP, List.mem_map, List.mem_filter] at hx
    obtain ⟨y, ⟨hy, _⟩, rfl⟩ := hx
    simpa using h.it a y hy
theorem RightY.ticks {p : Play} (h : RightY p) : RightY (ticksY p) := by
  have h0 : RightY { p with now := p.now + 1 } := ⟨h.mark, h.came, h.sent, h.it, h.way⟩
  exact (h0.tick false).tick true
theorem RightY.send {p : Play} (h : RightY p) (a : Bool) (n : Int) : RightY (sendY p a n) := by
  unfold sendY
  split
  · rename_i he
    have hs : sendS (p.e a) (bodyY p a n) p.now = ⟨(p.e a).l ++ [⟨(p.e a).sent + 1, bodyY p a n, 1, nextL p.now 0⟩], (p.e a).sent + 1, (p.e a).mark⟩ := by unfold sendS; rw [if_pos he]
    have hp : sendP (p.e a) (bodyY p a n) = ⟨(p.e a).sent + 1, (p.e a).mark, bodyY p a n⟩ := by unfold sendP; rw [if_pos he]
    have hnew : IsSent (p.sent a ++ [bodyY p a n]) ((p.e a).sent + 1) (bodyY p a n) := by
      have := h.sent a
      refine ⟨by omega, ?_⟩
      rw [this, show (((p.sent a).length : Int) + 1 - 1).toNat = (p.sent a).length by omega]
      simp
    refine RightY.put ⟨fun b => ?_, fun b => ?_, fun b => ?_, fun b x hx => ?_, fun b k hk => ?_⟩ _ ?_
    · simp only [upB]
      split
      · rename_i e; subst e; rw [hs]; exact h.mark _
      · exact h.mark b
    · obtain ⟨r, hr⟩ := h.came b
      simp only [upB]
      split
      · rename_i e; exact ⟨r ++ [bodyY p a n], by rw [← e, hr, List.append_assoc]⟩
      · exact ⟨r, hr⟩
    · simp only [upB]
      split
      · rename_i e; subst e; rw [hs]; have := h.sent b; simp only [List.length_append, List.length_cons, List.length_nil]; omega
      · exact h.sent b
    · simp only [upB] at hx ⊢
      split at hx
      · rename_i e
        subst e
        rw [if_pos rfl]
        rw [hs] at hx
        rcases List.mem_append.1 hx with hx | hx
        · exact (h.it _ x hx).more
        · simp at hx
          subst hx
          exact hnew
      · rename_i e
        rw [if_neg e]
        exact h.it b x hx
    · rcases h.way b k hk with h1 | h1
      · exact .inl h1
      · right
        simp only [upB]
        split
        · rename_i e; rw [e] at h1; exact h1.more
        · exact h1
    · right
      rw [hp]
      simp only [upB, Bool.not_not]
      exact hnew
  · exact h
theorem RightY.on {p : Play} (h : RightY p) (a : Bool) {x : LPk} (hx : x.seq = 0 ∨ IsSent (p.sent (!a)) x.seq x.body) : RightY (onY p a x) := by
  have key : RightY { p with e := upB p.e a (onS (p.e a) x), came := if onI (p.e a) x = true then upB p.came a (p.came a ++ [onB (p.e a) x]) else p.came } := by
    have hm := h.mark a
    by_cases hi : onI (p.e a) x = true
    · have hc : mayL x = true ∧ x.seq ≠ 0 ∧ x.seq = (p.e a).mark + 1 := by unfold onI at hi; simpa using hi
      have hb : onB (p.e a) x = x.body := by unfold onB; rw [if_pos hc]
      have ho : onS (p.e a) x = ⟨onL (p.e a) x, (p.e a).sent, (p.e a).mark + 1⟩ := by unfold onS; rw [if_pos hc.1, if_pos hc.2]
      have hs : IsSent (p.sent (!a)) x.seq x.body := by
        rcases hx with h1 | h1
        · exact absurd h1 hc.2.1
        · exact h1
      rw [if_pos hi]
      refine ⟨fun b => ?_, fun b => ?_, fun b => ?_, fun b y hy => ?_, h.way⟩
      · simp only [upB]
        split
        · rename_i e; subst e; rw [ho]; simp only [List.length_append, List.length_cons, List.length_nil]; omega
        · exact h.mark b
      · simp only [upB]
        split
        · rename_i e
          subst e
          obtain ⟨r, hr⟩ := h.came b
          have h2 := hs.2
          rw [hr, hc.2.2, hm, show (((p.came b).length : Int) + 1 - 1).toNat = (p.came b).length by omega] at h2
          rw [List.getElem?_append_right (Nat.le_refl _), Nat.sub_self] at h2
          cases r with
          | nil => simp at h2
          | cons y r =>
            simp at h2
            subst h2
            exact ⟨r, by rw [hr, hb]; simp⟩
        · exact h.came b
      · simp only [upB]
        split
        · rename_i e; subst e; rw [ho]; exact h.sent _
        · exact h.sent b
      · simp only [upB] at hy
        split at hy
        · rename_i e
          subst e
          rw [ho] at hy
          exact h.it _ y (List.mem_filter.1 hy).1
        · exact h.it b y hy
    · have hc : ¬ (mayL x = true ∧ x.seq ≠ 0 ∧ x.seq = (p.e a).mark + 1) := fun hh => hi (by unfold onI; simpa using hh)
      have ho : (onS (p.e a) x).mark = (p.e a).mark ∧ (onS (p.e a) x).sent = (p.e a).sent ∧ ∀ y ∈ (onS (p.e a) x).l, y ∈ (p.e a).l := by
        unfold onS
        split
        · rename_i hm1
          rw [if_neg (fun hh => hc ⟨hm1, hh⟩)]
          exact ⟨rfl, rfl, fun y hy => (List.mem_filter.1 hy).1⟩
        · exact ⟨rfl, rfl, fun y hy => hy⟩
      rw [if_neg hi]
      refine ⟨fun b => ?_, h.came, fun b => ?_, fun b y hy => ?_, h.way⟩
      · simp only [upB]
        split
        · rename_i e; subst e; rw [ho.1]; exact h.mark _
        · exact h.mark b
      · simp only [upB]
        split
        · rename_i e; subst e; rw [ho.2.1]; exact h.sent _
        · exact h.sent b
      · simp only [upB] at hy
        split at hy
        · rename_i e; subst e; exact h.it _ y (ho.2.2 y hy)
        · exact h.it b y hy
  unfold onY
  simp only
  split
  · refine key.put _ ?_
    left
    unfold onP
    split <;> rfl
  · exact key
theorem RightY.come {p : Play} (h : RightY p) (a : Bool) (n : Int) (stays lost : Bool) : RightY (comeY p a n stays lost) := by
  unfold comeY
  split
  · exact h
  · rename_i x r hw
    simp only
    obtain ⟨k, hk⟩ : ∃ k, (n.tmod ((r.length + 1 : Nat) : Int)).natAbs = k := ⟨_, rfl⟩
    rw [hk]
    have hy : (x :: r).getD k x ∈ p.way a := by
      rw [hw]
      by_cases hlt : k < (x :: r).length
      · simp only [List.getD_eq_getElem?_getD, List.getElem?_eq_getElem hlt, Option.getD_some]
        exact List.getElem_mem hlt
      · simp only [List.getD_eq_getElem?_getD, List.getElem?_eq_none (Nat.le_of_not_lt hlt), Option.getD_none]
        exact List.mem_cons_self
    have hq : RightY (if stays = true then p else { p with way := upB p.way a ((x :: r).eraseIdx k) }) := by
      split
      · exact h
      · refine ⟨h.mark, h.came, h.sent, h.it, fun b y hb => ?_⟩
        simp only [upB] at hb
        split at hb
        · rename_i e
          subst e
          exact h.way _ y (hw ▸ List.mem_of_mem_eraseIdx hb)
        · exact h.way b y hb
    have hs : (if stays = true then p else { p with way := upB p.way a ((x :: r).eraseIdx k) }).sent = p.sent := by split <;> rfl
    split
    · exact hq
    · exact hq.on a (by rw [hs]; exact h.way a _ hy)
end Go.Proofs.Ytnmbblkfaoihfaa

namespace Go.Proofs.Ytnmbblkfaoihfaa
open Go.RowKit

/-- A row of a call's own. -/
structure YR where
  T : TypeId
  size : Nat
  v : Value
  n : Nat
  xs : List Value
/-- Rows that lie apart. -/
def RowsY (W : World) (B : Nat) (l : List YR) : Prop := (∀ r ∈ l, W.ownsRow B r.T r.size r.v r.n r.xs) ∧ l.Pairwise fun a b => ∀ g, a.v.ownBlock = some g → b.v.ownBlock ≠ some g
theorem RowsY.fr {W W' : World} {B : Nat} {l : List YR} {T : List TypeId} {S : List Nat} (h : RowsY W B l) (f : Fr 0 T S W W') (hT : ∀ r ∈ l, r.T ∉ T) (hS : ∀ r ∈ l, ∀ g, r.v.ownBlock = some g → g ∉ S) : RowsY W' B l :=
  ⟨fun r hr => f.own (h.1 r hr) (hT r hr) (hS r hr), h.2⟩
theorem RowsY.below {W W' : World} {B : Nat} {l : List YR} (h : RowsY W B l) (b : Below W.heap.size W W') : RowsY W' B l := h.fr (Fr.of_below (T := []) (S := []) b) (by simp) (by simp)
theorem own_other {W W' : World} {B e size n : Nat} {v : Value} {xs : List Value} {row : Option Nat} (h : W.ownsRow B e size v n xs) (hg : W.grownBy W' row) (hne : ∀ g, v.ownBlock = some g → row ≠ some g) : W'.ownsRow B e size v n xs :=
  (show Fr 0 [] row.toList W W' from (Fr.refl W).grown hg fun k hk => ⟨Nat.zero_le _, .inl (by simp [hk])⟩).own h (by simp) (fun k hk hm => hne k hk (by simpa using hm))
theorem pairwise_set {α : Type} {R : α → α → Prop} (hs : ∀ a b, R a b → R b a) {x' : α} : ∀ {l : List α} {i : Nat}, l.Pairwise R → (∀ j (hj : j < l.length), j ≠ i → R x' l[j]) → (l.set i x').Pairwise R
  | [], _, _, _ => by simp
  | y :: l, 0, h, hx => by
    rw [List.set_cons_zero, List.pairwise_cons]
    rw [List.pairwise_cons] at h
    refine ⟨fun z hz => ?_, h.2⟩
    obtain ⟨j, hj, rfl⟩ := List.getElem_of_mem hz
    exact hx (j + 1) (by simpa using hj) (by simp)
  | y :: l, i + 1, h, hx => by
    rw [List.set_cons_succ, List.pairwise_cons]
    rw [List.pairwise_cons] at h
    refine ⟨fun z hz => ?_, pairwise_set hs h.2 fun j hj hne => hx (j + 1) (by simpa using hj) (by omega)⟩
    rcases List.mem_or_eq_of_mem_set hz with hz | rfl
    · exact h.1 z hz
    · exact hs _ _ (hx 0 (by simp) (by omega))
/-- One row grows, or is another one. -/
theorem RowsY.grow {W W' : World} {B : Nat} {l : List YR} {i : Nat} {r : YR} (h : RowsY W B l) (hi : l[i]? = some r) (hg : W.grownBy W' r.v.ownBlock) {v' : Value} {n' : Nat} {xs' : List Value} (ho : W'.ownsRow B r.T r.size v' n' xs') (hv : v'.ownBlock = r.v.ownBlock ∨ v'.ownBlock = some W.heap.size) :
    RowsY W' B (l.set i ⟨r.T, r.size, v', n', xs'⟩) := by
  obtain ⟨hlt, hr⟩ := List.getElem?_eq_some_iff.1 hi
  have sym : ∀ a b : YR, (∀ g, a.v.ownBlock = some g → b.v.ownBlock ≠ some g) → ∀ g, b.v.ownBlock = some g → a.v.ownBlock ≠ some g := fun a b hab g hb ha => hab g ha hb
  have apart : ∀ j (hj : j < l.length), j ≠ i → ∀ g, r.v.ownBlock = some g → l[j].v.ownBlock ≠ some g := fun j hj hne => by
    subst hr
    rcases Nat.lt_or_gt_of_ne hne with hji | hij
    · exact sym _ _ (List.pairwise_iff_getElem.1 h.2 j i hj hlt hji)
    · exact List.pairwise_iff_getElem.1 h.2 i j hlt hj hij
  refine ⟨fun x hx => ?_, pairwise_set sym h.2 fun j hj hne g hg' => ?_⟩
  · obtain ⟨j, hj, rfl⟩ := List.getElem_of_mem hx
    rw [List.getElem_set]
    split
    · exact ho
    · rename_i hne
      have hj' : j < l.length := by simpa using hj
      refine own_other (h.1 _ (List.getElem_mem hj')) hg fun g h1 h2 => ?_
      exact apart j hj' (fun e => hne e.symm) g h2 h1
  · rcases hv with e | e
    · exact apart j hj hne g (e ▸ hg')
    · intro h1
      obtain ⟨_, cs, hc⟩ := own_block (h.1 _ (List.getElem_mem hj)) h1
      have := lt_of_block hc
      rw [e] at hg'
      injection hg' with hg'
      omega
/-- A text's value. -/
def strY (b : List Nat) : Value := .string (strOf b)
/-- The rows of a play. -/
def rowsY (P : Play) (vs vc vw : Bool → Value) (zs : Bool → List (LPk × Value)) : List YR :=
  [⟨9, 1, vs false, (P.sent false).length, (P.sent false).map strY⟩, ⟨9, 1, vs true, (P.sent true).length, (P.sent true).map strY⟩,
   ⟨9, 1, vc false, (P.came false).length, (P.came false).map strY⟩, ⟨9, 1, vc true, (P.came true).length, (P.came true).map strY⟩,
   ⟨43, 3, vw false, (P.way false).length, (zs false).flatMap encP⟩, ⟨43, 3, vw true, (P.way true).length, (zs true).flatMap encP⟩]
/-- A play in memory. -/
structure IsY (w : World) (y : Nat) (pe : Bool → Nat) (P : Play) (vs vc vw : Bool → Value) (zs : Bool → List (LPk × Value)) (W : World) : Prop where
  b : W.heap[y]? = some (.cells #[.pointer (some ⟨pe false, 0, none⟩), .pointer (some ⟨pe true, 0, none⟩), vs false, vs true, vc false, vc true, vw false, vw true, .int .i64 P.now] 37 (0, 0))
  two : En2 w (pe false) (P.e false) (pe true) (P.e true) W
  low : w.heap.size ≤ y
  map : ∀ a, (zs a).map (·.1) = P.way a
  by_ : ∀ a, ∀ z ∈ zs a, ByO W z.2 z.1.body
  rows : RowsY W w.heap.size (rowsY P vs vc vw zs)
theorem En2.bel {w W : World} {p q : Nat} {s r : LSt} (h : En2 w p s q r W) : Below w.heap.size w W := by
  obtain ⟨_, _, _, _, _, _, _, _, _, _, h⟩ := h
  exact h
theorem IsY.below {w W W' : World} {y : Nat} {pe : Bool → Nat} {P : Play} {vs vc vw : Bool → Value} {zs : Bool → List (LPk × Value)} (h : IsY w y pe P vs vc vw zs W) (b : Below W.heap.size W W') : IsY w y pe P vs vc vw zs W' :=
  ⟨(b.block _ (lt_of_block h.b)).trans h.b, h.two.keep b, h.low, h.map, fun a z hz => (h.by_ a z hz).below b, h.rows.below b⟩
end Go.Proofs.Ytnmbblkfaoihfaa
