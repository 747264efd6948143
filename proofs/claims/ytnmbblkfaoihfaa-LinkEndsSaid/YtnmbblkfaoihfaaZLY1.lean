/- Joined: Package link: what an end does, by definition. Memory words for the walks of this seat: a frame that names what may have turned, slices that read as a list. No program is named here. How long one waits: backoff.Wait and Next, and the reference's. The address of a slice value. No program is named here. More memory words: several cells of one block set one behind the other; a slice cleared. No program is named here. append onto a row of the call's own, from whatever slice. No program is named here. -/
import Derived.WalkKit
import Derived.WalkSpells
import Derived.WalkLawsBesides
import Derived.Deep.Draws
import Derived.Lib.Hide
import Derived.Test.YtnmbblkfaoihfaaRows
import Derived.Deep.QuietTactic
import Derived.BigQuiet
import Derived.Deep.RegionLaw
import Derived.Lib.SliceRun
namespace Go.Proofs.Ytnmbblkfaoihfaa

/-- A body that is not known to have come. -/
structure LIt where
  seq : Int
  body : List Nat
  tries : Int
  due : Int
/-- An end. -/
structure LSt where
  l : List LIt
  sent : Int
  mark : Int
/-- A packet. -/
structure LPk where
  seq : Int
  ack : Int
  body : List Nat

def waitL (t : Int) : Int := if t < 0 then 0 else if t = 0 then 2 else if t = 1 then 4 else if t = 2 then 8 else 16
def nextL (now t : Int) : Int := if 9223372036854775807 - waitL t < now then 9223372036854775807 else now + waitL t
def mayL (p : LPk) : Bool := decide (0 ≤ p.seq) && decide (p.seq ≤ 1099511627776) && decide (0 ≤ p.ack) && decide (p.ack ≤ 1099511627776) && decide (p.body.length ≤ 2048) && (decide (0 < p.seq) || decide (p.body.length = 0))
/-- Which number Send answers. -/
def sendE (s : LSt) (b : List Nat) : Int := if 2048 < b.length then 3 else if 64 ≤ s.l.length then 2 else 0
def sendS (s : LSt) (b : List Nat) (now : Int) : LSt := if sendE s b = 0 then ⟨s.l ++ [⟨s.sent + 1, b, 1, nextL now 0⟩], s.sent + 1, s.mark⟩ else s
def sendP (s : LSt) (b : List Nat) : LPk := if sendE s b = 0 then ⟨s.sent + 1, s.mark, b⟩ else ⟨0, 0, []⟩
def tickI (now : Int) (x : LIt) : LIt := if x.due ≤ now then ⟨x.seq, x.body, x.tries + 1, nextL now x.tries⟩ else x
def tickS (s : LSt) (now : Int) : LSt := ⟨s.l.map (tickI now), s.sent, s.mark⟩
def tickP (s : LSt) (now : Int) : List LPk := (s.l.filter fun x => decide (x.due ≤ now)).map fun x => ⟨x.seq, s.mark, x.body⟩
def onL (s : LSt) (p : LPk) : List LIt := s.l.filter fun x => !decide (x.seq ≤ p.ack)
def onS (s : LSt) (p : LPk) : LSt := if mayL p then ⟨onL s p, s.sent, if p.seq ≠ 0 ∧ p.seq = s.mark + 1 then s.mark + 1 else s.mark⟩ else s
def onB (s : LSt) (p : LPk) : List Nat := if mayL p ∧ p.seq ≠ 0 ∧ p.seq = s.mark + 1 then p.body else []
def onI (s : LSt) (p : LPk) : Bool := decide (mayL p = true ∧ p.seq ≠ 0 ∧ p.seq = s.mark + 1)
def onP (s : LSt) (p : LPk) : LPk := if mayL p = true ∧ p.seq ≠ 0 then ⟨0, (onS s p).mark, []⟩ else ⟨0, 0, []⟩
end Go.Proofs.Ytnmbblkfaoihfaa

namespace Go.Proofs.Ytnmbblkfaoihfaa
open Go.RowKit

/-- From w to w': below B nothing has turned; from B on only blocks of an element type in T, or of a number in S, may have turned; the streams are as they were. -/
structure Fr (B : Nat) (T : List TypeId) (S : List Nat) (w w' : World) : Prop where
  os : w'.os = w.os
  tape : w'.tape = w.tape
  output : w'.output = w.output
  size : w.heap.size ≤ w'.heap.size
  block : ∀ k, k < w.heap.size → (k < B ∨ ((∀ cs t f, w.heap[k]? = some (.cells cs t f) → t ∉ T) ∧ k ∉ S)) → w'.heap[k]? = w.heap[k]?

section
variable {B B' : Nat} {T T' : List TypeId} {S S' : List Nat} {a b c w w' : World}
theorem Fr.refl (w : World) : Fr B T S w w := ⟨rfl, rfl, rfl, Nat.le_refl _, fun _ _ _ => rfl⟩
theorem Fr.trans (h : Fr B T S a b) (k : Fr B T S b c) : Fr B T S a c :=
  ⟨k.os.trans h.os, k.tape.trans h.tape, k.output.trans h.output, Nat.le_trans h.size k.size, fun i hi hc => by
    have e := h.block i hi hc
    rw [← e]
    refine k.block i (Nat.lt_of_lt_of_le hi h.size) ?_
    rcases hc with hc | ⟨h1, h2⟩
    · exact .inl hc
    · exact .inr ⟨fun cs t f he => h1 cs t f (by rw [← e]; exact he), h2⟩⟩
theorem Fr.mono (h : Fr B T S a b) (hB : B' ≤ B) (hT : ∀ t ∈ T, t ∈ T') (hS : ∀ k ∈ S, k ∈ S') : Fr B' T' S' a b :=
  ⟨h.os, h.tape, h.output, h.size, fun i hi hc => h.block i hi (by
    rcases hc with hc | ⟨h1, h2⟩
    · exact .inl (by omega)
    · exact .inr ⟨fun cs t f he ht => h1 cs t f he (hT t ht), fun hs => h2 (hS i hs)⟩)⟩
theorem Fr.base (h : Fr B T S a b) (hB : B' ≤ B) : Fr B' T S a b := h.mono hB (fun _ h => h) (fun _ h => h)
/-- Nothing that was there has turned: that serves every frame. -/
theorem Fr.of_below (h : Below a.heap.size a b) : Fr B T S a b := ⟨h.os, h.tape, h.output, h.size, fun i hi _ => h.block i hi⟩
theorem Fr.below (h : Fr B T S a b) (hB : B ≤ a.heap.size) : Below B a b := ⟨h.os, h.tape, h.output, h.size, fun k hk => h.block k (by omega) (.inl hk)⟩
theorem Fr.below' (h : Fr B [] [] a b) : Below a.heap.size a b := ⟨h.os, h.tape, h.output, h.size, fun k hk => h.block k hk (.inr ⟨fun _ _ _ _ => by simp, by simp⟩)⟩
theorem Fr.drew (h : Fr B T S a w) : Fr B T S a w.drew := ⟨h.os, h.tape, h.output, h.size, h.block⟩
theorem Fr.drewN (h : Fr B T S a w) (n : Nat) : Fr B T S a (w.drewN n) := ⟨h.os, h.tape, h.output, h.size, h.block⟩
theorem Fr.alloc (h : Fr B T S a w) (o : Obj) : Fr B T S a (w.alloc o) :=
  h.trans (Fr.of_below ((Below.refl _ w).alloc (Nat.le_refl _) o))
/-- A store into a block that is not older than B and whose type is in T, or that is in S. -/
theorem Fr.setCell (h : Fr B T S a w) {p : Addr} (u : Value) (hB : B ≤ p.block) (ht : p.block ∈ S ∨ ∃ cs t f, w.heap[p.block]? = some (.cells cs t f) ∧ t ∈ T) : Fr B T S a (w.setCell p u) := by
  refine h.trans ⟨rfl, rfl, rfl, by simp [World.setCell], fun k hk hc => ?_⟩
  refine Below.heap_setCell w p u k ?_
  rintro rfl
  rcases hc with hc | ⟨h1, h2⟩
  · omega
  · rcases ht with ht | ⟨cs, t, f, he, ht⟩
    · exact h2 ht
    · exact h1 cs t f he ht
/-- A store into a block that has come since. -/
theorem Fr.setNew (h : Fr B T S a w) {p : Addr} (u : Value) (hB : a.heap.size ≤ p.block) : Fr B T S a (w.setCell p u) :=
  ⟨h.os, h.tape, h.output, by simpa [World.setCell] using h.size, fun k hk hc => (Below.heap_setCell w p u k (by omega)).trans (h.block k hk hc)⟩
theorem Fr.grown (h : Fr B T S a w) {row : Option Nat} (hg : w.grownBy w' row) (hr : ∀ k, row = some k → B ≤ k ∧ (k ∈ S ∨ ∃ cs t f, w.heap[k]? = some (.cells cs t f) ∧ t ∈ T)) : Fr B T S a w' := by
  refine h.trans ⟨hg.os, hg.tape, hg.output, hg.size, fun k hk hc => hg.block k hk ?_⟩
  intro e
  obtain ⟨hB, ht⟩ := hr k e.symm
  rcases hc with hc | ⟨h1, h2⟩
  · omega
  · rcases ht with ht | ⟨cs, t, f, he, ht⟩
    · exact h2 ht
    · exact h1 cs t f he ht
/-- Behind a contract that leaves all that was there as it was. -/
theorem Fr.then (h : Fr B T S a w) (hb : Below w.heap.size w w') : Fr B T S a w' := h.trans (Fr.of_below hb)
/-- A block that may not have turned holds what it held. -/
theorem Fr.keep (h : Fr B T S w w') {k : Nat} {cs : Array Value} {t : TypeId} {f : Nat × Nat} (hk : w.heap[k]? = some (.cells cs t f)) (ht : t ∉ T) (hs : k ∉ S) : w'.heap[k]? = some (.cells cs t f) :=
  (h.block k (Array.getElem?_eq_some_iff.1 hk).1 (.inr ⟨fun cs' t' f' he => by rw [hk] at he; injection he with he; injection he with _ h2 _; subst h2; exact ht, hs⟩)).trans hk
theorem Fr.keepLow (h : Fr B T S w w') {k : Nat} {o : Obj} (hk : w.heap[k]? = some o) (hB : k < B) : w'.heap[k]? = some o :=
  (h.block k (Array.getElem?_eq_some_iff.1 hk).1 (.inl hB)).trans hk
theorem Fr.own (h : Fr B T S w w') {base : Nat} {e : TypeId} {size n : Nat} {v : Value} {xs : List Value} (ho : w.ownsRow base e size v n xs) (ht : e ∉ T) (hs : ∀ k, v.ownBlock = some k → k ∉ S) : w'.ownsRow base e size v n xs := by
  refine ⟨ho.1, ?_⟩
  rcases ho.2 with hn | ⟨g, cap, cur, rfl, hb, hg, rest⟩
  · exact .inl hn
  · exact .inr ⟨g, cap, cur, rfl, hb, h.keep hg ht (hs g rfl), rest⟩
end

theorem ret_int {k : IntKind} {a b : Int} (h : a = b) : Ending.returned (.int k a) = .returned (.int k b) := by rw [h]
theorem ret_bool {a b : Bool} (h : a = b) : Ending.returned (.bool a) = .returned (.bool b) := by rw [h]

/-- The cells of a block. -/
theorem cell_at {w : World} {k : Nat} {cs : Array Value} {t : TypeId} {f : Nat × Nat} (h : w.heap[k]? = some (.cells cs t f)) (i : Nat) : w.cell? ⟨k, i, none⟩ = cs[i]? := cell_of_row w k i cs t f h
theorem frozen_at {w : World} {k : Nat} {cs : Array Value} {t : TypeId} (h : w.heap[k]? = some (.cells cs t (0, 0))) (i : Nat) : w.frozen? ⟨k, i, none⟩ = false := by simp [World.frozen?, h]
theorem lt_of_block {w : World} {k : Nat} {o : Obj} (h : w.heap[k]? = some o) : k < w.heap.size := (Array.getElem?_eq_some_iff.1 h).1
theorem block_set {w : World} {k : Nat} {cs : Array Value} {t : TypeId} {f : Nat × Nat} (h : w.heap[k]? = some (.cells cs t f)) (i : Nat) (u : Value) :
    (w.setCell ⟨k, i, none⟩ u).heap[k]? = some (.cells (cs.setIfInBounds i u) t f) := by
  simp [World.setCell, Array.getElem?_modify, h]
theorem block_far {w : World} {k : Nat} {o : Obj} (h : w.heap[k]? = some o) {p : Addr} (hp : k ≠ p.block) (u : Value) : (w.setCell p u).heap[k]? = some o := (Below.heap_setCell w p u k hp).trans h
theorem block_alloc {w : World} {k : Nat} {o : Obj} (h : w.heap[k]? = some o) (o' : Obj) : (w.alloc o').heap[k]? = some o := (Below.heap_alloc w o' k (lt_of_block h)).trans h
theorem block_new (w : World) (o : Obj) : (w.alloc o).heap[w.heap.size]? = some o := heap_alloc_new w o
theorem block_ne {w : World} {k k' : Nat} {cs cs' : Array Value} {t t' : TypeId} {f f' : Nat × Nat} (h : w.heap[k]? = some (.cells cs t f)) (h' : w.heap[k']? = some (.cells cs' t' f')) (ht : t ≠ t') : k ≠ k' := by
  rintro rfl
  rw [h] at h'
  injection h' with h'
  injection h' with _ h2 _
  exact ht h2
theorem own_block {w : World} {base : Nat} {e : TypeId} {size n : Nat} {v : Value} {xs : List Value} (h : w.ownsRow base e size v n xs) {k : Nat} (hk : v.ownBlock = some k) : base ≤ k ∧ ∃ cs, w.heap[k]? = some (.cells cs e (0, 0)) := by
  rcases h.2 with ⟨rfl, _⟩ | ⟨g, cap, cur, rfl, hb, hg, _⟩
  · simp [Value.ownBlock] at hk
  · simp [Value.ownBlock] at hk
    subst hk
    exact ⟨hb, cur, hg⟩
theorem own_ne {w : World} {base : Nat} {e : TypeId} {size n : Nat} {v : Value} {xs : List Value} (h : w.ownsRow base e size v n xs) {k : Nat} {cs : Array Value} {t : TypeId} {f : Nat × Nat} (hk : w.heap[k]? = some (.cells cs t f)) (ht : e ≠ t) : v.ownBlock ≠ some k := by
  intro hv
  obtain ⟨_, cs', hg⟩ := own_block h hv
  exact block_ne hg hk ht rfl

theorem own_set {w : World} {base : Nat} {e : TypeId} {size n c g : Nat} {xs : List Value} (h : w.ownsRow base e size (.slice (some ⟨g, 0, none⟩) n c) n xs) {i : Nat} (_hi : i < n * size) (u : Value) :
    (w.setCell ⟨g, i, none⟩ u).ownsRow base e size (.slice (some ⟨g, 0, none⟩) n c) n (xs.set i u) := by
  obtain ⟨hl, h | ⟨g', cap, cur, hv, hb, hg, hnc, hcm, hcs, htake⟩⟩ := h
  · cases h.1
  · cases hv
    refine ⟨by simpa using hl, .inr ⟨g, c, _, rfl, hb, block_set hg i u, hnc, hcm, by simpa using hcs, ?_⟩⟩
    rw [Array.toList_setIfInBounds, List.take_set, htake]
theorem own_succ {w : World} {base : Nat} {e : TypeId} {size n : Nat} {v : Value} {xs : List Value} (h : w.ownsRow base e size v (n + 1) xs) : ∃ g c, v = .slice (some ⟨g, 0, none⟩) (n + 1) c := by
  rcases h.2 with ⟨_, h0⟩ | ⟨g, cap, cur, rfl, _⟩
  · omega
  · exact ⟨g, cap, rfl⟩

/-- A slice value of n elements of 'size' cells each whose cells read as xs; the empty one may be nil. -/
def Rd (w : World) (size : Nat) (A : Option Addr) (n : Nat) (xs : List Value) : Prop :=
  xs.length = n * size ∧ (0 < n → ∃ g o, A = some ⟨g, o, none⟩ ∧ g < w.heap.size ∧ ∀ j u, xs[j]? = some u → w.cell? ⟨g, o + j, none⟩ = some u)
theorem Rd.nil {w : World} {size : Nat} {A : Option Addr} : Rd w size A 0 [] := ⟨by simp, fun h => absurd h (by omega)⟩
theorem Rd.below {w w' : World} {size n : Nat} {A : Option Addr} {xs : List Value} (h : Rd w size A n xs) (hb : Below w.heap.size w w') : Rd w' size A n xs :=
  ⟨h.1, fun hn => by
    obtain ⟨g, o, e, hg, hc⟩ := h.2 hn
    exact ⟨g, o, e, Nat.lt_of_lt_of_le hg hb.size, fun j u hu => (hb.cell (p := ⟨g, o + j, none⟩) hg).trans (hc j u hu)⟩⟩
theorem own_slice {w : World} {base : Nat} {e : TypeId} {size n : Nat} {v : Value} {xs : List Value} (h : w.ownsRow base e size v n xs) :
    ∃ A c, v = .slice A n c ∧ n ≤ c ∧ c ≤ maxLen ∧ Rd w size A n xs ∧ (∀ a, A = some a → v.ownBlock = some a.block ∧ a.off = 0 ∧ a.spot = none) := by
  rcases h.2 with ⟨rfl, rfl⟩ | ⟨g, cap, cur, rfl, hb, hg, hnc, hcm, hcs, htake⟩
  · refine ⟨none, 0, rfl, Nat.le_refl _, Nat.zero_le _, ⟨by simpa using h.1, fun hn => absurd hn (by omega)⟩, fun a ha => by cases ha⟩
  · refine ⟨some ⟨g, 0, none⟩, cap, rfl, hnc, hcm, ⟨h.1, fun _ => ⟨g, 0, rfl, lt_of_block hg, fun j u hu => ?_⟩⟩, fun a ha => by cases ha; exact ⟨rfl, rfl, rfl⟩⟩
    rw [cell_at hg, Nat.zero_add]
    rw [← htake, List.getElem?_take] at hu
    split at hu
    · simpa using hu
    · cases hu

end Go.Proofs.Ytnmbblkfaoihfaa

namespace Go.Proofs.Ytnmbblkfaoihfaa
open Go.RowKit

theorem waitL_pos {t : Int} (h : 0 ≤ t) : 2 ≤ waitL t ∧ waitL t ≤ 16 := by
  unfold waitL
  split
  · omega
  · split
    · omega
    · split
      · omega
      · split <;> omega

set_option maxHeartbeats 1000000 in
theorem wait_any (t : Int) (w : World) (ht : 0 ≤ t ∧ t ≤ 9223372036854775807) :
    Calls Try.prog 59 #[.int .i64 2, .int .i64 16, .int .i64 t] w fun e w' => e = .returned (.int .i64 (waitL t)) ∧ w = w' := by
  go_enter Try.func59, Try.ntmps59
  go_wp2_with fail
  go_loopw [2, 7] (fun tr wv wr => w = wr ∧ ∃ j : Nat, j ≤ 3 ∧ (j : Int) ≤ t ∧ tr = .int .i64 (t - j) ∧ wv = .int .i64 ((2 ^ (j + 1) : Nat) : Int)) (fun tr _ _ => (intOf tr).toNat)
  case atStart => exact ⟨rfl, 0, by omega, by omega, by simp, rfl⟩
  case round =>
    obtain ⟨rfl, j, hj, hjt, rfl, rfl⟩ := hrel
    by_cases h : t = j
    · subst h
      obtain rfl | rfl | rfl | rfl : j = 0 ∨ j = 1 ∨ j = 2 ∨ j = 3 := by omega
      all_goals go_wp2
      all_goals go_ret
      all_goals exact ⟨rfl, rfl⟩
    · obtain rfl | rfl | rfl | rfl : j = 0 ∨ j = 1 ∨ j = 2 ∨ j = 3 := by omega
      · go_wp2
        go_roundw
        case rel => exact ⟨trivial, 1, by omega, by omega, by go_num, rfl⟩
        case measure => simp [intOf]; omega
      · go_wp2
        go_roundw
        case rel => exact ⟨trivial, 2, by omega, by omega, by go_num, rfl⟩
        case measure => simp [intOf]; omega
      · go_wp2
        go_roundw
        case rel => exact ⟨trivial, 3, by omega, by omega, by go_num, rfl⟩
        case measure => simp [intOf]; omega
      · go_wp2
        go_ret
        have : waitL t = 16 := by unfold waitL; rw [if_neg (by omega), if_neg (by omega), if_neg (by omega), if_neg (by omega)]
        rw [this]
        exact ⟨rfl, rfl⟩

set_option maxHeartbeats 1000000 in
theorem next_any (now t : Int) (w : World) (hn : -9223372036854775808 ≤ now ∧ now ≤ 9223372036854775807) (ht : 0 ≤ t ∧ t ≤ 9223372036854775807) :
    Calls Try.prog 42 #[.int .i64 now, .int .i64 2, .int .i64 16, .int .i64 t] w fun e w' => e = .returned (.int .i64 (nextL now t)) ∧ w = w' := by
  have hp := waitL_pos ht.1
  have hw := wait_any t w ht
  obtain ⟨x, hx⟩ : ∃ x, waitL t = x := ⟨_, rfl⟩
  rw [hx] at hp hw
  have HW := Lib.hid hw
  have hnx : nextL now t = if 9223372036854775807 - x < now then 9223372036854775807 else now + x := by unfold nextL; rw [hx]
  have HN := Lib.hid hnx
  clear hw hx hnx ht
  go_enter Try.func42, Try.ntmps42
  go_wp2_with fail
  refine HW.out.mono ?_
  rintro e w1 ⟨rfl, rfl⟩
  by_cases h : 9223372036854775807 - x < now
  · go_wp2
    go_ret
    rw [HN.out, if_pos h]
    exact ⟨rfl, rfl⟩
  · go_wp2
    go_ret
    rw [HN.out, if_neg (by omega)]
    exact ⟨rfl, rfl⟩

set_option maxHeartbeats 1000000 in
theorem rwait_any (t : Int) (w : World) (ht : 0 ≤ t ∧ t ≤ 9223372036854775807) :
    Calls Try.prog 61 #[.int .i64 2, .int .i64 16, .int .i64 t] w fun e w' => e = .returned (.int .i64 (waitL t)) ∧ w = w' := by
  go_enter Try.func61, Try.ntmps61
  go_wp2_with fail
  go_loopw [7, 8] (fun wv i wr => w = wr ∧ ∃ j : Nat, j ≤ 3 ∧ (j : Int) ≤ t ∧ i = .int .i64 j ∧ wv = .int .i64 ((2 ^ (j + 1) : Nat) : Int)) (fun _ i _ => (t - intOf i).toNat)
  case atStart => exact ⟨rfl, 0, by omega, by omega, by simp, rfl⟩
  case round =>
    obtain ⟨rfl, j, hj, hjt, rfl, rfl⟩ := hrel
    by_cases h : t = j
    · subst h
      obtain rfl | rfl | rfl | rfl : j = 0 ∨ j = 1 ∨ j = 2 ∨ j = 3 := by omega
      all_goals go_wp2
      all_goals go_ret
      all_goals exact ⟨rfl, rfl⟩
    · obtain rfl | rfl | rfl | rfl : j = 0 ∨ j = 1 ∨ j = 2 ∨ j = 3 := by omega
      · go_wp2
        go_roundw
        case rel => exact ⟨trivial, 1, by omega, by omega, by go_num, rfl⟩
        case measure => simp [intOf]; omega
      · go_wp2
        go_roundw
        case rel => exact ⟨trivial, 2, by omega, by omega, by go_num, rfl⟩
        case measure => simp [intOf]; omega
      · go_wp2
        go_roundw
        case rel => exact ⟨trivial, 3, by omega, by omega, by go_num, rfl⟩
        case measure => simp [intOf]; omega
      · go_wp2
        go_ret
        have : waitL t = 16 := by unfold waitL; rw [if_neg (by omega), if_neg (by omega), if_neg (by omega), if_neg (by omega)]
        rw [this]
        exact ⟨rfl, rfl⟩

set_option maxHeartbeats 1000000 in
theorem rnext_any (now t : Int) (w : World) (hn : -9223372036854775808 ≤ now ∧ now ≤ 9223372036854775807) (ht : 0 ≤ t ∧ t ≤ 9223372036854775807) :
    Calls Try.prog 46 #[.int .i64 now, .int .i64 t] w fun e w' => e = .returned (.int .i64 (nextL now t)) ∧ w = w' := by
  have hp := waitL_pos ht.1
  have hw := rwait_any t w ht
  obtain ⟨x, hx⟩ : ∃ x, waitL t = x := ⟨_, rfl⟩
  rw [hx] at hp hw
  have HW := Lib.hid hw
  have hnx : nextL now t = if 9223372036854775807 - x < now then 9223372036854775807 else now + x := by unfold nextL; rw [hx]
  have HN := Lib.hid hnx
  clear hw hx hnx ht
  go_enter Try.func46, Try.ntmps46
  go_wp2_with fail
  refine HW.out.mono ?_
  rintro e w1 ⟨rfl, rfl⟩
  by_cases h : 9223372036854775807 - x < now
  · go_wp2
    go_ret
    rw [HN.out, if_pos h]
    exact ⟨rfl, rfl⟩
  · go_wp2
    go_ret
    rw [HN.out, if_neg (by omega)]
    exact ⟨rfl, rfl⟩
end Go.Proofs.Ytnmbblkfaoihfaa

namespace Go.Proofs.Ytnmbblkfaoihfaa
open Go.RowKit

/-- The address of a slice value: nil, without room; or a cell of a block. -/
def SlA (A : Option Addr) (c : Nat) : Prop := c = 0 ∨ ∃ g o, A = some ⟨g, o, none⟩
theorem SlA.of_own {w : World} {base : Nat} {e : TypeId} {size n m c : Nat} {A : Option Addr} {xs : List Value} (h : w.ownsRow base e size (.slice A m c) n xs) : SlA A c := by
  rcases h.2 with ⟨h, _⟩ | ⟨g, cap, cur, h, _⟩
  · injection h with h1 h2 h3; exact .inl h3
  · injection h with h1 h2 h3; exact .inr ⟨g, 0, h1⟩
end Go.Proofs.Ytnmbblkfaoihfaa

namespace Go.Proofs.Ytnmbblkfaoihfaa
open Go.RowKit

/-- The cells of a block behind several stores in a row. -/
def over : Array Value → Nat → List Value → Array Value
  | cs, _, [] => cs
  | cs, o, v :: r => over (cs.setIfInBounds o v) (o + 1) r
theorem over_size : ∀ (vs : List Value) (cs : Array Value) (o : Nat), (over cs o vs).size = cs.size
  | [], _, _ => rfl
  | v :: r, cs, o => by rw [over, over_size r]; simp
theorem over_get : ∀ (vs : List Value) (cs : Array Value) (o j : Nat), o + vs.length ≤ cs.size → (over cs o vs)[j]? = if o ≤ j ∧ j < o + vs.length then vs[j - o]? else cs[j]?
  | [], cs, o, j, _ => by
    rw [over, if_neg]
    simp
  | v :: r, cs, o, j, h => by
    simp only [List.length_cons] at h
    rw [over, over_get r _ (o + 1) j (by simp; omega)]
    simp only [List.length_cons]
    by_cases h1 : o + 1 ≤ j ∧ j < o + 1 + r.length
    · rw [if_pos h1, if_pos (by omega)]
      obtain ⟨d, rfl⟩ : ∃ d, j = o + 1 + d := ⟨j - (o + 1), by omega⟩
      rw [show o + 1 + d - (o + 1) = d from by omega, show o + 1 + d - o = d + 1 from by omega]
      rfl
    · rw [if_neg h1]
      by_cases h2 : j = o
      · subst h2
        rw [if_pos (by omega), Array.getElem?_setIfInBounds_self_of_lt (by omega)]
        simp
      · rw [if_neg (by omega), Array.getElem?_setIfInBounds_ne (by omega)]
theorem block_over {k : Nat} {t : TypeId} {f : Nat × Nat} : ∀ (vs : List Value) (cs : Array Value) (o : Nat) (w : World), w.heap[k]? = some (.cells cs t f) → (w.setCells k o vs).heap[k]? = some (.cells (over cs o vs) t f)
  | [], _, _, _, h => h
  | v :: r, cs, o, _, h => block_over r (cs.setIfInBounds o v) (o + 1) _ (block_set h o v)
theorem Fr.setCells {B : Nat} {T : List TypeId} {S : List Nat} {a : World} {k : Nat} (hB : B ≤ k) : ∀ (vs : List Value) (o : Nat) (w : World), Fr B T S a w → (k ∈ S ∨ ∃ cs t f, w.heap[k]? = some (.cells cs t f) ∧ t ∈ T) → Fr B T S a (w.setCells k o vs)
  | [], _, _, h, _ => h
  | v :: r, o, w, h, ht => Fr.setCells hB r (o + 1) _ (h.setCell (p := ⟨k, o, none⟩) v hB ht) (by
      rcases ht with ht | ⟨cs, t, f, he, ht⟩
      · exact .inl ht
      · exact .inr ⟨_, t, f, block_set he o v, ht⟩)
theorem take_over {cs : Array Value} {o : Nat} {vs xs : List Value} {n : Nat} (hn : n = o + vs.length) (hx : o ≤ xs.length) (hs : n ≤ cs.size) (ht : cs.toList.take xs.length = xs) : (over cs o vs).toList.take n = xs.take o ++ vs := by
  have hxs : xs.length ≤ cs.size := by
    have := congrArg List.length ht
    simp at this
    omega
  apply List.ext_getElem?
  intro j
  rw [List.getElem?_take]
  by_cases hj : j < n
  · rw [if_pos hj, Array.getElem?_toList, over_get _ _ _ _ (by omega)]
    by_cases h1 : o ≤ j
    · rw [if_pos (by omega), List.getElem?_append_right (by simp; omega)]
      simp
      rw [Nat.min_eq_left hx]
    · rw [if_neg (by omega), List.getElem?_append_left (by simp; omega), List.getElem?_take, if_pos (by omega), ← ht, List.getElem?_take, if_pos (by omega), Array.getElem?_toList]
  · rw [if_neg hj, List.getElem?_eq_none]
    simp
    omega

/-- 'clear(s)' of a slice of n > 0 elements of several cells each. -/
theorem run_clear_many {P : Program} (w : World) (t e : TypeId) (z : Value) (ht : P.underlying t = some (.slice e)) (hv : ∀ w, (zeroValue e).run P w = .ok z w) (h1 : ∀ u ∈ z.cells, u.oneCell' = true) (b o n c : Nat) (hn : 0 < n)
    (hc : ∀ j, j < n * z.cells.size → (w.cell? ⟨b, o + j, none⟩).isSome = true) (hf : ∀ j, j < n * z.cells.size → w.frozen? ⟨b, o + j, none⟩ = false) :
    ∃ vs : List Value, vs.length = n * z.cells.size ∧ ∀ ty, (Builtin.clear_ #[t] ty #[.slice (some ⟨b, o, none⟩) n c]).run P w = .ok (.tuple #[]) (w.setCells b o vs) := by
  obtain ⟨vs, hvs⟩ : ∃ vs, (Builtin.zeroCells z.cells n).toList = vs := ⟨_, rfl⟩
  have hl : vs.length = n * z.cells.size := by rw [← hvs]; simp [Builtin.zeroCells]
  have hone : ∀ u ∈ vs, u.oneCell' = true := by
    intro u hu
    rw [← hvs] at hu
    simp [Builtin.zeroCells] at hu
    obtain ⟨i, hi, rfl⟩ := hu
    by_cases h0 : z.cells.size = 0
    · rw [h0] at hi; omega
    · have hm : i % z.cells.size < z.cells.size := Nat.mod_lt _ (by omega)
      have := h1 z.cells[i % z.cells.size] (by simp)
      simpa [hm] using this
  have hst := run_storeCells_cells (P := P) b o vs 0 w (by simpa [hl] using hc) (by simpa [hl] using hf) hone
  simp only [Nat.add_zero] at hst
  obtain ⟨m, rfl⟩ : ∃ m, n = m + 1 := ⟨n - 1, by omega⟩
  exact ⟨vs, hl, fun ty => by simp [Builtin.clear_, run_underlying ht, hv, hvs, hst]⟩
end Go.Proofs.Ytnmbblkfaoihfaa

namespace Go.Proofs.Ytnmbblkfaoihfaa
open Go.RowKit

section
variable {P : Program} (w : World)

theorem run_append_rd (base : Nat) (t ty e : TypeId) (i : TypeInfo) (z : Value) (size bytes : Nat) (ht : P.underlying t = some (.slice e)) (hi : P.info? e = some i) (hz : i.zero = some z)
    (hsize : i.size = size) (hby : i.bytes = bytes) (hzs : z.cells.size = size) (hsz : 0 < size)
    (v : Value) (n : Nat) (xs : List Value) (hown : w.ownsRow base e size v n xs)
    (A : Option Addr) (m c : Nat) (news : List Value) (hr : Rd w size A m news) (h1 : ∀ u ∈ news, u.oneCell' = true)
    (h63 : n + m ≤ maxLen) (hbytes : (n + m) * bytes ≤ 140737488355328) (hbase : base ≤ w.heap.size) :
    ∃ v' w', (Builtin.append_ #[t, t] ty #[v, .slice A m c]).run P w = .ok v' w' ∧ w'.ownsRow base e size v' (n + m) (xs ++ news) ∧ w.grownBy w' v.ownBlock ∧ (v' = .slice none 0 0 → v = .slice none 0 0 ∧ m = 0) := by
  by_cases hm : m = 0
  · subst hm
    have hn : news = [] := List.eq_nil_of_length_eq_zero (by simpa using hr.1)
    subst hn
    cases A with
    | none =>
      refine ⟨v, w, ?_, by simpa using hown, World.grownBy.refl w _, fun h => ⟨h, rfl⟩⟩
      rcases hown.2 with ⟨rfl, rfl⟩ | ⟨g, cap, cur, rfl, _, _, hnc, _⟩
      · simp [Builtin.append_, run_underlying ht, sizeOf, typeInfo, hi, Builtin.lenOf, Builtin.firstCells]
      · simp [Builtin.append_, run_underlying ht, sizeOf, typeInfo, hi, Builtin.lenOf, Builtin.firstCells, hnc, storeCells]
    | some a =>
      obtain ⟨v', w', h2, h3, h4, h5⟩ := run_append_own (P := P) w base t ty e i z size bytes ht hi hz hsize hby hzs hsz v n xs hown a 0 c [] (by simp) (by simp) (by simp) h63 hbytes hbase
      exact ⟨v', w', h2, h3, h4, h5.1⟩
  · obtain ⟨g, o, rfl, hg, hc⟩ := hr.2 (by omega)
    obtain ⟨v', w', h2, h3, h4, h5⟩ := run_append_own (P := P) w base t ty e i z size bytes ht hi hz hsize hby hzs hsz v n xs hown ⟨g, o, none⟩ m c news hr.1 (fun j u hu => by
      have := hc j u hu
      have e : (⟨g, o, none⟩ : Addr).add j = ⟨g, o + j, none⟩ := by unfold Addr.add; split <;> simp_all
      rw [e]; exact this) h1 h63 hbytes hbase
    exact ⟨v', w', h2, h3, h4, h5.1⟩

theorem wp_append_rd {o : Oper} {a : Act} {K : Act → World → Prop} {Q : Exit → Act → World → Prop} (s x : Operand) (t : TypeId)
    (ho : o.op = .call { callee := .builtin .append, args := #[s, x], argTypes := #[t, t] })
    (base : Nat) (e : TypeId) (i : TypeInfo) (z : Value) (size bytes : Nat) (ht : P.underlying t = some (.slice e)) (hi : P.info? e = some i) (hz : i.zero = some z)
    (hsize : i.size = size) (hby : i.bytes = bytes) (hzs : z.cells.size = size) (hsz : 0 < size)
    (v : Value) (n : Nat) (xs : List Value) (hs : a.eval s = v) (hown : w.ownsRow base e size v n xs)
    (A : Option Addr) (m c : Nat) (news : List Value) (hx : a.eval x = .slice A m c) (hr : Rd w size A m news) (h1 : ∀ u ∈ news, u.oneCell' = true)
    (h63 : n + m ≤ maxLen) (hbytes : (n + m) * bytes ≤ 140737488355328) (hbase : base ≤ w.heap.size)
    (h : ∀ v' w', w'.ownsRow base e size v' (n + m) (xs ++ news) → w.grownBy w' v.ownBlock → (v' = .slice none 0 0 → v = .slice none 0 0 ∧ m = 0) → K (a.put o.dst v') w') : o.wp P a w K Q := by
  obtain ⟨v', w', hrun, h2, h3, h4⟩ := run_append_rd (P := P) w base t o.type e i z size bytes ht hi hz hsize hby hzs hsz v n xs hown A m c news hr h1 h63 hbytes hbase
  unfold Oper.wp execOp
  simp only [ho, resolve, invoke, builtin, Sem.run_bind, Sem.run_pure, Result.andThen_ok, List.map_toArray, List.map_cons, List.map_nil, hs, hx, hrun]
  exact h v' w' h2 h3 h4

theorem wpList_append_rd {ops : Array Oper} {rest : List Oper} {o : Oper} {a : Act} {Q : Exit → Act → World → Prop} (hgd : o.guard = none) (s x : Operand) (t : TypeId)
    (ho : o.op = .call { callee := .builtin .append, args := #[s, x], argTypes := #[t, t] })
    (base : Nat) (e : TypeId) (i : TypeInfo) (z : Value) (size bytes : Nat) (ht : P.underlying t = some (.slice e)) (hi : P.info? e = some i) (hz : i.zero = some z)
    (hsize : i.size = size) (hby : i.bytes = bytes) (hzs : z.cells.size = size) (hsz : 0 < size)
    (v : Value) (n : Nat) (xs : List Value) (hs : a.eval s = v) (hown : w.ownsRow base e size v n xs)
    (A : Option Addr) (m c : Nat) (news : List Value) (hx : a.eval x = .slice A m c) (hr : Rd w size A m news) (h1 : ∀ u ∈ news, u.oneCell' = true)
    (h63 : n + m ≤ maxLen) (hbytes : (n + m) * bytes ≤ 140737488355328) (hbase : base ≤ w.heap.size)
    (h : ∀ v' w', w'.ownsRow base e size v' (n + m) (xs ++ news) → w.grownBy w' v.ownBlock → (v' = .slice none 0 0 → v = .slice none 0 0 ∧ m = 0) → wpList P ops Q rest (a.put o.dst v') w') : wpList P ops Q (o :: rest) a w :=
  wpList_plain hgd fun _ hK => wp_append_rd w s x t ho base e i z size bytes ht hi hz hsize hby hzs hsz v n xs hs hown A m c news hx hr h1 h63 hbytes hbase fun v' w' h2 h3 h4 => hK _ _ (h v' w' h2 h3 h4)

theorem step_append_rd {ops : Array Oper} {o : Oper} {a : Act} {K : Act → World → Prop} {Q : Exit → Act → World → Prop} {E : Prop} (hgd : o.guard = none) (s x : Operand) (t : TypeId)
    (ho : o.op = .call { callee := .builtin .append, args := #[s, x], argTypes := #[t, t] })
    (base : Nat) (e : TypeId) (i : TypeInfo) (z : Value) (size bytes : Nat) (ht : P.underlying t = some (.slice e)) (hi : P.info? e = some i) (hz : i.zero = some z)
    (hsize : i.size = size) (hby : i.bytes = bytes) (hzs : z.cells.size = size) (hsz : 0 < size)
    (v : Value) (n : Nat) (xs : List Value) (hs : a.eval s = v) (hown : w.ownsRow base e size v n xs)
    (A : Option Addr) (m c : Nat) (news : List Value) (hx : a.eval x = .slice A m c) (hr : Rd w size A m news) (h1 : ∀ u ∈ news, u.oneCell' = true)
    (h63 : n + m ≤ maxLen) (hbytes : (n + m) * bytes ≤ 140737488355328) (hbase : base ≤ w.heap.size)
    (h : ∀ v' w', w'.ownsRow base e size v' (n + m) (xs ++ news) → w.grownBy w' v.ownBlock → (v' = .slice none 0 0 → v = .slice none 0 0 ∧ m = 0) → K (a.put o.dst v') w') :
    if Region.wanted o (yielded ops a.tmps) = true then Oper.wp P o a w K Q else E := by
  have hw : Region.wanted o (yielded ops a.tmps) = true := by simp [Region.wanted, hgd]
  rw [if_pos hw]
  exact wp_append_rd w s x t ho base e i z size bytes ht hi hz hsize hby hzs hsz v n xs hs hown A m c news hx hr h1 h63 hbytes hbase h
end

theorem Rd.take {w : World} {size : Nat} {A : Option Addr} {n : Nat} {xs : List Value} (h : Rd w size A n xs) {k : Nat} (hk : k ≤ n) : Rd w size A k (xs.take (k * size)) := by
  refine ⟨?_, fun hk0 => ?_⟩
  · rw [List.length_take, h.1]
    exact Nat.min_eq_left (Nat.mul_le_mul_right _ hk)
  · obtain ⟨g, o, ha, hg, hc⟩ := h.2 (by omega)
    refine ⟨g, o, ha, hg, fun j u hu => ?_⟩
    rw [List.getElem?_take] at hu
    split at hu
    · exact hc j u hu
    · cases hu
/-- s[k:], whatever the walk has made of its address where the capacity ends. -/
theorem Rd.drop {w : World} {size : Nat} {g o : Nat} {n : Nat} {xs : List Value} (h : Rd w size (some ⟨g, o, none⟩) n xs) {k : Nat} (hk : k ≤ n) {A : Option Addr} (hA : k < n → A = some ⟨g, o + k * size, none⟩) : Rd w size A (n - k) (xs.drop (k * size)) := by
  refine ⟨by rw [List.length_drop, h.1, Nat.sub_mul], fun hk0 => ?_⟩
  obtain ⟨g', o', ha, hg, hc⟩ := h.2 (by omega)
  cases ha
  refine ⟨g, o + k * size, hA (by omega), hg, fun j u hu => ?_⟩
  rw [List.getElem?_drop] at hu
  have := hc _ u hu
  rwa [← Nat.add_assoc] at this
theorem Rd.keep {w w' : World} {size n : Nat} {A : Option Addr} {xs : List Value} (h : Rd w size A n xs) (hsz : w.heap.size ≤ w'.heap.size) (hk : ∀ a, A = some a → w'.heap[a.block]? = w.heap[a.block]?) : Rd w' size A n xs :=
  ⟨h.1, fun hn => by
    obtain ⟨g, o, e, hg, hc⟩ := h.2 hn
    exact ⟨g, o, e, Nat.lt_of_lt_of_le hg hsz, fun j u hu => (World.cell?_of_block (a := ⟨g, o + j, none⟩) (hk ⟨g, o, none⟩ e)).trans (hc j u hu)⟩⟩
theorem own_pos {w : World} {base : Nat} {e : TypeId} {size n : Nat} {v : Value} {xs : List Value} (h : w.ownsRow base e size v n xs) (hn : 0 < n) : ∃ g c, v = .slice (some ⟨g, 0, none⟩) n c := by
  rcases h.2 with ⟨_, h0⟩ | ⟨g, cap, cur, rfl, _⟩
  · omega
  · exact ⟨g, cap, rfl⟩
end Go.Proofs.Ytnmbblkfaoihfaa
