/- Memory words for the walks of this seat: a frame that names what may have turned, slices that read as a list. No program is named here. -/
import Derived.WalkKit
import Derived.WalkSpells
import Derived.WalkLawsBesides
import Derived.Deep.Draws
import Derived.Lib.Hide
namespace Go.Proofs.Ytochhjdjfgiaeaa
open Go.RowKit

/-- From w to w': below B nothing has turned; from B on only blocks of an element type in T, or of a number in S, may have turned; the streams are as they were. -/
structure Fr (B : Nat) (T : List TypeId) (S : List Nat) (w w' : World) : Prop where
  os : w'.os = w.os
  tape : w'.tape = w.tape
  output : w'.output = w.output
  size : w.heap.size ≤ w'.heap.size
  block : ∀ k, k < w.heap.size → (k < B ∨ ((∀ cs t f, w.heap[k]? = some (.cells cs t f) → t ∉ T) ∧ k ∉ S)) → w'.heap[k]? = w.heap[k]?

section
variable {B B' : Nat} {T T' : List TypeId} {S S' : List Nat} {a b c w w' : World}
theorem Fr.refl (w : World) : Fr B T S w w := ⟨rfl, rfl, rfl, Nat.le_refl _, fun _ _ _ => rfl⟩
theorem Fr.trans (h : Fr B T S a b) (k : Fr B T S b c) : Fr B T S a c :=
  ⟨k.os.trans h.os, k.tape.trans h.tape, k.output.trans h.output, Nat.le_trans h.size k.size, fun i hi hc => by
    have e := h.block i hi hc
    rw [← e]
    refine k.block i (Nat.lt_of_lt_of_le hi h.size) ?_
    rcases hc with hc | ⟨h1, h2⟩
    · exact .inl hc
    · exact .inr ⟨fun cs t f he => h1 cs t f (by rw [← e]; exact he), h2⟩⟩
theorem Fr.mono (h : Fr B T S a b) (hB : B' ≤ B) (hT : ∀ t ∈ T, t ∈ T') (hS : ∀ k ∈ S, k ∈ S') : Fr B' T' S' a b :=
  ⟨h.os, h.tape, h.output, h.size, fun i hi hc => h.block i hi (by
    rcases hc with hc | ⟨h1, h2⟩
    · exact .inl (by omega)
    · exact .inr ⟨fun cs t f he ht => h1 cs t f he (hT t ht), fun hs => h2 (hS i hs)⟩)⟩
theorem Fr.base (h : Fr B T S a b) (hB : B' ≤ B) : Fr B' T S a b := h.mono hB (fun _ h => h) (fun _ h => h)
/-- Nothing that was there has turned: that serves every frame. -/
theorem Fr.of_below (h : Below a.heap.size a b) : Fr B T S a b := ⟨h.os, h.tape, h.output, h.size, fun i hi _ => h.block i hi⟩
theorem Fr.below (h : Fr B T S a b) (hB : B ≤ a.heap.size) : Below B a b := ⟨h.os, h.tape, h.output, h.size, fun k hk => h.block k (by omega) (.inl hk)⟩
theorem Fr.below' (h : Fr B [] [] a b) : Below a.heap.size a b := ⟨h.os, h.tape, h.output, h.size, fun k hk => h.block k hk (.inr ⟨fun _ _ _ _ => by simp, by simp⟩)⟩
theorem Fr.drew (h : Fr B T S a w) : Fr B T S a w.drew := ⟨h.os, h.tape, h.output, h.size, h.block⟩
theorem Fr.drewN (h : Fr B T S a w) (n : Nat) : Fr B T S a (w.drewN n) := ⟨h.os, h.tape, h.output, h.size, h.block⟩
theorem Fr.alloc (h : Fr B T S a w) (o : Obj) : Fr B T S a (w.alloc o) :=
  h.trans (Fr.of_below ((Below.refl _ w).alloc (Nat.le_refl _) o))
/-- A store into a block that is not older than B and whose type is in T, or that is in S. -/
theorem Fr.setCell (h : Fr B T S a w) {p : Addr} (u : Value) (hB : B ≤ p.block) (ht : p.block ∈ S ∨ ∃ cs t f, w.heap[p.block]? = some (.cells cs t f) ∧ t ∈ T) : Fr B T S a (w.setCell p u) := by
  refine h.trans ⟨rfl, rfl, rfl, by simp [World.setCell], fun k hk hc => ?_⟩
  refine Below.heap_setCell w p u k ?_
  rintro rfl
  rcases hc with hc | ⟨h1, h2⟩
  · omega
  · rcases ht with ht | ⟨cs, t, f, he, ht⟩
    · exact h2 ht
    · exact h1 cs t f he ht
/-- A store into a block that has come since. -/
theorem Fr.setNew (h : Fr B T S a w) {p : Addr} (u : Value) (hB : a.heap.size ≤ p.block) : Fr B T S a (w.setCell p u) :=
  ⟨h.os, h.tape, h.output, by simpa [World.setCell] using h.size, fun k hk hc => (Below.heap_setCell w p u k (by omega)).trans (h.block k hk hc)⟩
theorem Fr.grown (h : Fr B T S a w) {row : Option Nat} (hg : w.grownBy w' row) (hr : ∀ k, row = some k → B ≤ k ∧ (k ∈ S ∨ ∃ cs t f, w.heap[k]? = some (.cells cs t f) ∧ t ∈ T)) : Fr B T S a w' := by
  refine h.trans ⟨hg.os, hg.tape, hg.output, hg.size, fun k hk hc => hg.block k hk ?_⟩
  intro e
  obtain ⟨hB, ht⟩ := hr k e.symm
  rcases hc with hc | ⟨h1, h2⟩
  · omega
  · rcases ht with ht | ⟨cs, t, f, he, ht⟩
    · exact h2 ht
    · exact h1 cs t f he ht
/-- Behind a contract that leaves all that was there as it was. -/
theorem Fr.then (h : Fr B T S a w) (hb : Below w.heap.size w w') : Fr B T S a w' := h.trans (Fr.of_below hb)
/-- A block that may not have turned holds what it held. -/
theorem Fr.keep (h : Fr B T S w w') {k : Nat} {cs : Array Value} {t : TypeId} {f : Nat × Nat} (hk : w.heap[k]? = some (.cells cs t f)) (ht : t ∉ T) (hs : k ∉ S) : w'.heap[k]? = some (.cells cs t f) :=
  (h.block k (Array.getElem?_eq_some_iff.1 hk).1 (.inr ⟨fun cs' t' f' he => by rw [hk] at he; injection he with he; injection he with _ h2 _; subst h2; exact ht, hs⟩)).trans hk
theorem Fr.keepLow (h : Fr B T S w w') {k : Nat} {o : Obj} (hk : w.heap[k]? = some o) (hB : k < B) : w'.heap[k]? = some o :=
  (h.block k (Array.getElem?_eq_some_iff.1 hk).1 (.inl hB)).trans hk
theorem Fr.own (h : Fr B T S w w') {base : Nat} {e : TypeId} {size n : Nat} {v : Value} {xs : List Value} (ho : w.ownsRow base e size v n xs) (ht : e ∉ T) (hs : ∀ k, v.ownBlock = some k → k ∉ S) : w'.ownsRow base e size v n xs := by
  refine ⟨ho.1, ?_⟩
  rcases ho.2 with hn | ⟨g, cap, cur, rfl, hb, hg, rest⟩
  · exact .inl hn
  · exact .inr ⟨g, cap, cur, rfl, hb, h.keep hg ht (hs g rfl), rest⟩
end

theorem ret_int {k : IntKind} {a b : Int} (h : a = b) : Ending.returned (.int k a) = .returned (.int k b) := by rw [h]
theorem ret_bool {a b : Bool} (h : a = b) : Ending.returned (.bool a) = .returned (.bool b) := by rw [h]

/-- The cells of a block. -/
theorem cell_at {w : World} {k : Nat} {cs : Array Value} {t : TypeId} {f : Nat × Nat} (h : w.heap[k]? = some (.cells cs t f)) (i : Nat) : w.cell? ⟨k, i, none⟩ = cs[i]? := cell_of_row w k i cs t f h
theorem frozen_at {w : World} {k : Nat} {cs : Array Value} {t : TypeId} (h : w.heap[k]? = some (.cells cs t (0, 0))) (i : Nat) : w.frozen? ⟨k, i, none⟩ = false := by simp [World.frozen?, h]
theorem lt_of_block {w : World} {k : Nat} {o : Obj} (h : w.heap[k]? = some o) : k < w.heap.size := (Array.getElem?_eq_some_iff.1 h).1
theorem block_set {w : World} {k : Nat} {cs : Array Value} {t : TypeId} {f : Nat × Nat} (h : w.heap[k]? = some (.cells cs t f)) (i : Nat) (u : Value) :
    (w.setCell ⟨k, i, none⟩ u).heap[k]? = some (.cells (cs.setIfInBounds i u) t f) := by
  simp [World.setCell, Array.getElem?_modify, h]
theorem block_far {w : World} {k : Nat} {o : Obj} (h : w.heap[k]? = some o) {p : Addr} (hp : k ≠ p.block) (u : Value) : (w.setCell p u).heap[k]? = some o := (Below.heap_setCell w p u k hp).trans h
theorem block_alloc {w : World} {k : Nat} {o : Obj} (h : w.heap[k]? = some o) (o' : Obj) : (w.alloc o').heap[k]? = some o := (Below.heap_alloc w o' k (lt_of_block h)).trans h
theorem block_new (w : World) (o : Obj) : (w.alloc o).heap[w.heap.size]? = some o := heap_alloc_new w o
theorem block_ne {w : World} {k k' : Nat} {cs cs' : Array Value} {t t' : TypeId} {f f' : Nat × Nat} (h : w.heap[k]? = some (.cells cs t f)) (h' : w.heap[k']? = some (.cells cs' t' f')) (ht : t ≠ t') : k ≠ k' := by
  rintro rfl
  rw [h] at h'
  injection h' with h'
  injection h' with _ h2 _
  exact ht h2
theorem own_block {w : World} {base : Nat} {e : TypeId} {size n : Nat} {v : Value} {xs : List Value} (h : w.ownsRow base e size v n xs) {k : Nat} (hk : v.ownBlock = some k) : base ≤ k ∧ ∃ cs, w.heap[k]? = some (.cells cs e (0, 0)) := by
  rcases h.2 with ⟨rfl, _⟩ | ⟨g, cap, cur, rfl, hb, hg, _⟩
  · simp [Value.ownBlock] at hk
  · simp [Value.ownBlock] at hk
    subst hk
    exact ⟨hb, cur, hg⟩
theorem own_ne {w : World} {base : Nat} {e : TypeId} {size n : Nat} {v : Value} {xs : List Value} (h : w.ownsRow base e size v n xs) {k : Nat} {cs : Array Value} {t : TypeId} {f : Nat × Nat} (hk : w.heap[k]? = some (.cells cs t f)) (ht : e ≠ t) : v.ownBlock ≠ some k := by
  intro hv
  obtain ⟨_, cs', hg⟩ := own_block h hv
  exact block_ne hg hk ht rfl

theorem own_set {w : World} {base : Nat} {e : TypeId} {size n c g : Nat} {xs : List Value} (h : w.ownsRow base e size (.slice (some ⟨g, 0, none⟩) n c) n xs) {i : Nat} (_hi : i < n * size) (u : Value) :
    (w.setCell ⟨g, i, none⟩ u).ownsRow base e size (.slice (some ⟨g, 0, none⟩) n c) n (xs.set i u) := by
  obtain ⟨hl, h | ⟨g', cap, cur, hv, hb, hg, hnc, hcm, hcs, htake⟩⟩ := h
  · cases h.1
  · cases hv
    refine ⟨by simpa using hl, .inr ⟨g, c, _, rfl, hb, block_set hg i u, hnc, hcm, by simpa using hcs, ?_⟩⟩
    rw [Array.toList_setIfInBounds, List.take_set, htake]
theorem own_succ {w : World} {base : Nat} {e : TypeId} {size n : Nat} {v : Value} {xs : List Value} (h : w.ownsRow base e size v (n + 1) xs) : ∃ g c, v = .slice (some ⟨g, 0, none⟩) (n + 1) c := by
  rcases h.2 with ⟨_, h0⟩ | ⟨g, cap, cur, rfl, _⟩
  · omega
  · exact ⟨g, cap, rfl⟩

/-- A slice value of n elements of 'size' cells each whose cells read as xs; the empty one may be nil. -/
def Rd (w : World) (size : Nat) (A : Option Addr) (n : Nat) (xs : List Value) : Prop :=
  xs.length = n * size ∧ (0 < n → ∃ g o, A = some ⟨g, o, none⟩ ∧ g < w.heap.size ∧ ∀ j u, xs[j]? = some u → w.cell? ⟨g, o + j, none⟩ = some u)
theorem Rd.nil {w : World} {size : Nat} {A : Option Addr} : Rd w size A 0 [] := ⟨by simp, fun h => absurd h (by omega)⟩
theorem Rd.below {w w' : World} {size n : Nat} {A : Option Addr} {xs : List Value} (h : Rd w size A n xs) (hb : Below w.heap.size w w') : Rd w' size A n xs :=
  ⟨h.1, fun hn => by
    obtain ⟨g, o, e, hg, hc⟩ := h.2 hn
    exact ⟨g, o, e, Nat.lt_of_lt_of_le hg hb.size, fun j u hu => (hb.cell (p := ⟨g, o + j, none⟩) hg).trans (hc j u hu)⟩⟩
theorem own_slice {w : World} {base : Nat} {e : TypeId} {size n : Nat} {v : Value} {xs : List Value} (h : w.ownsRow base e size v n xs) :
    ∃ A c, v = .slice A n c ∧ n ≤ c ∧ c ≤ maxLen ∧ Rd w size A n xs ∧ (∀ a, A = some a → v.ownBlock = some a.block ∧ a.off = 0 ∧ a.spot = none) := by
  rcases h.2 with ⟨rfl, rfl⟩ | ⟨g, cap, cur, rfl, hb, hg, hnc, hcm, hcs, htake⟩
  · refine ⟨none, 0, rfl, Nat.le_refl _, Nat.zero_le _, ⟨by simpa using h.1, fun hn => absurd hn (by omega)⟩, fun a ha => by cases ha⟩
  · refine ⟨some ⟨g, 0, none⟩, cap, rfl, hnc, hcm, ⟨h.1, fun _ => ⟨g, 0, rfl, lt_of_block hg, fun j u hu => ?_⟩⟩, fun a ha => by cases ha; exact ⟨rfl, rfl, rfl⟩⟩
    rw [cell_at hg, Nat.zero_add]
    rw [← htake, List.getElem?_take] at hu
    split at hu
    · simpa using hu
    · cases hu

end Go.Proofs.Ytochhjdjfgiaeaa
