/- Makers and takers of a law's own, seen from the world in which the law began. -/
import Derived.Test.YtjgdcdojigcefaaCKeep
import Derived.Test.YtjgdcdojigcefaaFlow
namespace Go.Proofs.Ytjgdcdojigcefaa
open Go.RowKit

/-- A maker that has come since w; all that was there at w is as it was. -/
def Mk (w : World) (p : Nat) (s : List Nat × Bool) (W : World) : Prop := ∃ G, IsM W p G s ∧ w.heap.size ≤ p ∧ (∀ g, G = some g → w.heap.size ≤ g) ∧ Below w.heap.size w W
theorem Mk.below {w W : World} {p : Nat} {s : List Nat × Bool} (h : Mk w p s W) : Below w.heap.size w W := by obtain ⟨G, _, _, _, h⟩ := h; exact h
theorem Mk.keep {w W W' : World} {p : Nat} {s : List Nat × Bool} (h : Mk w p s W) (hb : Below W.heap.size W W') : Mk w p s W' := by
  obtain ⟨G, h1, h2, h3, h4⟩ := h
  exact ⟨G, h1.below hb, h2, h3, h4.trans (hb.mono h4.size)⟩
theorem mk_new {w W : World} (hb : Below w.heap.size w W) : Calls Try.prog 25 #[] W fun e W' => e = .returned (.pointer (some ⟨W.heap.size, 0, none⟩)) ∧ Mk w W.heap.size ([], false) W' :=
  (new_any W).mono fun e W' ⟨he, hM, hb'⟩ => ⟨he, none, hM, hb.size, by simp, hb.trans (hb'.mono hb.size)⟩
theorem Mk.ret {w W : World} {p : Nat} {s s' : List Nat × Bool} {f : FuncId} {args : Array Value} (h : Mk w p s W) (hc : ∀ G, IsM W p G s → Calls Try.prog f args W (RetM p G s' W)) :
    Calls Try.prog f args W fun e W' => e = .returned (.pointer (some ⟨p, 0, none⟩)) ∧ Mk w p s' W' := by
  obtain ⟨G, h1, h2, h3, h4⟩ := h
  refine (hc G h1).mono fun e W' ⟨G', he, hM, hf, hg⟩ => ⟨he, G', hM, h2, fun g hg' => ?_, h4.trans (hf.belowM h2 h3 h4.size)⟩
  rcases hg with e | ⟨g', e, hn⟩
  · exact h3 g (e ▸ hg')
  · rw [hg'] at e
    injection e with e
    have := h4.size
    omega
theorem mk_num {w W : World} {p : Nat} {s : List Nat × Bool} (h : Mk w p s W) (n : Int) (hn : I64 n) : Calls Try.prog 26 #[.pointer (some ⟨p, 0, none⟩), .int .i64 n] W fun e W' => e = .returned (.pointer (some ⟨p, 0, none⟩)) ∧ Mk w p (putS s (numB n)) W' :=
  h.ret fun G hM => mnum_any p G s n W hM hn
/-- What Done hands back, seen from w. -/
def RetDone (w : World) (p : Nat) (s : List Nat × Bool) (e : Ending) (W' : World) : Prop :=
  ∃ v, e = .returned (.tuple #[v, .int .i64 (if s.2 then 3 else 0)]) ∧ Bs W' v (if s.2 then [] else s.1) ∧ (∀ g, v.ownBlock = some g → w.heap.size ≤ g) ∧ (∀ A n c, v = .slice A n c → SlA A c) ∧ Mk w p s W'
theorem mk_done {w W : World} {p : Nat} {s : List Nat × Bool} (h : Mk w p s W) (hl : s.1.length ≤ 262144) : Calls Try.prog 28 #[.pointer (some ⟨p, 0, none⟩)] W (RetDone w p s) := by
  have hk := h
  obtain ⟨G, h1, h2, h3, h4⟩ := h
  refine (mdone_any p G s W h1 hl).mono fun _ _ ⟨v, he, ho, hb⟩ => ⟨v, he, ?_, fun g hg => Nat.le_trans h4.size (own_block ho hg).1, fun A n c hv => by subst hv; exact SlA.of_own ho, hk.keep hb⟩
  obtain ⟨bs, lg⟩ := s
  cases lg with
  | true => exact Bs.own_n (bs := []) ho
  | false => exact Bs.own_n ho
theorem putS_len {s : List Nat × Bool} (h : s.1.length ≤ 262144) (c : List Nat) : (putS s c).1.length ≤ 262144 := by
  unfold putS
  split
  · exact h
  · rename_i h'
    simp only [List.length_append]
    omega

/-- A taker that has come since w. -/
def Tk (w : World) (p : Nat) (s : List Nat × Bool) (W : World) : Prop := ∃ D, IsT W 85 p D s ∧ D ≠ some p ∧ w.heap.size ≤ p ∧ Below w.heap.size w W
theorem Tk.below {w W : World} {p : Nat} {s : List Nat × Bool} (h : Tk w p s W) : Below w.heap.size w W := by obtain ⟨D, _, _, _, h⟩ := h; exact h
theorem Tk.lt {w W : World} {p : Nat} {s : List Nat × Bool} (h : Tk w p s W) : ∀ b ∈ s.1, b < 256 := by
  obtain ⟨D, ⟨A, c, _, _, _, _, _, h, _⟩, _⟩ := h
  exact h
theorem Tk.keep {w W W' : World} {p : Nat} {s : List Nat × Bool} (h : Tk w p s W) (hb : Below W.heap.size W W') : Tk w p s W' := by
  obtain ⟨G, h1, h2, h3, h4⟩ := h
  exact ⟨G, h1.below hb, h2, h3, h4.trans (hb.mono h4.size)⟩
def RetTake (w : World) (bs : List Nat) (e : Ending) (W' : World) : Prop := ∃ p, e = .returned (.pointer (some ⟨p, 0, none⟩)) ∧ Tk w p (bs, false) W'
theorem tk_take {w W : World} (hb : Below w.heap.size w W) (v : Value) (bs : List Nat) (hv : Bs W v bs) (hl : ∀ b ∈ bs, b < 256) (ht : bs.length ≤ 140737488355328) : Calls Try.prog 41 #[v] W (RetTake w bs) :=
  (take_any v bs W hv hl ht).mono fun _ _ ⟨p, D, he, hp, hT, hD, _, hb'⟩ => ⟨p, he, D, hT, hD, Nat.le_trans hb.size hp, hb.trans (hb'.mono hb.size)⟩
theorem Tk.ret {w W : World} {p : Nat} {s s' : List Nat × Bool} {f : FuncId} {args : Array Value} {val : Value} (h : Tk w p s W) (hc : ∀ D, IsT W 85 p D s → D ≠ some p → Calls Try.prog f args W (RetT 85 p D val s' W)) :
    Calls Try.prog f args W fun e W' => e = .returned val ∧ Tk w p s' W' := by
  obtain ⟨D, h1, h2, h3, h4⟩ := h
  exact (hc D h1 h2).mono fun e W' ⟨he, hT, hf⟩ => ⟨he, D, hT, h2, h3, h4.trans (hf.belowT h3 h4.size)⟩
theorem tk_num {w W : World} {p : Nat} {s : List Nat × Bool} (h : Tk w p s W) (a b : Int) : Calls Try.prog 43 #[.pointer (some ⟨p, 0, none⟩), .int .i64 a, .int .i64 b] W fun e W' => e = .returned (.int .i64 (numT s a b).1) ∧ Tk w p (numT s a b).2 W' :=
  h.ret fun D hT hD => tnum_any p D s a b W hT hD
theorem tk_done {w W : World} {p : Nat} {s : List Nat × Bool} (h : Tk w p s W) : Calls Try.prog 45 #[.pointer (some ⟨p, 0, none⟩)] W fun e W' => e = .returned (.int .i64 (doneT s)) ∧ W = W' := by
  obtain ⟨D, h1, _⟩ := h
  exact tdone_any p D s W h1
theorem strOf_natsOf (s : ByteArray) : strOf (natsOf s) = s := by
  unfold strOf natsOf
  rw [List.map_map]
  have : (UInt8.ofNat ∘ UInt8.toNat) = id := by funext x; simp
  rw [this, List.map_id]
end Go.Proofs.Ytjgdcdojigcefaa
