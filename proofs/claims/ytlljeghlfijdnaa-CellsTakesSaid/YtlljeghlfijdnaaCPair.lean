/- A taker and the reference's, side by side, beside the bytes that they were made of. -/
import Derived.Test.YtlljeghlfijdnaaCRT2
import Derived.Test.YtlljeghlfijdnaaCRM
namespace Go.Proofs.Ytlljeghlfijdnaa
open Go.RowKit

/-- The taker at p holds s, the reference's at q holds r; the bytes bs lie at A. -/
def Pair (w : World) (p q : Nat) (A : Option Addr) (bs : List Nat) (s r : List Nat × Bool) (W : World) : Prop :=
  ∃ D1 D2, IsT W 81 p D1 s ∧ IsT W 57 q D2 r ∧ p ≠ q ∧ w.heap.size ≤ p ∧ w.heap.size ≤ q ∧ D1 ≠ some p ∧ D1 ≠ some q ∧ D2 ≠ some p ∧ D2 ≠ some q ∧ Rd W 1 A bs.length (bs.map u8v) ∧ (0 < bs.length → ∀ a, A = some a → a.block ≠ p ∧ a.block ≠ q) ∧ Below w.heap.size w W
theorem Pair.below {w W : World} {p q : Nat} {A : Option Addr} {bs : List Nat} {s r : List Nat × Bool} (h : Pair w p q A bs s r W) : Below w.heap.size w W := by
  obtain ⟨D1, D2, _, _, _, _, _, _, _, _, _, _, _, h⟩ := h; exact h
theorem Pair.lt {w W : World} {p q : Nat} {A : Option Addr} {bs : List Nat} {s r : List Nat × Bool} (h : Pair w p q A bs s r W) : ∀ b ∈ s.1, b < 256 := by
  obtain ⟨D1, D2, ⟨A, c, _, _, _, _, _, h, _⟩, _⟩ := h; exact h
theorem Pair.keep {w W W' : World} {p q : Nat} {A : Option Addr} {bs : List Nat} {s r : List Nat × Bool} (h : Pair w p q A bs s r W) (hb : Below W.heap.size W W') : Pair w p q A bs s r W' := by
  obtain ⟨D1, D2, h1, h2, h3, h4, h5, h6, h7, h8, h9, h10, h11, h12⟩ := h
  exact ⟨D1, D2, h1.below hb, h2.below hb, h3, h4, h5, h6, h7, h8, h9, h10.below hb, h11, h12.trans (hb.mono h12.size)⟩
/-- Blocks of the law's own calls stand. -/
def Stand (W W' : World) : Prop := ∀ (k : Nat) (cs : Array Value) (f : Nat × Nat), W.heap[k]? = some (.cells cs 40 f) → W'.heap[k]? = some (.cells cs 40 f)
theorem Pair.t {w W : World} {p q : Nat} {A : Option Addr} {bs : List Nat} {s s' r : List Nat × Bool} {f : FuncId} {args : Array Value} {val : Value} (h : Pair w p q A bs s r W) (hc : ∀ D, IsT W 81 p D s → D ≠ some p → Calls Try.prog f args W (RetT 81 p D val s' W)) :
    Calls Try.prog f args W fun e W' => e = .returned val ∧ Pair w p q A bs s' r W' ∧ Stand W W' := by
  obtain ⟨D1, D2, h1, h2, h3, h4, h5, h6, h7, h8, h9, h10, h11, h12⟩ := h
  refine (hc D1 h1 h6).mono fun e W' ⟨he, hT, hf⟩ => ⟨he, ⟨D1, D2, hT, h2.keep hf (by simp; exact Ne.symm h3) (fun d hd => by simp; rintro rfl; exact h8 hd), h3, h4, h5, h6, h7, h8, h9, h10.frame hf (fun hn a ha => by simp; exact (h11 hn a ha).1), h11, h12.trans (hf.belowT h4 h12.size)⟩, fun k cs f hk => hf.keep0 hk fun hm => ?_⟩
  obtain ⟨A, c, k1, _⟩ := h1
  have e : k = p := by simpa using hm
  subst e
  exact block_ne hk k1 (by decide) rfl
theorem Pair.x {w W : World} {p q : Nat} {A : Option Addr} {bs : List Nat} {s r r' : List Nat × Bool} {f : FuncId} {args : Array Value} {val : Value} (h : Pair w p q A bs s r W) (hc : ∀ D, IsT W 57 q D r → D ≠ some q → Calls Try.prog f args W (RetT 57 q D val r' W)) :
    Calls Try.prog f args W fun e W' => e = .returned val ∧ Pair w p q A bs s r' W' ∧ Stand W W' := by
  obtain ⟨D1, D2, h1, h2, h3, h4, h5, h6, h7, h8, h9, h10, h11, h12⟩ := h
  refine (hc D2 h2 h9).mono fun e W' ⟨he, hT, hf⟩ => ⟨he, ⟨D1, D2, h1.keep hf (by simp; exact h3) (fun d hd => by simp; rintro rfl; exact h7 hd), hT, h3, h4, h5, h6, h7, h8, h9, h10.frame hf (fun hn a ha => by simp; exact (h11 hn a ha).2), h11, h12.trans (hf.belowT h5 h12.size)⟩, fun k cs f hk => hf.keep0 hk fun hm => ?_⟩
  obtain ⟨A, c, k1, _⟩ := h2
  have e : k = q := by simpa using hm
  subst e
  exact block_ne hk k1 (by decide) rfl
theorem Pair.left {w W : World} {p q : Nat} {A : Option Addr} {bs : List Nat} {s r : List Nat × Bool} (h : Pair w p q A bs s r W) : Calls Try.prog 34 #[.pointer (some ⟨p, 0, none⟩)] W fun e W' => e = .returned (.int .i64 (leftT s)) ∧ W = W' := by
  obtain ⟨D1, D2, h1, _⟩ := h
  exact tleft_any p D1 s W h1
theorem Pair.xleft {w W : World} {p q : Nat} {A : Option Addr} {bs : List Nat} {s r : List Nat × Bool} (h : Pair w p q A bs s r W) : Calls Try.prog 35 #[.pointer (some ⟨q, 0, none⟩)] W fun e W' => e = .returned (.int .i64 (leftT r)) ∧ W = W' := by
  obtain ⟨D1, D2, _, h2, _⟩ := h
  exact rtleft_any q D2 r W h2
theorem Pair.done {w W : World} {p q : Nat} {A : Option Addr} {bs : List Nat} {s r : List Nat × Bool} (h : Pair w p q A bs s r W) : Calls Try.prog 30 #[.pointer (some ⟨p, 0, none⟩)] W fun e W' => e = .returned (.int .i64 (doneT s)) ∧ W = W' := by
  obtain ⟨D1, D2, h1, _⟩ := h
  exact tdone_any p D1 s W h1
theorem Pair.cells {w W : World} {p q : Nat} {A : Option Addr} {bs : List Nat} {s r : List Nat × Bool} (h : Pair w p q A bs s r W) : ∃ Ax cx, W.heap[q]? = some (.cells #[.slice Ax r.1.length cx, .bool r.2] 57 (0, 0)) ∧ cx ≤ maxLen ∧ r.1.length ≤ cx := by
  obtain ⟨D1, D2, _, ⟨Ax, cx, k1, k2, k3, _⟩, _⟩ := h
  exact ⟨Ax, cx, k1, k3, k2⟩
theorem Pair.rd {w W : World} {p q : Nat} {A : Option Addr} {bs : List Nat} {s r : List Nat × Bool} (h : Pair w p q A bs s r W) : Rd W 1 A bs.length (bs.map u8v) := by
  obtain ⟨D1, D2, _, _, _, _, _, _, _, _, _, h, _⟩ := h; exact h
end Go.Proofs.Ytlljeghlfijdnaa
