/- Makers and takers that are kept where others are turned. -/
import Derived.Test.YtjgdcdojigcefaaCMaker2
import Derived.Test.YtjgdcdojigcefaaCTaker
namespace Go.Proofs.Ytjgdcdojigcefaa
open Go.RowKit

theorem Bs.of_block {w : World} {k : Nat} {cs : Array Value} {T : TypeId} {f : Nat × Nat} {bs : List Nat} (h : w.heap[k]? = some (.cells cs T f)) (hc : cs.toList = bs.map u8v) (hm : bs.length ≤ maxLen) {n : Nat} (hn : n = bs.length) : Bs w (.slice (some ⟨k, 0, none⟩) n n) bs := by
  subst hn
  exact ⟨_, _, rfl, Nat.le_refl _, hm, by simp, fun _ => ⟨_, _, rfl, lt_of_block h, fun j u hu => by
    rw [cell_at h, Nat.zero_add, ← Array.getElem?_toList, hc]; exact hu⟩⟩
theorem IsT.keepM {w w' : World} {T : TypeId} {p q : Nat} {D G : Option Nat} {s : List Nat × Bool} (h : IsT w T p D s) (f : Fr 0 [] (q :: G.toList) w w') (hpq : p ≠ q) (hD : D ≠ some q) (hG : ∀ g, G = some g → g ≠ p ∧ D ≠ some g) : IsT w' T p D s := by
  refine h.keep f ?_ ?_
  · intro hm
    rcases List.mem_cons.1 hm with e | e
    · exact hpq e
    · exact (hG p (by simpa using e)).1 rfl
  · intro d hd hm
    rcases List.mem_cons.1 hm with e | e
    · exact hD (by rw [hd, e])
    · exact (hG d (by simpa using e)).2 hd
theorem IsM.keepT {w w' : World} {p q : Nat} {G : Option Nat} {s : List Nat × Bool} (h : IsM w p G s) (f : Fr 0 [] [q] w w') (hpq : p ≠ q) (hG : G ≠ some q) : IsM w' p G s :=
  h.keep f (by simpa using hpq) (fun g hg => by simp; intro e; exact hG (by rw [hg, e]))
theorem Fr.belowM {w w' : World} {B p : Nat} {G : Option Nat} (f : Fr 0 [] (p :: G.toList) w w') (hp : B ≤ p) (hG : ∀ g, G = some g → B ≤ g) (hB : B ≤ w.heap.size) : Below B w w' :=
  ⟨f.os, f.tape, f.output, f.size, fun k hk => f.block k (by omega) (.inr ⟨by simp, fun hm => by
    rcases List.mem_cons.1 hm with e | e
    · omega
    · have := hG k (by simpa using e)
      omega⟩)⟩
theorem Fr.belowT {w w' : World} {B p : Nat} (f : Fr 0 [] [p] w w') (hp : B ≤ p) (hB : B ≤ w.heap.size) : Below B w w' :=
  ⟨f.os, f.tape, f.output, f.size, fun k hk => f.block k (by omega) (.inr ⟨by simp, fun hm => by simp at hm; omega⟩)⟩
/-- A maker's block is not older than B, and is no block of a taker's. -/
def Free (B : Nat) (q : Nat) (D G : Option Nat) : Prop := ∀ g, G = some g → B ≤ g ∧ g ≠ q ∧ D ≠ some g
theorem Free.none {B q : Nat} {D : Option Nat} : Free B q D none := by intro g hg; cases hg
theorem Free.next {B q n : Nat} {D G G' : Option Nat} (h : Free B q D G) (hg : G' = G ∨ ∃ g, G' = some g ∧ n ≤ g) (hB : B ≤ n) (hq : q < n) (hD : ∀ d, D = some d → d < n) : Free B q D G' := by
  intro g he
  rcases hg with e | ⟨g', e, hn⟩
  · exact h g (e ▸ he)
  · rw [he] at e
    injection e with e
    subst e
    exact ⟨by omega, by omega, fun hd => by have := hD _ hd; omega⟩
/-- What comes back is in the maker's own block, or in a new one. -/
theorem fresh_ne {G G' : Option Nat} {n q : Nat} (h : G' = G ∨ ∃ g, G' = some g ∧ n ≤ g) (hq : q < n) (hG : G ≠ some q) : G' ≠ some q := by
  rcases h with h | ⟨g, h, hg⟩
  · rw [h]; exact hG
  · rw [h]; intro e; injection e with e; omega
end Go.Proofs.Ytjgdcdojigcefaa
