/- The address of a slice value. No program is named here. -/
import Derived.Test.YtochhjdjfgiaeaaMem
namespace Go.Proofs.Ytochhjdjfgiaeaa
open Go.RowKit

/-- The address of a slice value: nil, without room; or a cell of a block. -/
def SlA (A : Option Addr) (c : Nat) : Prop := c = 0 ∨ ∃ g o, A = some ⟨g, o, none⟩
theorem SlA.of_own {w : World} {base : Nat} {e : TypeId} {size n m c : Nat} {A : Option Addr} {xs : List Value} (h : w.ownsRow base e size (.slice A m c) n xs) : SlA A c := by
  rcases h.2 with ⟨h, _⟩ | ⟨g, cap, cur, h, _⟩
  · injection h with h1 h2 h3; exact .inl h3
  · injection h with h1 h2 h3; exact .inr ⟨g, 0, h1⟩
end Go.Proofs.Ytochhjdjfgiaeaa
