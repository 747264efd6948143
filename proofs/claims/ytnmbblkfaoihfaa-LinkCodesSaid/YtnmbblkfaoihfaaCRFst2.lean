/- The contract of the reference's First, whole: the number with whose cell any bytes begin. -/
import Derived.Test.YtnmbblkfaoihfaaCRFst
import Derived.Test.YtnmbblkfaoihfaaCRFstN
namespace Go.Proofs.Ytnmbblkfaoihfaa
open Go.RowKit

theorem firstN_odd (h : Nat) (t : List Nat) (hh : h = 128 ∨ (137 ≤ h ∧ h < 144) ∨ (153 ≤ h ∧ h < 256)) : firstN (h :: t) = none := by
  rcases hh with rfl | ⟨h1, h2⟩ | ⟨h1, h2⟩
  · rw [firstN, if_neg (by omega), show sizeH 128 = 0 from rfl, if_neg (by omega), if_neg]
    intro h
    have := h.2
    simp [numH, val, numB] at this
  · rw [firstN, if_neg (by omega), if_pos (.inl (by unfold sizeH; rw [if_neg (by omega)]; omega))]
  · rw [firstN, if_neg (by omega), if_pos (.inl (by unfold sizeH; rw [if_pos (by omega)]; omega))]

/-- The contract of the reference's First. -/
theorem rfirst_any (A : Option Addr) (c : Nat) (bs : List Nat) (w : World) (hr : Rd w 1 A bs.length (bs.map u8v)) (hb : ∀ b ∈ bs, b < 256) (hnc : bs.length ≤ c) (hcm : c ≤ maxLen) :
    Calls Try.prog 67 #[.slice A bs.length c] w fun e w' => e = .returned (rfstV bs) ∧ Below w.heap.size w w' := by
  have hcm' : c ≤ 9223372036854775807 := by unfold maxLen at hcm; omega
  cases bs with
  | nil => exact rfirst_nil A c w
  | cons h t =>
    obtain ⟨g, o, rfl, _, hcc⟩ := hr.2 (by simp)
    have hc : w.cell? ⟨g, o, none⟩ = some (.int .u8 h) := hcc 0 (u8v h) (by simp)
    have hh : h < 256 := hb h (by simp)
    have hlen : (h :: t).length = 1 + t.length := by simp; omega
    by_cases c0 : h < 128
    · exact rfirst_small g o c w h t _ (by simp) hc c0
    · by_cases co : h = 128 ∨ (137 ≤ h ∧ h < 144) ∨ (153 ≤ h ∧ h < 256)
      · exact rfirst_odd g o c w h t _ (by simp) hc co (firstN_odd h t co)
      · by_cases c1 : h < 144
        · obtain ⟨z, rfl⟩ : ∃ z, h = 128 + z := ⟨h - 128, by omega⟩
          by_cases c2 : t.length < z
          · exact rfirst_shortP g o c w z t _ hlen (by omega) hc (by omega) (by omega) c2
          · exact rfirst_goodP g o c w z t _ hlen hnc hcm' hr hb (by omega) (by omega) (by omega)
        · obtain ⟨z, rfl⟩ : ∃ z, h = 144 + z := ⟨h - 144, by omega⟩
          by_cases c2 : t.length < z
          · exact rfirst_shortN g o c w z t _ hlen (by omega) hc (by omega) c2
          · exact rfirst_goodN g o c w z t _ hlen hnc hcm' hr hb (by omega) (by omega)

end Go.Proofs.Ytnmbblkfaoihfaa
