/- Bytes as strings: what 'string(b)' gives, and when two are the same. -/
import Derived.Test.YtjgdcdojigcefaaCNum
import Derived.Laws.IdiomStrings
namespace Go.Proofs.Ytjgdcdojigcefaa
open Go.RowKit

/-- The text of bytes. -/
def strOf (bs : List Nat) : ByteArray := ⟨(bs.map UInt8.ofNat).toArray⟩
theorem strOf_toList (bs : List Nat) : (strOf bs).toList = bs.map UInt8.ofNat := by
  rw [ByteArray.toList_eq]
  simp [strOf]
theorem u8_inj {a b : Nat} (ha : a < 256) (hb : b < 256) (h : UInt8.ofNat a = UInt8.ofNat b) : a = b := by
  have := congrArg UInt8.toNat h
  simp at this
  omega
theorem map_u8_inj : ∀ {a b : List Nat}, (∀ x ∈ a, x < 256) → (∀ x ∈ b, x < 256) → a.map UInt8.ofNat = b.map UInt8.ofNat → a = b
  | [], [], _, _, _ => rfl
  | [], _ :: _, _, _, h => by simp at h
  | _ :: _, [], _, _, h => by simp at h
  | x :: a, y :: b, ha, hb, h => by
    simp only [List.map_cons, List.cons.injEq] at h
    rw [u8_inj (ha x (by simp)) (hb y (by simp)) h.1, map_u8_inj (fun z hz => ha z (by simp [hz])) (fun z hz => hb z (by simp [hz])) h.2]
theorem strOf_beq {a b : List Nat} (ha : ∀ x ∈ a, x < 256) (hb : ∀ x ∈ b, x < 256) : ((strOf a).toList == (strOf b).toList) = decide (a = b) := by
  rw [strOf_toList, strOf_toList]
  by_cases h : a = b
  · subst h; simp
  · have : a.map UInt8.ofNat ≠ b.map UInt8.ofNat := fun e => h (map_u8_inj ha hb e)
    simp [h, this]

theorem run_str (w : World) (A : Option Addr) (n c : Nat) (bs : List Nat) (hr : Rd w 1 A n (bs.map u8v)) (hb : ∀ x ∈ bs, x < 256) :
    (convert 26 9 (.slice A n c)).run Try.prog w = .ok (.string (strOf bs)) w := by
  have hn : n = bs.length := by have := hr.1; simp at this; omega
  subst hn
  cases A with
  | none =>
    have h0 : bs = [] := by
      by_cases h : 0 < bs.length
      · obtain ⟨g, o, ha, _⟩ := hr.2 h
        cases ha
      · exact List.eq_nil_of_length_eq_zero (by omega)
    subst h0
    rw [run_convert_bytes_string w _ _ 5 none _ c Try.underlying26 Try.underlying5 Try.underlying9]
    rfl
  | some a =>
    have := run_convert_bytes_back (P := Try.prog) w 26 9 5 a c (bs.map UInt8.ofNat) Try.underlying26 Try.underlying5 Try.underlying9 (fun j hj => by
      have hj' : j < bs.length := by simpa using hj
      obtain ⟨g, o, ha, _, hc⟩ := hr.2 (by omega)
      cases ha
      have e : (⟨g, o, none⟩ : Addr).add j = ⟨g, o + j, none⟩ := by unfold Addr.add; split <;> simp_all
      rw [e, hc j (u8v bs[j]) (by simp [hj'])]
      have := hb bs[j] (List.getElem_mem hj')
      simp [u8v]
      omega)
    simpa [strOf] using this

end Go.Proofs.Ytjgdcdojigcefaa
