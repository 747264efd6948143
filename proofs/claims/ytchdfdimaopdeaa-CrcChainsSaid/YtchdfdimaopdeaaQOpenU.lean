/- Openers of unsigned numbers. -/
import Derived.Test.YtchdfdimaopdeaaOpenG
import Derived.Test.YtchdfdimaopdeaaQB
namespace Go.Proofs.Ytchdfdimaopdeaa
open Go.ChangeShapes Go.WideShapes Go.ChangeAt Go.RowKit Go.Deep

section
variable {H : Type} {enc : TypeId × Value → H} {P : Program} {w : World} {base : Nat} {held : Bool}
theorem open_u8 {t : TypeId} {v : Value} {b0 : Nat} {d : DataW H} {p : List MemPlace} (ht : P.underlying t = some (.int .u8))
    (hv : Value.okWide P w .any b0 t v) (h : DataW.Trod enc P w base (fun _ => true) held t v d p) : ∃ n : Nat, v = .int .u8 n ∧ n < 256 := by
  obtain ⟨fuel, hf⟩ := h
  obtain ⟨n, h1, _, h2⟩ := DataW.trod_int ht hf
  have := bounds_u8 h2
  obtain ⟨m, rfl⟩ := okWide_int ht hv
  simp [Value.cells] at h1
  subst h1
  exact ⟨m.toNat, by congr 1; omega, by omega⟩
theorem open_u32 {t : TypeId} {v : Value} {b0 : Nat} {d : DataW H} {p : List MemPlace} (ht : P.underlying t = some (.int .u32))
    (hv : Value.okWide P w .any b0 t v) (h : DataW.Trod enc P w base (fun _ => true) held t v d p) : ∃ n : Nat, v = .int .u32 n ∧ n < 4294967296 := by
  obtain ⟨fuel, hf⟩ := h
  obtain ⟨n, h1, _, h2⟩ := DataW.trod_int ht hf
  have := bounds_u32 h2
  obtain ⟨m, rfl⟩ := okWide_int ht hv
  simp [Value.cells] at h1
  subst h1
  exact ⟨m.toNat, by congr 1; omega, by omega⟩
theorem open_u64 {t : TypeId} {v : Value} {b0 : Nat} {d : DataW H} {p : List MemPlace} (ht : P.underlying t = some (.int .u64))
    (hv : Value.okWide P w .any b0 t v) (h : DataW.Trod enc P w base (fun _ => true) held t v d p) : ∃ n : Nat, v = .int .u64 n ∧ n < 18446744073709551616 := by
  obtain ⟨fuel, hf⟩ := h
  obtain ⟨n, h1, _, h2⟩ := DataW.trod_int ht hf
  have := bounds_u64 h2
  obtain ⟨m, rfl⟩ := okWide_int ht hv
  simp [Value.cells] at h1
  subst h1
  exact ⟨m.toNat, by congr 1; omega, by omega⟩
end
end Go.Proofs.Ytchdfdimaopdeaa
