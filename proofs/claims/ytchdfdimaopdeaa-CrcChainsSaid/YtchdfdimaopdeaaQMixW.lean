/- Package crc: a word mixed in. -/
import Derived.Test.YtchdfdimaopdeaaQRound
namespace Go.Proofs.Ytchdfdimaopdeaa
open Go.RowKit

/-- A word mixed in. -/
def wordI (v : W4) (m : Int) : W4 :=
  let u := roundI (roundI ⟨v.a, v.b, v.c, xorI v.d m⟩)
  ⟨xorI u.a m, u.b, u.c, u.d⟩
set_option maxRecDepth 100000 in
set_option maxHeartbeats 400000 in
theorem word_any (p : Nat) (v : W4) (m : Int) (w : World) (h : St 71 w p v) : Calls Try.prog 33 #[.pointer (some ⟨p, 0, none⟩), .int .u64 m] w fun e w' => e = .returned (.tuple #[]) ∧ St 71 w' p (wordI v m) ∧ Fr 0 [] [p] w w' := by
  have c3 := h.c3
  have z3 := h.z 3
  have H1 := Lib.hid (h.s3 (xorI v.d m))
  have HF : Hid (Fr 0 [] [p] w (w.setCell ⟨p, 3, none⟩ (.int .u64 (xorI v.d m)))) := Lib.hid ((Fr.refl w).set1 _)
  obtain ⟨X, hX⟩ : ∃ X, xorI v.d m = X := ⟨_, rfl⟩
  rw [hX] at H1 HF
  have hX' : bits .xor .u64 v.d m = X := hX
  clear h
  go_enter Try.func33, Try.ntmps33
  go_wp2_with fail
  refine (round_any p _ _ H1.out).mono ?_
  rintro e w1 ⟨rfl, h1, f1⟩
  have H2 := Lib.hid h1
  have F2 := Lib.hid (HF.out.trans f1)
  clear h1 f1 c3 z3 H1 HF
  go_wp2_with fail
  refine (round_any p _ _ H2.out).mono ?_
  rintro e w2 ⟨rfl, h1, f1⟩
  have F3 := Lib.hid (F2.out.trans f1)
  obtain ⟨u, hu⟩ : ∃ u, roundI (roundI ⟨v.a, v.b, v.c, X⟩) = u := ⟨_, rfl⟩
  rw [hu] at h1
  have c0 := h1.c0
  have z0 := h1.z 0
  have H3 := Lib.hid h1
  have HU := Lib.hid hu
  clear f1 H2 F2 h1 hu
  go_wp2_with fail
  go_end0
  refine ⟨rfl, ?_, F3.out.set1 _⟩
  have e : wordI v m = ⟨xorI u.a m, u.b, u.c, u.d⟩ := by
    unfold wordI
    rw [hX, HU.out]
  rw [e]
  exact H3.out.s0 _
end Go.Proofs.Ytchdfdimaopdeaa
