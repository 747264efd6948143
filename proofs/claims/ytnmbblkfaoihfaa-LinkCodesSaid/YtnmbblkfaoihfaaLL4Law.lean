/- The law LinkCodes: for every packet and all bytes the law returns true. -/
import Derived.Test.YtnmbblkfaoihfaaLL4
import Derived.Test.YtnmbblkfaoihfaaLOpen
import Derived.Test.YtnmbblkfaoihfaaRow
namespace Go.Proofs.Ytnmbblkfaoihfaa
open Go.ChangeShapes Go.WideShapes Go.ChangeAt Go.RowKit Go.Deep

section
variable {H : Type} {enc : TypeId × Value → H} {w : World} {base : Nat} {held : Bool}
set_option maxRecDepth 100000 in
theorem open_pkt {v : Value} {b0 : Nat} {d : DataW H} {p : List MemPlace} (hv : Value.okWide Try.prog w .any b0 43 v) (h : DataW.Trod enc Try.prog w base (fun _ => true) held 43 v d p) (hw : ∀ m ∈ d.weights Try.prog 43, m ≤ reachBytes) :
    ∃ (seq ack : Int) (A : Option Addr) (c : Nat) (bs : List Nat), v = .agg #[.int .i64 seq, .int .i64 ack, .slice A bs.length c] ∧ OkPk w seq ack A c bs := by
  obtain ⟨cs, rfl, _⟩ := okWide_struct Try.underlying43 hv
  obtain ⟨fuel, hf⟩ := h
  obtain ⟨seq, ack, A, c, bs, e, h1⟩ := elPkt hf hw
  refine ⟨seq, ack, A, c, bs, ?_, h1⟩
  have : cs = #[.int .i64 seq, .int .i64 ack, .slice A bs.length c] := by
    obtain ⟨l⟩ := cs
    simp only [Value.cells] at e
    rw [← e]
  rw [this]
end

set_option maxRecDepth 100000 in
theorem linkCodes_lifted (os : Os) (started : os.Started) (H : Type) (enc : TypeId × Value → H) :
    ReturnsInHanded {} Try.checked os 8 .any (Rows.linkCodesSpec.pre6 enc Try.prog Try.f8 Rows.linkCodesRow.domain false) (Rows.linkCodesSpec.post enc Try.prog Try.f8 false true false false) := by
  refine returnsInHanded_of_change_sized (C := Try.checked) own started (by kernel_rfl) Try.func8
    (ChangeSpec.witness6 (enc := enc) (C := Try.checked) false ⟨#[], #[.agg #[.int .i64 0, .int .i64 0, .slice none 0 0], .slice none 0 0], []⟩ 8 (by kernel_rfl) (by kernel_rfl) (by kernel_rfl) (by kernel_rfl)) ?_
  intro W base args ds gs before hval0 hW _ hsz0 _
  have hval : ∀ (j : Nat) t v, Try.f8.params[j]? = some t → args[j]? = some v → Value.okWide Try.prog W .any base t v := hval0
  have hsz : (DataW.weightsEach Try.prog (Try.f8.params.toList ++ Rows.linkCodesSpec.plain.varTypes Try.prog) (ds ++ gs)).all (· ≤ reachBytes) = true := hsz0
  have hW' := hW
  obtain ⟨p, q, hA0, hV, hpq, hfz, hnd⟩ := hW
  have hA : DataW.TrodAll enc Try.prog W 0 (fun _ => true) true Try.f8.params.toList args.toList ds p := hA0
  rw [Try.params8] at hA hval hsz
  obtain ⟨v0, vs0, d0, ds0, p0, q0, hargs, rfl, rfl, h0, r0⟩ := trodAll_cons hA
  obtain ⟨v1, vs1, d1, ds1, p1, q1, rfl, rfl, rfl, h1, r1⟩ := trodAll_cons r0
  obtain ⟨rfl, rfl, rfl⟩ := trodAll_nil r1
  obtain rfl : args = #[v0, v1] := by cases args; simp_all
  obtain ⟨seq, ack, A, c, bd, rfl, hpk⟩ := open_pkt (hval 0 43 v0 rfl rfl) h0 (weights_at hsz (j := 0) (t := 43) rfl rfl)
  obtain ⟨Ab, cb, bs, rfl, hby1⟩ := open_bytes Try.underlying41 Try.underlying5 (by kernel_rfl) (by kernel_rfl) (hval 1 41 v1 rfl rfl) h1 (weights_at hsz (j := 1) (t := 41) rfl rfl)
  obtain ⟨rfl, rfl⟩ := trodVars_none hV
  clear hA0 hval0 hsz0
  refine (codes_any ⟨seq, ack, bd⟩ A c Ab cb bs W hpk.2.2 hby1).mono fun e W' ⟨he, bel⟩ => ?_
  subst he
  exact ⟨_, rfl, post_true laidOut (by intro t ht; simp only [Try.params8] at ht; simp at ht; rcases ht with rfl | rfl <;> exact ⟨by kernel_rfl, of_decide_eq_true (by kernel_rfl)⟩) (by kernel_rfl) Try.underlying4 rfl rfl rfl rfl hW' bel⟩

theorem linkCodes_holds : Rows.LinkCodesSaid :=
  OpenClaim.holds_of_wide 8 Try.f8 rfl rfl rfl rfl rfl rfl rfl ⟨rfl, rfl, rfl, rfl, rfl⟩ rfl rfl rfl rfl rfl (by kernel_rfl) Try.func8 (by kernel_rfl)
    (of_decide_eq_true (by kernel_rfl)) (by unfold Func.isWrapper; first | (rw [if_pos (by decide +kernel)]; kernel_rfl) | (rw [if_neg (by decide +kernel)]; exact ⟨rfl, rfl⟩))
    (fun os started H enc _ => linkCodes_lifted os started H enc)
#print axioms linkCodes_holds

end Go.Proofs.Ytnmbblkfaoihfaa
