/- The law LinkPacks: behind any calls, packed and unpacked, an end is as it was: for all lists of calls the law returns true. -/
import Derived.Test.YtnmbblkfaoihfaaZLPLL5
import Derived.Test.YtnmbblkfaoihfaaZLP19
namespace Go.Proofs.Ytnmbblkfaoihfaa
open Go.ChangeShapes Go.WideShapes Go.ChangeAt Go.RowKit Go.Deep

section
variable {H : Type} {enc : TypeId × Value → H} {w : World} {base : Nat} {held : Bool}
theorem elO {n : Nat} {cs : List Value} {x : DataW H × List MemPlace} (h : DataW.trod enc Try.prog w base (fun _ => true) held n 57 cs = some x) (hw : ∀ m ∈ x.1.weights Try.prog 57, m ≤ reachBytes) : ∃ z : LOp, cs = encO z ∧ OkO w z := by
  obtain ⟨kind, now, seq, ack, A, c, bs, e, hN, hp⟩ := elOp h hw
  exact ⟨⟨kind, now, seq, ack, A, c, bs⟩, e, hN, hp.2.2⟩
end

set_option maxRecDepth 100000 in
theorem linkPacks_lifted (os : Os) (started : os.Started) (H : Type) (enc : TypeId × Value → H) :
    ReturnsInHanded {} Try.checked os 9 .any (Rows.linkPacksSpec.pre6 enc Try.prog Try.f9 Rows.linkPacksRow.domain false) (Rows.linkPacksSpec.post enc Try.prog Try.f9 false true false false) := by
  refine returnsInHanded_of_change_sized (C := Try.checked) own started (by kernel_rfl) Try.func9
    (ChangeSpec.witness6 (enc := enc) (C := Try.checked) false ⟨#[], #[.slice none 0 0], []⟩ 8 (by kernel_rfl) (by kernel_rfl) (by kernel_rfl) (by kernel_rfl)) ?_
  intro W base args ds gs before hval0 hW _ hsz0 _
  have hval : ∀ (j : Nat) t v, Try.f9.params[j]? = some t → args[j]? = some v → Value.okWide Try.prog W .any base t v := hval0
  have hsz : (DataW.weightsEach Try.prog (Try.f9.params.toList ++ Rows.linkPacksSpec.plain.varTypes Try.prog) (ds ++ gs)).all (· ≤ reachBytes) = true := hsz0
  have hW' := hW
  obtain ⟨p, q, hA0, hV, hpq, hfz, hnd⟩ := hW
  have hA : DataW.TrodAll enc Try.prog W 0 (fun _ => true) true Try.f9.params.toList args.toList ds p := hA0
  rw [Try.params9] at hA hval hsz
  obtain ⟨v0, vs0, d0, ds0, p0, q0, hargs, rfl, rfl, h0, r0⟩ := trodAll_cons hA
  obtain ⟨rfl, rfl, rfl⟩ := trodAll_nil r0
  obtain rfl : args = #[v0] := by cases args; simp_all
  obtain ⟨a0, len0, cap0, rfl⟩ := okWide_slice Try.underlying51 (hval 0 51 v0 rfl rfl)
  have hwo := weights_at hsz (j := 0) (t := 51) rfl rfl
  obtain ⟨fuel, hfu⟩ := h0
  obtain ⟨A, c, zs, hcs, hz1, hzb, hz2, _, hz3, hz4⟩ := open_list (α := LOp) (size := 5) Try.underlying51 (by kernel_rfl) (by omega) encO (OkO W) (fun _ => rfl) (fun n cs x hx hwx => elO hx hwx) hfu hwo
  have hbo : zs.length ≤ 140737488355328 := by have hc : c * 56 ≤ 140737488351232 := hzb; omega
  simp only [Value.cells, List.cons.injEq, Value.slice.injEq, and_true] at hcs
  obtain ⟨rfl, rfl, rfl⟩ := hcs
  obtain ⟨rfl, rfl⟩ := trodVars_none hV
  clear hA0 hval0 hsz0
  refine (lpacks_any _ _ zs W hbo hz3 hz4).mono fun e W' ⟨he, bel⟩ => ?_
  subst he
  exact ⟨_, rfl, post_true laidOut (by intro t ht; simp only [Try.params9] at ht; simp at ht; rcases ht with rfl <;> exact ⟨by kernel_rfl, of_decide_eq_true (by kernel_rfl)⟩) (by kernel_rfl) Try.underlying4 rfl rfl rfl rfl hW' bel⟩

theorem linkPacks_holds : Rows.LinkPacksSaid :=
  OpenClaim.holds_of_wide 9 Try.f9 rfl rfl rfl rfl rfl rfl rfl ⟨rfl, rfl, rfl, rfl, rfl⟩ rfl rfl rfl rfl rfl (by kernel_rfl) Try.func9 (by kernel_rfl)
    (of_decide_eq_true (by kernel_rfl)) (by unfold Func.isWrapper; first | (rw [if_pos (by decide +kernel)]; kernel_rfl) | (rw [if_neg (by decide +kernel)]; exact ⟨rfl, rfl⟩))
    (fun os started H enc _ => linkPacks_lifted os started H enc)
#print axioms linkPacks_holds

end Go.Proofs.Ytnmbblkfaoihfaa
