/- The law LinkEnds: behind any such script all bodies come: the law returns true. -/
import Derived.Test.YtnmbblkfaoihfaaZLYLL8
import Derived.Test.YtnmbblkfaoihfaaZLY17
namespace Go.Proofs.Ytnmbblkfaoihfaa
open Go.ChangeShapes Go.WideShapes Go.ChangeAt Go.RowKit Go.Deep

section
variable {H : Type} {enc : TypeId × Value → H} {w : World} {base : Nat} {held : Bool}
set_option maxRecDepth 100000 in
theorem elD {n : Nat} {cs : List Value} {x : DataW H × List MemPlace} (h : DataW.trod enc Try.prog w base (fun _ => true) held n 28 cs = some x) : ∃ z : LDeed, cs = encD z ∧ True := by
  obtain ⟨xs, n', _, hx, hcl, hlen, hg⟩ := DataW.trod_struct Try.underlying28 h
  have hcl' : cs.length = 3 := hcl.trans (by kernel_rfl)
  match cs, hcl', xs, hlen with
  | [c0, c1, c2], _, [y0, y1, y2], _ =>
    have e0 := hg 0 _ rfl
    have e1 := hg 1 _ rfl
    have e2 := hg 2 _ rfl
    obtain ⟨K, e0, _⟩ := trod_i64 (cs := [c0]) Try.underlying3 (x := y0) e0
    obtain ⟨A, e1, _⟩ := trod_i64 (cs := [c1]) Try.underlying3 (x := y1) e1
    obtain ⟨N, e2, _⟩ := trod_i64 (cs := [c2]) Try.underlying3 (x := y2) e2
    simp only [List.cons.injEq, and_true] at e0 e1 e2
    exact ⟨⟨K, A, N⟩, by simp [encD, e0, e1, e2], trivial⟩
end

set_option maxRecDepth 100000 in
theorem linkEnds_lifted (os : Os) (started : os.Started) (H : Type) (enc : TypeId × Value → H) :
    ReturnsInHanded {} Try.checked os 4 .any (Rows.linkEndsSpec.pre6 enc Try.prog Try.f4 Rows.linkEndsRow.domain false) (Rows.linkEndsSpec.post enc Try.prog Try.f4 false true false false) := by
  refine returnsInHanded_of_change_sized (C := Try.checked) own started (by kernel_rfl) Try.func4
    (ChangeSpec.witness6 (enc := enc) (C := Try.checked) false ⟨#[], #[.slice none 0 0], []⟩ 8 (by kernel_rfl) (by kernel_rfl) (by kernel_rfl) (by kernel_rfl)) ?_
  intro W base args ds gs before hval0 hW _ hsz0 _
  have hval : ∀ (j : Nat) t v, Try.f4.params[j]? = some t → args[j]? = some v → Value.okWide Try.prog W .any base t v := hval0
  have hsz : (DataW.weightsEach Try.prog (Try.f4.params.toList ++ Rows.linkEndsSpec.plain.varTypes Try.prog) (ds ++ gs)).all (· ≤ reachBytes) = true := hsz0
  have hW' := hW
  obtain ⟨p, q, hA0, hV, hpq, hfz, hnd⟩ := hW
  have hA : DataW.TrodAll enc Try.prog W 0 (fun _ => true) true Try.f4.params.toList args.toList ds p := hA0
  rw [Try.params4] at hA hval hsz
  obtain ⟨v0, vs0, d0, ds0, p0, q0, hargs, rfl, rfl, h0, r0⟩ := trodAll_cons hA
  obtain ⟨rfl, rfl, rfl⟩ := trodAll_nil r0
  obtain rfl : args = #[v0] := by cases args; simp_all
  obtain ⟨a0, len0, cap0, rfl⟩ := okWide_slice Try.underlying22 (hval 0 22 v0 rfl rfl)
  have hwo := weights_at hsz (j := 0) (t := 22) rfl rfl
  obtain ⟨fuel, hfu⟩ := h0
  obtain ⟨A, c, zs, hcs, hz1, hzb, hz2, _, hz3, hz4⟩ := open_list (α := LDeed) (size := 3) Try.underlying22 (by kernel_rfl) (by omega) encD (fun _ => True) (fun _ => rfl) (fun n cs x hx _ => elD hx) hfu hwo
  have hbo : zs.length ≤ 140737488355328 := by have hc : c * 24 ≤ 140737488351232 := hzb; omega
  simp only [Value.cells, List.cons.injEq, Value.slice.injEq, and_true] at hcs
  obtain ⟨rfl, rfl, rfl⟩ := hcs
  obtain ⟨rfl, rfl⟩ := trodVars_none hV
  clear hA0 hval0 hsz0
  refine (ends_any _ _ zs W hbo hz3).mono fun e W' ⟨he, bel⟩ => ?_
  subst he
  exact ⟨_, rfl, post_true laidOut (by intro t ht; simp only [Try.params4] at ht; simp at ht; rcases ht with rfl <;> exact ⟨by kernel_rfl, of_decide_eq_true (by kernel_rfl)⟩) (by kernel_rfl) Try.underlying4 rfl rfl rfl rfl hW' bel⟩

theorem linkEnds_holds : Rows.LinkEndsSaid :=
  OpenClaim.holds_of_wide 4 Try.f4 rfl rfl rfl rfl rfl rfl rfl ⟨rfl, rfl, rfl, rfl, rfl⟩ rfl rfl rfl rfl rfl (by kernel_rfl) Try.func4 (by kernel_rfl)
    (of_decide_eq_true (by kernel_rfl)) (by unfold Func.isWrapper; first | (rw [if_pos (by decide +kernel)]; kernel_rfl) | (rw [if_neg (by decide +kernel)]; exact ⟨rfl, rfl⟩))
    (fun os started H enc _ => linkEnds_lifted os started H enc)
#print axioms linkEnds_holds

end Go.Proofs.Ytnmbblkfaoihfaa
