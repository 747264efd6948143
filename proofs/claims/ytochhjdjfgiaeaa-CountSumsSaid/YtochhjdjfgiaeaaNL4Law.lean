/- The law CountSums: for all numbers the law returns true. -/
import Derived.Test.YtochhjdjfgiaeaaNL4
import Derived.Test.YtochhjdjfgiaeaaOpenG
import Derived.Test.YtochhjdjfgiaeaaRow
namespace Go.Proofs.Ytochhjdjfgiaeaa
open Go.ChangeShapes Go.WideShapes Go.ChangeAt Go.RowKit Go.Deep

theorem map_flatI : ∀ zs : List Int, zs.map i64v = zs.flatMap (fun x => [i64v x])
  | [] => rfl
  | z :: zs => by rw [List.map_cons, List.flatMap_cons, map_flatI zs]; rfl

set_option maxRecDepth 100000 in
theorem countSums_lifted (os : Os) (started : os.Started) (H : Type) (enc : TypeId × Value → H) :
    ReturnsInHanded {} Try.checked os 7 .any (Rows.countSumsSpec.pre6 enc Try.prog Try.f7 Rows.countSumsRow.domain false) (Rows.countSumsSpec.post enc Try.prog Try.f7 false true false false) := by
  refine returnsInHanded_of_change_sized (C := Try.checked) own started (by kernel_rfl) Try.func7
    (ChangeSpec.witness6 (enc := enc) (C := Try.checked) false ⟨#[], #[.slice none 0 0], []⟩ 8 (by kernel_rfl) (by kernel_rfl) (by kernel_rfl) (by kernel_rfl)) ?_
  intro W base args ds gs before hval0 hW _ hsz0 _
  have hval : ∀ (j : Nat) t v, Try.f7.params[j]? = some t → args[j]? = some v → Value.okWide Try.prog W .any base t v := hval0
  have hsz : (DataW.weightsEach Try.prog (Try.f7.params.toList ++ Rows.countSumsSpec.plain.varTypes Try.prog) (ds ++ gs)).all (· ≤ reachBytes) = true := hsz0
  have hW' := hW
  obtain ⟨p, q, hA0, hV, hpq, hfz, hnd⟩ := hW
  have hA : DataW.TrodAll enc Try.prog W 0 (fun _ => true) true Try.f7.params.toList args.toList ds p := hA0
  rw [Try.params7] at hA hval hsz
  obtain ⟨v0, vs0, d0, ds0, p0, q0, hargs, rfl, rfl, h0, r0⟩ := trodAll_cons hA
  obtain ⟨rfl, rfl, rfl⟩ := trodAll_nil r0
  obtain rfl : args = #[v0] := by cases args; simp_all
  obtain ⟨a0, len0, cap0, rfl⟩ := okWide_slice Try.underlying31 (hval 0 31 v0 rfl rfl)
  have hwo0 := weights_at hsz (j := 0) (t := 31) rfl rfl
  obtain ⟨fuel0, hfu0⟩ := h0
  obtain ⟨A0, c0, xs0, hcs0, hl0, hzb0, _, _, hrd0, hin0⟩ := open_list (α := Int) (size := 1) Try.underlying31 (by kernel_rfl) (by omega) (fun x => [i64v x]) (fun x => -9223372036854775808 ≤ x ∧ x ≤ 9223372036854775807) (fun _ => rfl) (fun n cs x hx _ => trod_i64 Try.underlying3 hx) hfu0 hwo0
  have hbo0 : c0 ≤ 140737488355328 := by have hc : c0 * 8 ≤ 140737488351232 := hzb0; omega
  simp only [Value.cells, List.cons.injEq, Value.slice.injEq, and_true] at hcs0
  obtain ⟨rfl, rfl, rfl⟩ := hcs0
  rw [← map_flatI] at hrd0
  obtain ⟨rfl, rfl⟩ := trodVars_none hV
  clear hA0 hval0 hsz0
  refine (sums_any _ _ xs0 W hrd0).mono fun e W' ⟨he, bel⟩ => ?_
  subst he
  exact ⟨_, rfl, post_true laidOut (by intro t ht; simp only [Try.params7] at ht; simp at ht; rcases ht with rfl <;> exact ⟨by kernel_rfl, of_decide_eq_true (by kernel_rfl)⟩) (by kernel_rfl) Try.underlying4 rfl rfl rfl rfl hW' bel⟩

theorem countSums_holds : Rows.CountSumsSaid :=
  OpenClaim.holds_of_wide 7 Try.f7 rfl rfl rfl rfl rfl rfl rfl ⟨rfl, rfl, rfl, rfl, rfl⟩ rfl rfl rfl rfl rfl (by kernel_rfl) Try.func7 (by kernel_rfl)
    (of_decide_eq_true (by kernel_rfl)) (by unfold Func.isWrapper; first | (rw [if_pos (by decide +kernel)]; kernel_rfl) | (rw [if_neg (by decide +kernel)]; exact ⟨rfl, rfl⟩))
    (fun os started H enc _ => countSums_lifted os started H enc)
#print axioms countSums_holds

end Go.Proofs.Ytochhjdjfgiaeaa
