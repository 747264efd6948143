/- The law CellsTakes: for all bytes and all calls the law returns true. -/
import Derived.Test.YtlljeghlfijdnaaCL7
import Derived.Test.YtlljeghlfijdnaaOpen
import Derived.Test.YtlljeghlfijdnaaRow
namespace Go.Proofs.Ytlljeghlfijdnaa
open Go.ChangeShapes Go.WideShapes Go.ChangeAt Go.RowKit Go.Deep

section
variable {H : Type} {enc : TypeId × Value → H} {w : World} {base : Nat} {held : Bool}
theorem elOp {n : Nat} {cs : List Value} {x : DataW H × List MemPlace} (h : DataW.trod enc Try.prog w base (fun _ => true) held n 40 cs = some x) (hw : ∀ m ∈ x.1.weights Try.prog 40, m ≤ reachBytes) : ∃ z, cs = encOp z ∧ OkOp z := by
  obtain ⟨xs, n', _, hx, hcl, hlen, hg⟩ := DataW.trod_struct Try.underlying40 h
  have hcl' : cs.length = 5 := hcl.trans (by kernel_rfl)
  match cs, hcl', xs, hlen with
  | [c0, c1, c2, c3, c4], _, [y0, y1, y2, y3, y4], _ =>
    have e0 := hg 0 _ rfl
    have e1 := hg 1 _ rfl
    have e2 := hg 2 _ rfl
    have e3 := hg 3 _ rfl
    have e4 := hg 4 _ rfl
    obtain ⟨K, e0, _⟩ := trod_i64 (cs := [c0]) Try.underlying3 (x := y0) e0
    obtain ⟨N, e1, hN⟩ := trod_i64 (cs := [c1]) Try.underlying3 (x := y1) e1
    obtain ⟨s, e2, hs⟩ := trod_str (cs := [c2]) Try.underlying9 (x := y2) e2 (fun q hq => hw q (by rw [hx]; simp [DataW.weights, DataW.weightsEach, Try.underlying40]; exact .inr (.inr (.inl hq))))
    obtain ⟨L, e3, _⟩ := trod_i64 (cs := [c3]) Try.underlying3 (x := y3) e3
    obtain ⟨M, e4, _⟩ := trod_i64 (cs := [c4]) Try.underlying3 (x := y4) e4
    simp only [List.cons.injEq, and_true] at e0 e1 e2 e3 e4
    exact ⟨⟨K, N, s, L, M⟩, by simp [encOp, e0, e1, e2, e3, e4], hN, hs⟩
end

set_option maxRecDepth 100000 in
theorem cellsTakes_lifted (os : Os) (started : os.Started) (H : Type) (enc : TypeId × Value → H) :
    ReturnsInHanded {} Try.checked os 8 .any (Rows.cellsTakesSpec.pre6 enc Try.prog Try.f8 Rows.cellsTakesRow.domain false) (Rows.cellsTakesSpec.post enc Try.prog Try.f8 false true false false) := by
  refine returnsInHanded_of_change_sized (C := Try.checked) own started (by kernel_rfl) Try.func8
    (ChangeSpec.witness6 (enc := enc) (C := Try.checked) false ⟨#[], #[.slice none 0 0, .slice none 0 0], []⟩ 8 (by kernel_rfl) (by kernel_rfl) (by kernel_rfl) (by kernel_rfl)) ?_
  intro W base args ds gs before hval0 hW _ hsz0 _
  have hval : ∀ (j : Nat) t v, Try.f8.params[j]? = some t → args[j]? = some v → Value.okWide Try.prog W .any base t v := hval0
  have hsz : (DataW.weightsEach Try.prog (Try.f8.params.toList ++ Rows.cellsTakesSpec.plain.varTypes Try.prog) (ds ++ gs)).all (· ≤ reachBytes) = true := hsz0
  have hW' := hW
  obtain ⟨p, q, hA0, hV, hpq, hfz, hnd⟩ := hW
  have hA : DataW.TrodAll enc Try.prog W 0 (fun _ => true) true Try.f8.params.toList args.toList ds p := hA0
  rw [Try.params8] at hA hval hsz
  obtain ⟨v0, vs0, d0, ds0, p0, q0, hargs, rfl, rfl, h0, r0⟩ := trodAll_cons hA
  obtain ⟨v1, vs1, d1, ds1, p1, q1, rfl, rfl, rfl, h1, r1⟩ := trodAll_cons r0
  obtain ⟨rfl, rfl, rfl⟩ := trodAll_nil r1
  obtain rfl : args = #[v0, v1] := by cases args; simp_all
  obtain ⟨Ab, cb, bs, rfl, hby0⟩ := open_bytes Try.underlying22 Try.underlying5 (by kernel_rfl) (by kernel_rfl) (hval 0 22 v0 rfl rfl) h0 (weights_at hsz (j := 0) (t := 22) rfl rfl)
  obtain ⟨a0, len0, cap0, rfl⟩ := okWide_slice Try.underlying33 (hval 1 33 v1 rfl rfl)
  have hwo := weights_at hsz (j := 1) (t := 33) rfl rfl
  obtain ⟨fuel, hfu⟩ := h1
  obtain ⟨A, c, zs, hcs, hz1, _, hz2, _, hz3, hz4⟩ := open_list (α := Op1) (size := 5) Try.underlying33 (by kernel_rfl) (by omega) encOp OkOp (fun _ => rfl) (fun n cs x hx hwx => elOp hx hwx) hfu hwo
  simp only [Value.cells, List.cons.injEq, Value.slice.injEq, and_true] at hcs
  obtain ⟨rfl, rfl, rfl⟩ := hcs
  obtain ⟨rfl, rfl⟩ := trodVars_none hV
  clear hA0 hval0 hsz0
  refine (takes_any _ _ bs _ _ zs W hby0 ⟨hz1, hz2, hz3, hz4⟩).mono fun e W' ⟨he, bel⟩ => ?_
  subst he
  exact ⟨_, rfl, post_true laidOut (by intro t ht; simp only [Try.params8] at ht; simp at ht; rcases ht with rfl | rfl <;> exact ⟨by kernel_rfl, of_decide_eq_true (by kernel_rfl)⟩) (by kernel_rfl) Try.underlying4 rfl rfl rfl rfl hW' bel⟩

theorem cellsTakes_holds : Rows.CellsTakesSaid :=
  OpenClaim.holds_of_wide 8 Try.f8 rfl rfl rfl rfl rfl rfl rfl ⟨rfl, rfl, rfl, rfl, rfl⟩ rfl rfl rfl rfl rfl (by kernel_rfl) Try.func8 (by kernel_rfl)
    (of_decide_eq_true (by kernel_rfl)) (by unfold Func.isWrapper; first | (rw [if_pos (by decide +kernel)]; kernel_rfl) | (rw [if_neg (by decide +kernel)]; exact ⟨rfl, rfl⟩))
    (fun os started H enc _ => cellsTakes_lifted os started H enc)
#print axioms cellsTakes_holds

end Go.Proofs.Ytlljeghlfijdnaa
