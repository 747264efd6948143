/- The law CellsJoins: for all texts of bulk at most 1048576 the law returns true. -/
import Derived.Test.YtlljeghlfijdnaaCL8
import Derived.Test.YtlljeghlfijdnaaUp
import Derived.Test.YtlljeghlfijdnaaRow
namespace Go.Proofs.Ytlljeghlfijdnaa
open Go.ChangeShapes Go.WideShapes Go.ChangeAt Go.RowKit Go.Deep

section
variable {H : Type} {enc : TypeId × Value → H} {w : World} {base : Nat} {held : Bool}
/-- A text's cells in memory. -/
def encT (z : Option Addr × Nat × List Nat) : List Value := [.slice z.1 z.2.2.length z.2.1]
/-- What each text gives, and its reading. -/
def OkT (w : World) (d : DataW H) (z : Option Addr × Nat × List Nat) : Prop := IsBy w z.1 z.2.1 z.2.2 ∧ z.2.2.length + 1 ≤ Rows.uptoBulk d
theorem elBy {n : Nat} {cs : List Value} {x : DataW H × List MemPlace} (h : DataW.trod enc Try.prog w base (fun _ => true) held n 22 cs = some x) (hw : Rows.uptoBulk x.1 ≤ 1048576) : ∃ z, cs = encT z ∧ OkT w x.1 z := by
  obtain ⟨A, c, bs, h1, h2, h3⟩ := trod_bytesU Try.underlying22 Try.underlying5 (by kernel_rfl) h hw
  exact ⟨(A, c, bs), h1, h2, h3⟩
theorem enc_flat : ∀ zs : List (Option Addr × Nat × List Nat), zs.flatMap encT = zs.map (fun z => .slice z.1 z.2.2.length z.2.1)
  | [] => rfl
  | z :: zs => by rw [List.flatMap_cons, List.map_cons, enc_flat zs]; rfl
theorem bss_of {A : Option Addr} {c : Nat} {zs : List (Option Addr × Nat × List Nat)} {ds : List (DataW H)} (h1 : zs.length ≤ c) (h2 : c ≤ 1048576) (h3 : Rd w 1 A zs.length (zs.flatMap encT)) (h4 : ds.length = zs.length) (h5 : ∀ i (h1 : i < ds.length) (h2 : i < zs.length), OkT w ds[i] zs[i]) :
    Bss w (.slice A (zs.map (·.2.2)).length c) (zs.map (·.2.2)) := by
  refine ⟨A, c, zs.map (fun z => .slice z.1 z.2.2.length z.2.1), rfl, by simpa using h1, by unfold maxLen; omega, by rw [← enc_flat]; simpa using h3, fun j hj u hu => ?_⟩
  simp only [List.length_map] at hj
  simp only [List.getElem?_map, List.getElem?_eq_getElem hj, Option.map_some, Option.some.injEq] at hu
  subst hu
  simp only [List.getElem_map]
  exact (h5 j (by omega) hj).1.bs
theorem joinB_bulk : ∀ (zs : List (Option Addr × Nat × List Nat)) (ds : List (DataW H)), ds.length = zs.length → (∀ i (h1 : i < ds.length) (h2 : i < zs.length), OkT w ds[i] zs[i]) → (joinB (zs.map (·.2.2))).length ≤ 9 * Rows.uptoBulkAll ds
  | [], ds, _, _ => by simp [joinB]
  | z :: zs, [], h, _ => by simp at h
  | z :: zs, d :: ds, h, hz => by
    have h0 := hz 0 (by simp) (by simp)
    have h1 := joinB_bulk zs ds (by simpa using h) (fun i h1 h2 => by have := hz (i + 1) (by simpa using h1) (by simpa using h2); simpa using this)
    have h2 := numB_length (z.2.2.length : Int)
    obtain ⟨_, h3⟩ := h0
    simp only [List.getElem_cons_zero] at h3
    rw [List.map_cons, joinB_cons]
    simp only [List.length_append, Rows.uptoBulkAll]
    omega
end

set_option maxRecDepth 100000 in
theorem cellsJoins_lifted (os : Os) (started : os.Started) (H : Type) (enc : TypeId × Value → H) (F : Stop.Interp) :
    ReturnsInHanded {} Try.checked os 10 .any ((Rows.OpenSpec.upto Rows.cellsJoinsSpec).pre6 enc Try.prog Try.f10 Rows.cellsJoinsUptoRow.domain false) (((Rows.OpenSpec.upto Rows.cellsJoinsSpec).at F).post enc Try.prog Try.f10 false true false false) := by
  refine returnsInHanded_of_cond_sized (C := Try.checked) (s := Rows.OpenSpec.upto Rows.cellsJoinsSpec) (k := Rows.uptoSmall) rfl own started (by kernel_rfl) Try.func10
    (OpenSpec.witness (enc := enc) (C := Try.checked) (s := Rows.OpenSpec.upto Rows.cellsJoinsSpec) (k := Rows.uptoSmall) rfl false ⟨#[], #[.slice none 0 0], []⟩ 8 (by kernel_rfl) (by kernel_rfl) (by kernel_rfl) (x := ([.nil], [], [])) (by kernel_rfl) (by kernel_rfl) (by kernel_rfl)) ?_
  intro W base args ds gs before hval0 hW _ hk hsz0 _
  have hval : ∀ (j : Nat) t v, Try.f10.params[j]? = some t → args[j]? = some v → Value.okWide Try.prog W .any base t v := hval0
  have hsz : (DataW.weightsEach Try.prog (Try.f10.params.toList ++ Rows.cellsJoinsSpec.plain.varTypes Try.prog) (ds ++ gs)).all (· ≤ reachBytes) = true := hsz0
  have hW' := hW
  obtain ⟨p, q, hA0, hV, hpq, hfz, hnd⟩ := hW
  have hA : DataW.TrodAll enc Try.prog W 0 (fun _ => true) true Try.f10.params.toList args.toList ds p := hA0
  rw [Try.params10] at hA hval hsz
  obtain ⟨v0, vs0, d0, ds0, p0, q0, hargs, rfl, rfl, h0, r0⟩ := trodAll_cons hA
  obtain ⟨rfl, rfl, rfl⟩ := trodAll_nil r0
  obtain rfl : args = #[v0] := by cases args; simp_all
  obtain ⟨a0, len0, cap0, rfl⟩ := okWide_slice Try.underlying61 (hval 0 61 v0 rfl rfl)
  obtain ⟨fuel, hfu⟩ := h0
  have hb0 := bulk_at hk (j := 0) rfl
  obtain ⟨A, c, zs, es, hcs, hz1, hz2, _, hz3, hz4, hz5, hz6⟩ := open_listU (α := Option Addr × Nat × List Nat) (size := 1) Try.underlying61 (by kernel_rfl) (by omega) encT (OkT W) (fun _ => rfl) (fun n cs x hx hwx => elBy hx hwx) hfu hb0
  simp only [Value.cells, List.cons.injEq, Value.slice.injEq, and_true] at hcs
  obtain ⟨rfl, rfl, rfl⟩ := hcs
  have hz5 : Rows.uptoBulkAll es + 1 ≤ Rows.uptoBulk d0 := hz5
  have hJ := joinB_bulk zs es hz4 hz6
  have hB := bss_of hz1 hz2 hz3 hz4 hz6
  have hL : (zs.map (·.2.2)).length = zs.length := List.length_map _
  have h256 : ∀ x ∈ zs.map (·.2.2), ∀ b ∈ x, b < 256 := by
    intro x hx b hb
    obtain ⟨z, hz, rfl⟩ := List.mem_map.1 hx
    obtain ⟨i, hi, rfl⟩ := List.getElem_of_mem hz
    exact (hz6 i (by omega) hi).1.2.2.2.1 b hb
  obtain ⟨rfl, rfl⟩ := trodVars_none hV
  clear hA0 hval0 hsz0
  refine ((show Calls _ _ _ _ _ from hL ▸ joins_any _ _ _ W hB h256 (by omega))).mono fun e W' ⟨he, bel⟩ => ?_
  subst he
  exact ⟨_, rfl, post_true laidOut (by intro t ht; simp only [Try.params10] at ht; simp at ht; rcases ht with rfl <;> exact ⟨by kernel_rfl, of_decide_eq_true (by kernel_rfl)⟩) (by kernel_rfl) Try.underlying4 rfl rfl rfl rfl hW' bel⟩

theorem cellsJoinsUpto_holds : Rows.CellsJoinsUptoSaid :=
  OpenClaim.holds_of_cond 10 Try.f10 rfl rfl rfl rfl rfl rfl rfl ⟨rfl, rfl, rfl, rfl, rfl⟩ rfl rfl rfl rfl rfl (by kernel_rfl) Try.func10 (by kernel_rfl)
    (of_decide_eq_true (by kernel_rfl)) (by unfold Func.isWrapper; first | (rw [if_pos (by decide +kernel)]; kernel_rfl) | (rw [if_neg (by decide +kernel)]; exact ⟨rfl, rfl⟩))
    (fun os started H enc _ F => cellsJoins_lifted os started H enc F)
#print axioms cellsJoinsUpto_holds

end Go.Proofs.Ytlljeghlfijdnaa
