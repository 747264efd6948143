/- The law CrcChains: for all seals and lists of parts the law returns true. -/
import Derived.Test.YtchdfdimaopdeaaQL8
import Derived.Test.YtchdfdimaopdeaaQOpenU
import Derived.Test.YtchdfdimaopdeaaRow
namespace Go.Proofs.Ytchdfdimaopdeaa
open Go.ChangeShapes Go.WideShapes Go.ChangeAt Go.RowKit Go.Deep

section
variable {H : Type} {enc : TypeId × Value → H} {w : World} {base : Nat} {held : Bool}
/-- A part's cells in memory. -/
def encT (z : Option Addr × Nat × List Nat) : List Value := [.slice z.1 z.2.2.length z.2.1]
/-- What is known of each part. -/
def OkT (w : World) (z : Option Addr × Nat × List Nat) : Prop := IsBy w z.1 z.2.1 z.2.2
theorem elBy {n : Nat} {cs : List Value} {x : DataW H × List MemPlace} (h : DataW.trod enc Try.prog w base (fun _ => true) held n 23 cs = some x) (hw : ∀ m ∈ x.1.weights Try.prog 23, m ≤ reachBytes) : ∃ z, cs = encT z ∧ OkT w z := by
  obtain ⟨A, c, bs, h1, h2⟩ := trod_bytes Try.underlying23 Try.underlying5 (by kernel_rfl) (by kernel_rfl) h hw
  exact ⟨(A, c, bs), h1, h2⟩
theorem enc_flat : ∀ zs : List (Option Addr × Nat × List Nat), zs.flatMap encT = zs.map (fun z => .slice z.1 z.2.2.length z.2.1)
  | [] => rfl
  | z :: zs => by rw [List.flatMap_cons, List.map_cons, enc_flat zs]; rfl
theorem bss_of {A : Option Addr} {c : Nat} {zs : List (Option Addr × Nat × List Nat)} (h1 : zs.length ≤ c) (h2 : c ≤ maxLen) (h3 : Rd w 1 A zs.length (zs.flatMap encT)) (h5 : ∀ z ∈ zs, OkT w z) :
    Bss w (.slice A (zs.map (·.2.2)).length c) (zs.map (·.2.2)) := by
  refine ⟨A, c, zs.map (fun z => .slice z.1 z.2.2.length z.2.1), rfl, by simpa using h1, h2, by rw [← enc_flat]; simpa using h3, fun j hj u hu => ?_⟩
  simp only [List.length_map] at hj
  simp only [List.getElem?_map, List.getElem?_eq_getElem hj, Option.map_some, Option.some.injEq] at hu
  subst hu
  simp only [List.getElem_map]
  exact (h5 _ (List.getElem_mem hj)).bs
end

set_option maxRecDepth 100000 in
theorem crcChains_lifted (os : Os) (started : os.Started) (H : Type) (enc : TypeId × Value → H) :
    ReturnsInHanded {} Try.checked os 9 .any (Rows.crcChainsSpec.pre6 enc Try.prog Try.f9 Rows.crcChainsRow.domain false) (Rows.crcChainsSpec.post enc Try.prog Try.f9 false true false false) := by
  refine returnsInHanded_of_change_sized (C := Try.checked) own started (by kernel_rfl) Try.func9
    (ChangeSpec.witness6 (enc := enc) (C := Try.checked) false ⟨#[], #[.int .u64 0, .slice none 0 0], []⟩ 8 (by kernel_rfl) (by kernel_rfl) (by kernel_rfl) (by kernel_rfl)) ?_
  intro W base args ds gs before hval0 hW _ hsz0 _
  have hval : ∀ (j : Nat) t v, Try.f9.params[j]? = some t → args[j]? = some v → Value.okWide Try.prog W .any base t v := hval0
  have hsz : (DataW.weightsEach Try.prog (Try.f9.params.toList ++ Rows.crcChainsSpec.plain.varTypes Try.prog) (ds ++ gs)).all (· ≤ reachBytes) = true := hsz0
  have hW' := hW
  obtain ⟨p, q, hA0, hV, hpq, hfz, hnd⟩ := hW
  have hA : DataW.TrodAll enc Try.prog W 0 (fun _ => true) true Try.f9.params.toList args.toList ds p := hA0
  rw [Try.params9] at hA hval hsz
  obtain ⟨v0, vs0, d0, ds0, p0, q0, hargs, rfl, rfl, h0, r0⟩ := trodAll_cons hA
  obtain ⟨v1, vs1, d1, ds1, p1, q1, rfl, rfl, rfl, h1, r1⟩ := trodAll_cons r0
  obtain ⟨rfl, rfl, rfl⟩ := trodAll_nil r1
  obtain rfl : args = #[v0, v1] := by cases args; simp_all
  obtain ⟨s, rfl, hu0⟩ := open_u64 Try.underlying33 (hval 0 33 v0 rfl rfl) h0
  obtain ⟨a0, len0, cap0, rfl⟩ := okWide_slice Try.underlying44 (hval 1 44 v1 rfl rfl)
  obtain ⟨fuel, hfu⟩ := h1
  obtain ⟨A, c, zs, hcs, hz1, _, hz3, _, hz5, hz6⟩ := open_list (α := Option Addr × Nat × List Nat) (size := 1) Try.underlying44 (by kernel_rfl) (by omega) encT (OkT W) (fun _ => rfl) (fun n cs x hx hwx => elBy hx hwx) hfu (weights_at hsz (j := 1) (t := 44) rfl rfl)
  simp only [Value.cells, List.cons.injEq, Value.slice.injEq, and_true] at hcs
  obtain ⟨rfl, rfl, rfl⟩ := hcs
  have hB := bss_of hz1 hz3 hz5 hz6
  have hL : (zs.map (·.2.2)).length = zs.length := List.length_map _
  have h256 : ∀ x ∈ zs.map (·.2.2), ∀ b ∈ x, b < 256 := by
    intro x hx b hb
    obtain ⟨z, hz, rfl⟩ := List.mem_map.1 hx
    exact (hz6 z hz).2.2.2.1 b hb
  obtain ⟨rfl, rfl⟩ := trodVars_none hV
  clear hA0 hval0 hsz0
  refine ((show Calls _ _ _ _ _ from hL ▸ chains_any s _ _ _ W hB h256)).mono fun e W' ⟨he, bel⟩ => ?_
  subst he
  exact ⟨_, rfl, post_true laidOut (by intro t ht; simp only [Try.params9] at ht; simp at ht; rcases ht with rfl | rfl <;> exact ⟨by kernel_rfl, of_decide_eq_true (by kernel_rfl)⟩) (by kernel_rfl) Try.underlying4 rfl rfl rfl rfl hW' bel⟩

theorem crcChains_holds : Rows.CrcChainsSaid :=
  OpenClaim.holds_of_wide 9 Try.f9 rfl rfl rfl rfl rfl rfl rfl ⟨rfl, rfl, rfl, rfl, rfl⟩ rfl rfl rfl rfl rfl (by kernel_rfl) Try.func9 (by kernel_rfl)
    (of_decide_eq_true (by kernel_rfl)) (by unfold Func.isWrapper; first | (rw [if_pos (by decide +kernel)]; kernel_rfl) | (rw [if_neg (by decide +kernel)]; exact ⟨rfl, rfl⟩))
    (fun os started H enc _ => crcChains_lifted os started H enc)
#print axioms crcChains_holds

end Go.Proofs.Ytchdfdimaopdeaa
