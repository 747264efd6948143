/- How arguments of chapter 14's laws are opened: lists of items, lists of such lists. -/
import Derived.Test.YtlcnkicmepcppaaPPure
import Derived.Test.YtlcnkicmepcppaaOpenG
namespace Go.Proofs.Ytlcnkicmepcppaa
open Go.ChangeShapes Go.WideShapes Go.ChangeAt Go.RowKit Go.Deep

section
variable {H : Type} {enc : TypeId × Value → H} {w : World} {base : Nat} {held : Bool}
set_option maxRecDepth 100000 in
theorem elItem {n : Nat} {cs : List Value} {x : DataW H × List MemPlace} (h : DataW.trod enc Try.prog w base (fun _ => true) held n 40 cs = some x) (hw : ∀ m ∈ x.1.weights Try.prog 40, m ≤ reachBytes) :
    ∃ z : It, cs = encI z ∧ BdIt z := by
  obtain ⟨xs, n', _, hx, hcl, hlen, hg⟩ := DataW.trod_struct Try.underlying40 h
  have hcl' : cs.length = 2 := hcl.trans (by kernel_rfl)
  match cs, hcl', xs, hlen with
  | [c0, c1], _, [y0, y1], _ =>
    have e0 := hg 0 _ rfl
    have e1 := hg 1 _ rfl
    obtain ⟨s, e0, hs⟩ := trod_str (cs := [c0]) (x := y0) Try.underlying9 e0 (fun q hq => hw q (by rw [hx]; simp [DataW.weights, DataW.weightsEach, Try.underlying40]; exact .inl hq))
    obtain ⟨k, e1, hk⟩ := trod_i64 (cs := [c1]) Try.underlying3 (x := y1) e1
    simp only [List.cons.injEq, and_true] at e0 e1
    exact ⟨⟨s, k⟩, by simp [e0, e1, encI], by show s.size ≤ _; omega, hk⟩
/-- A list of items in a cell. -/
structure Sl where
  at_ : Option Addr
  cap : Nat
  l : List It
def encS (z : Sl) : List Value := [.slice z.at_ z.l.length z.cap]
def OkS (w : World) (z : Sl) : Prop := RdI w (.slice z.at_ z.l.length z.cap) z.l ∧ BdL z.l
set_option maxRecDepth 100000 in
theorem elItems {n : Nat} {cs : List Value} {x : DataW H × List MemPlace} (h : DataW.trod enc Try.prog w base (fun _ => true) held n 26 cs = some x) (hw : ∀ m ∈ x.1.weights Try.prog 26, m ≤ reachBytes) :
    ∃ z : Sl, cs = encS z ∧ OkS w z := by
  obtain ⟨A, c, zs, hcs, hz1, hzb, hz2, _, hz3, hz4⟩ := open_list (α := It) (size := 2) Try.underlying26 (by kernel_rfl) (by omega) encI BdIt (fun _ => rfl) (fun n cs x hx hwx => elItem hx hwx) h hw
  have hbo : zs.length ≤ 140737488355328 := by have hc : c * 24 ≤ 140737488351232 := hzb; omega
  exact ⟨⟨A, c, zs⟩, hcs, ⟨A, c, rfl, hz1, hz2, hz3⟩, hz4, by show zs.length ≤ _; omega⟩
set_option maxRecDepth 100000 in
theorem open_items {v : Value} {b0 : Nat} {d : DataW H} {p : List MemPlace} (hv : Value.okWide Try.prog w .any b0 26 v) (h : DataW.Trod enc Try.prog w base (fun _ => true) held 26 v d p) (hw : ∀ m ∈ d.weights Try.prog 26, m ≤ reachBytes) :
    ∃ l : List It, RdI w v l ∧ BdL l := by
  obtain ⟨a0, len0, cap0, rfl⟩ := okWide_slice Try.underlying26 hv
  obtain ⟨fuel, hf⟩ := h
  obtain ⟨⟨A, c, l⟩, e, h1, h2⟩ := elItems hf hw
  simp only [Value.cells, encS, List.cons.injEq, and_true] at e
  rw [e]
  exact ⟨l, h1, h2⟩
theorem encS_at : ∀ (zs : List Sl) (j : Nat) (h : j < zs.length), (zs.flatMap encS)[j]? = some (.slice zs[j].at_ zs[j].l.length zs[j].cap)
  | z :: zs, 0, _ => by simp [encS]
  | z :: zs, j + 1, h => by
    rw [List.flatMap_cons, show encS z = [.slice z.at_ z.l.length z.cap] from rfl, List.singleton_append, List.getElem?_cons_succ, encS_at zs j (by simpa using h)]
    simp
set_option maxRecDepth 100000 in
theorem open_itemss {v : Value} {b0 : Nat} {d : DataW H} {p : List MemPlace} (hv : Value.okWide Try.prog w .any b0 27 v) (h : DataW.Trod enc Try.prog w base (fun _ => true) held 27 v d p) (hw : ∀ m ∈ d.weights Try.prog 27, m ≤ reachBytes) :
    ∃ ls : List (List It), RdII w v ls ∧ (∀ l ∈ ls, BdL l) ∧ ls.length ≤ 4611686018427387903 := by
  obtain ⟨a0, len0, cap0, rfl⟩ := okWide_slice Try.underlying27 hv
  obtain ⟨fuel, hf⟩ := h
  obtain ⟨A, c, zs, hcs, hz1, hzb, hz2, _, hz3, hz4⟩ := open_list (α := Sl) (size := 1) Try.underlying27 (by kernel_rfl) (by omega) encS (OkS w) (fun _ => rfl) (fun n cs x hx hwx => elItems hx hwx) hf hw
  have hbo : zs.length ≤ 140737488355328 := by have hc : c * 24 ≤ 140737488351232 := hzb; omega
  simp only [Value.cells, List.cons.injEq, and_true] at hcs
  rw [hcs]
  refine ⟨zs.map (·.l), ⟨A, c, _, by rw [List.length_map], by rw [List.length_map]; exact hz1, hz2, by rw [List.length_map]; exact hz3, fun j hj => ?_⟩, fun l hl => ?_, by rw [List.length_map]; omega⟩
  · have hj2 : j < zs.length := by simpa using hj
    refine ⟨_, encS_at zs j hj2, ?_⟩
    rw [List.getElem_map]
    exact (hz4 _ (List.getElem_mem hj2)).1
  · obtain ⟨z, hz, rfl⟩ := List.mem_map.1 hl
    exact (hz4 z hz).2
end
end Go.Proofs.Ytlcnkicmepcppaa
