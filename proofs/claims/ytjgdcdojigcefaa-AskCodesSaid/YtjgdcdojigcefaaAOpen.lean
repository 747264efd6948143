/- How a request that came in by value is opened. -/
import Derived.Test.YtjgdcdojigcefaaAMay
import Derived.Test.YtjgdcdojigcefaaOpenG
namespace Go.Proofs.Ytjgdcdojigcefaa
open Go.ChangeShapes Go.WideShapes Go.ChangeAt Go.RowKit Go.Deep

def In64 (n : Int) : Prop := -9223372036854775808 ≤ n ∧ n ≤ 9223372036854775807
/-- What a request that came in is known to keep to. -/
structure BdA (a : Ak) : Prop where
  client : In64 a.client
  number : In64 a.number
  kind : In64 a.kind
  order : In64 a.order
  region : In64 a.region
  to : In64 a.to
  n : In64 a.n
  good : a.good.size ≤ 140737488351232
  items : BdL a.items
section
variable {H : Type} {enc : TypeId × Value → H} {w : World} {base : Nat} {held : Bool}
set_option maxRecDepth 100000 in
theorem elItem {n : Nat} {cs : List Value} {x : DataW H × List MemPlace} (h : DataW.trod enc Try.prog w base (fun _ => true) held n 46 cs = some x) (hw : ∀ m ∈ x.1.weights Try.prog 46, m ≤ reachBytes) :
    ∃ z : It, cs = encI z ∧ BdIt z := by
  obtain ⟨xs, n', _, hx, hcl, hlen, hg⟩ := DataW.trod_struct Try.underlying46 h
  have hcl' : cs.length = 2 := hcl.trans (by kernel_rfl)
  match cs, hcl', xs, hlen with
  | [c0, c1], _, [y0, y1], _ =>
    have e0 := hg 0 _ rfl
    have e1 := hg 1 _ rfl
    obtain ⟨s, e0, hs⟩ := trod_str (cs := [c0]) (x := y0) Try.underlying9 e0 (fun q hq => hw q (by rw [hx]; simp [DataW.weights, DataW.weightsEach, Try.underlying46]; exact .inl hq))
    obtain ⟨k, e1, hk⟩ := trod_i64 (cs := [c1]) Try.underlying3 (x := y1) e1
    simp only [List.cons.injEq, and_true] at e0 e1
    exact ⟨⟨s, k⟩, by simp [e0, e1, encI], by show s.size ≤ _; omega, hk⟩
set_option maxRecDepth 100000 in
theorem elItems {n : Nat} {cs : List Value} {x : DataW H × List MemPlace} (h : DataW.trod enc Try.prog w base (fun _ => true) held n 22 cs = some x) (hw : ∀ m ∈ x.1.weights Try.prog 22, m ≤ reachBytes) :
    ∃ (A : Option Addr) (c : Nat) (l : List It), cs = [.slice A l.length c] ∧ l.length ≤ c ∧ c ≤ maxLen ∧ Rd w 2 A l.length (l.flatMap encI) ∧ BdL l := by
  obtain ⟨A, c, zs, hcs, hz1, hzb, hz2, _, hz3, hz4⟩ := open_list (α := It) (size := 2) Try.underlying22 (by kernel_rfl) (by omega) encI BdIt (fun _ => rfl) (fun n cs x hx hwx => elItem hx hwx) h hw
  have hbo : zs.length ≤ 140737488355328 := by have hc : c * 24 ≤ 140737488351232 := hzb; omega
  exact ⟨A, c, zs, hcs, hz1, hz2, hz3, hz4, by omega⟩
set_option maxRecDepth 100000 in
theorem open_ask {v : Value} {b0 : Nat} {d : DataW H} {p : List MemPlace} (hv : Value.okWide Try.prog w .any b0 24 v) (h : DataW.Trod enc Try.prog w base (fun _ => true) held 24 v d p) (hw : ∀ m ∈ d.weights Try.prog 24, m ≤ reachBytes) :
    ∃ (a : Ak) (A : Option Addr) (c : Nat), v = akV a (.slice A a.items.length c) ∧ Rd w 2 A a.items.length (a.items.flatMap encI) ∧ BdA a := by
  obtain ⟨cs, rfl, hsz⟩ := okWide_struct Try.underlying24 hv
  obtain ⟨l⟩ := cs
  have hsz9 : l.length = 9 := hsz.trans (by kernel_rfl)
  match l, hsz9 with
  | [c0, c1, c2, c3, c4, c5, c6, c7, c8], _ =>
    obtain ⟨fuel, hf⟩ := h
    obtain ⟨xs, n, _, hx, _, hlen, hg⟩ := DataW.trod_struct Try.underlying24 hf
    match xs, hlen with
    | [y0, y1, y2, y3, y4, y5, y6, y7, y8], _ =>
      have hd : d = .agg [y0.1, y1.1, y2.1, y3.1, y4.1, y5.1, y6.1, y7.1, y8.1] := by simpa using congrArg Prod.fst hx
      have e0 := hg 0 _ rfl
      have e1 := hg 1 _ rfl
      have e2 := hg 2 _ rfl
      have e3 := hg 3 _ rfl
      have e4 := hg 4 _ rfl
      have e5 := hg 5 _ rfl
      have e6 := hg 6 _ rfl
      have e7 := hg 7 _ rfl
      have e8 := hg 8 _ rfl
      obtain ⟨k0, q0, hk0⟩ := trod_i64 (cs := [c0]) Try.underlying3 (x := y0) e0
      obtain ⟨k1, q1, hk1⟩ := trod_i64 (cs := [c1]) Try.underlying3 (x := y1) e1
      obtain ⟨k2, q2, hk2⟩ := trod_i64 (cs := [c2]) Try.underlying3 (x := y2) e2
      obtain ⟨k3, q3, hk3⟩ := trod_i64 (cs := [c3]) Try.underlying3 (x := y3) e3
      obtain ⟨k4, q4, hk4⟩ := trod_i64 (cs := [c4]) Try.underlying3 (x := y4) e4
      obtain ⟨k5, q5, hk5⟩ := trod_i64 (cs := [c5]) Try.underlying3 (x := y5) e5
      obtain ⟨k6, q6, hk6⟩ := trod_i64 (cs := [c6]) Try.underlying3 (x := y6) e6
      obtain ⟨sg, q7, hgood⟩ := trod_str (cs := [c7]) (x := y7) Try.underlying9 e7 (fun q hq => hw q (by rw [hd]; simp only [DataW.weights, Try.underlying24]; exact DataW.weights_mem_each (j := 7) rfl rfl q hq))
      obtain ⟨A, cc, zs, q8, hz1, hz2, hz3, hz4⟩ := elItems (cs := [c8]) (x := y8) e8 (fun q hq => hw q (by rw [hd]; simp only [DataW.weights, Try.underlying24]; exact DataW.weights_mem_each (j := 8) rfl rfl q hq))
      simp only [List.cons.injEq, and_true] at q0 q1 q2 q3 q4 q5 q6 q7 q8
      exact ⟨⟨k0, k1, k2, k3, k4, k5, k6, sg, zs⟩, A, cc, by simp [akV, q0, q1, q2, q3, q4, q5, q6, q7, q8], hz3, ⟨hk0, hk1, hk2, hk3, hk4, hk5, hk6, hgood, hz4⟩⟩
end
end Go.Proofs.Ytjgdcdojigcefaa
