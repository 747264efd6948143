/- Joined: How a request that came in by value is opened. How a mail that came in by value is opened. The law MailSame: the walk. -/
import Derived.Test.YtpccbobomppdbaaZM10
import Derived.Test.YtpccbobomppdbaaZM27
import Derived.Test.YtpccbobomppdbaaZM13
namespace Go.Proofs.Ytpccbobomppdbaa
open Go.ChangeShapes Go.WideShapes Go.ChangeAt Go.RowKit Go.Deep

def In64 (n : Int) : Prop := -9223372036854775808 ≤ n ∧ n ≤ 9223372036854775807
/-- What a request that came in is known to keep to. -/
structure BdA (a : Ak) : Prop where
  client : In64 a.client
  number : In64 a.number
  kind : In64 a.kind
  order : In64 a.order
  region : In64 a.region
  to : In64 a.to
  n : In64 a.n
  good : a.good.size ≤ 140737488351232
  items : BdL a.items
section
variable {H : Type} {enc : TypeId × Value → H} {w : World} {base : Nat} {held : Bool}
set_option maxRecDepth 100000 in
theorem elItem {n : Nat} {cs : List Value} {x : DataW H × List MemPlace} (h : DataW.trod enc Try.prog w base (fun _ => true) held n 46 cs = some x) (hw : ∀ m ∈ x.1.weights Try.prog 46, m ≤ reachBytes) :
    ∃ z : It, cs = encI z ∧ BdIt z := by
  obtain ⟨xs, n', _, hx, hcl, hlen, hg⟩ := DataW.trod_struct Try.underlying46 h
  have hcl' : cs.length = 2 := hcl.trans (by kernel_rfl)
  match cs, hcl', xs, hlen with
  | [c0, c1], _, [y0, y1], _ =>
    have e0 := hg 0 _ rfl
    have e1 := hg 1 _ rfl
    obtain ⟨s, e0, hs⟩ := trod_str (cs := [c0]) (x := y0) Try.underlying9 e0 (fun q hq => hw q (by rw [hx]; simp [DataW.weights, DataW.weightsEach, Try.underlying46]; exact .inl hq))
    obtain ⟨k, e1, hk⟩ := trod_i64 (cs := [c1]) Try.underlying3 (x := y1) e1
    simp only [List.cons.injEq, and_true] at e0 e1
    exact ⟨⟨s, k⟩, by simp [e0, e1, encI], by show s.size ≤ _; omega, hk⟩
set_option maxRecDepth 100000 in
theorem elItems {n : Nat} {cs : List Value} {x : DataW H × List MemPlace} (h : DataW.trod enc Try.prog w base (fun _ => true) held n 22 cs = some x) (hw : ∀ m ∈ x.1.weights Try.prog 22, m ≤ reachBytes) :
    ∃ (A : Option Addr) (c : Nat) (l : List It), cs = [.slice A l.length c] ∧ l.length ≤ c ∧ c ≤ maxLen ∧ Rd w 2 A l.length (l.flatMap encI) ∧ BdL l := by
  obtain ⟨A, c, zs, hcs, hz1, hzb, hz2, _, hz3, hz4⟩ := open_list (α := It) (size := 2) Try.underlying22 (by kernel_rfl) (by omega) encI BdIt (fun _ => rfl) (fun n cs x hx hwx => elItem hx hwx) h hw
  have hbo : zs.length ≤ 140737488355328 := by have hc : c * 24 ≤ 140737488351232 := hzb; omega
  exact ⟨A, c, zs, hcs, hz1, hz2, hz3, hz4, by omega⟩
set_option maxRecDepth 100000 in
theorem open_ask {v : Value} {b0 : Nat} {d : DataW H} {p : List MemPlace} (hv : Value.okWide Try.prog w .any b0 24 v) (h : DataW.Trod enc Try.prog w base (fun _ => true) held 24 v d p) (hw : ∀ m ∈ d.weights Try.prog 24, m ≤ reachBytes) :
    ∃ (a : Ak) (A : Option Addr) (c : Nat), v = akV a (.slice A a.items.length c) ∧ Rd w 2 A a.items.length (a.items.flatMap encI) ∧ BdA a := by
  obtain ⟨cs, rfl, hsz⟩ := okWide_struct Try.underlying24 hv
  obtain ⟨l⟩ := cs
  have hsz9 : l.length = 9 := hsz.trans (by kernel_rfl)
  match l, hsz9 with
  | [c0, c1, c2, c3, c4, c5, c6, c7, c8], _ =>
    obtain ⟨fuel, hf⟩ := h
    obtain ⟨xs, n, _, hx, _, hlen, hg⟩ := DataW.trod_struct Try.underlying24 hf
    match xs, hlen with
    | [y0, y1, y2, y3, y4, y5, y6, y7, y8], _ =>
      have hd : d = .agg [y0.1, y1.1, y2.1, y3.1, y4.1, y5.1, y6.1, y7.1, y8.1] := by simpa using congrArg Prod.fst hx
      have e0 := hg 0 _ rfl
      have e1 := hg 1 _ rfl
      have e2 := hg 2 _ rfl
      have e3 := hg 3 _ rfl
      have e4 := hg 4 _ rfl
      have e5 := hg 5 _ rfl
      have e6 := hg 6 _ rfl
      have e7 := hg 7 _ rfl
      have e8 := hg 8 _ rfl
      obtain ⟨k0, q0, hk0⟩ := trod_i64 (cs := [c0]) Try.underlying3 (x := y0) e0
      obtain ⟨k1, q1, hk1⟩ := trod_i64 (cs := [c1]) Try.underlying3 (x := y1) e1
      obtain ⟨k2, q2, hk2⟩ := trod_i64 (cs := [c2]) Try.underlying3 (x := y2) e2
      obtain ⟨k3, q3, hk3⟩ := trod_i64 (cs := [c3]) Try.underlying3 (x := y3) e3
      obtain ⟨k4, q4, hk4⟩ := trod_i64 (cs := [c4]) Try.underlying3 (x := y4) e4
      obtain ⟨k5, q5, hk5⟩ := trod_i64 (cs := [c5]) Try.underlying3 (x := y5) e5
      obtain ⟨k6, q6, hk6⟩ := trod_i64 (cs := [c6]) Try.underlying3 (x := y6) e6
      obtain ⟨sg, q7, hgood⟩ := trod_str (cs := [c7]) (x := y7) Try.underlying9 e7 (fun q hq => hw q (by rw [hd]; simp only [DataW.weights, Try.underlying24]; exact DataW.weights_mem_each (j := 7) rfl rfl q hq))
      obtain ⟨A, cc, zs, q8, hz1, hz2, hz3, hz4⟩ := elItems (cs := [c8]) (x := y8) e8 (fun q hq => hw q (by rw [hd]; simp only [DataW.weights, Try.underlying24]; exact DataW.weights_mem_each (j := 8) rfl rfl q hq))
      simp only [List.cons.injEq, and_true] at q0 q1 q2 q3 q4 q5 q6 q7 q8
      exact ⟨⟨k0, k1, k2, k3, k4, k5, k6, sg, zs⟩, A, cc, by simp [akV, q0, q1, q2, q3, q4, q5, q6, q7, q8], hz3, ⟨hk0, hk1, hk2, hk3, hk4, hk5, hk6, hgood, hz4⟩⟩
end
end Go.Proofs.Ytpccbobomppdbaa

namespace Go.Proofs.Ytpccbobomppdbaa
open Go.ChangeShapes Go.WideShapes Go.ChangeAt Go.RowKit Go.Deep

/-- A request's cells. -/
def akC (a : Ak) (v : Value) : List Value := [.int .i64 a.client, .int .i64 a.number, .int .i64 a.kind, .int .i64 a.order, .int .i64 a.region, .int .i64 a.to, .int .i64 a.n, .string a.good, v]
/-- What a mail that came in is known to keep to. -/
structure BdM (m : Ml) : Prop where
  kind : In64 m.kind
  order : In64 m.order
  items : BdL m.items
  ask : BdA m.ask
  yc : In64 m.yc
  yn : In64 m.yn
  yd : In64 m.yd
  yN : In64 m.yN
  li : m.items.length ≤ 140737488355328
  lk : m.ask.items.length ≤ 140737488355328
section
variable {H : Type} {enc : TypeId × Value → H} {w : World} {base : Nat} {held : Bool}
set_option maxRecDepth 100000 in
theorem elItemsM {n : Nat} {cs : List Value} {x : DataW H × List MemPlace} (h : DataW.trod enc Try.prog w base (fun _ => true) held n 22 cs = some x) (hw : ∀ m ∈ x.1.weights Try.prog 22, m ≤ reachBytes) :
    ∃ (A : Option Addr) (c : Nat) (l : List It), cs = [.slice A l.length c] ∧ Rd w 2 A l.length (l.flatMap encI) ∧ BdL l ∧ l.length ≤ 140737488355328 := by
  obtain ⟨A, c, zs, hcs, hz1, hzb, _, _, hz3, hz4⟩ := open_list (α := It) (size := 2) Try.underlying22 (by kernel_rfl) (by omega) encI BdIt (fun _ => rfl) (fun n cs x hx hwx => elItem hx hwx) h hw
  have hbo : zs.length ≤ 140737488355328 := by have hc : c * 24 ≤ 140737488351232 := hzb; omega
  exact ⟨A, c, zs, hcs, hz3, ⟨hz4, by omega⟩, hbo⟩
set_option maxRecDepth 100000 in
theorem elAsk {n : Nat} {cs : List Value} {x : DataW H × List MemPlace} (h : DataW.trod enc Try.prog w base (fun _ => true) held n 24 cs = some x) (hw : ∀ m ∈ x.1.weights Try.prog 24, m ≤ reachBytes) :
    ∃ (a : Ak) (A : Option Addr) (c : Nat), cs = akC a (.slice A a.items.length c) ∧ Rd w 2 A a.items.length (a.items.flatMap encI) ∧ BdA a ∧ a.items.length ≤ 140737488355328 := by
  obtain ⟨xs, n', _, hx, hcl, hlen, hg⟩ := DataW.trod_struct Try.underlying24 h
  have hcl' : cs.length = 9 := hcl.trans (by kernel_rfl)
  match cs, hcl', xs, hlen with
  | [c0, c1, c2, c3, c4, c5, c6, c7, c8], _, [y0, y1, y2, y3, y4, y5, y6, y7, y8], _ =>
    have e0 := hg 0 _ rfl
    have e1 := hg 1 _ rfl
    have e2 := hg 2 _ rfl
    have e3 := hg 3 _ rfl
    have e4 := hg 4 _ rfl
    have e5 := hg 5 _ rfl
    have e6 := hg 6 _ rfl
    have e7 := hg 7 _ rfl
    have e8 := hg 8 _ rfl
    obtain ⟨k0, q0, hk0⟩ := trod_i64 (cs := [c0]) Try.underlying3 (x := y0) e0
    obtain ⟨k1, q1, hk1⟩ := trod_i64 (cs := [c1]) Try.underlying3 (x := y1) e1
    obtain ⟨k2, q2, hk2⟩ := trod_i64 (cs := [c2]) Try.underlying3 (x := y2) e2
    obtain ⟨k3, q3, hk3⟩ := trod_i64 (cs := [c3]) Try.underlying3 (x := y3) e3
    obtain ⟨k4, q4, hk4⟩ := trod_i64 (cs := [c4]) Try.underlying3 (x := y4) e4
    obtain ⟨k5, q5, hk5⟩ := trod_i64 (cs := [c5]) Try.underlying3 (x := y5) e5
    obtain ⟨k6, q6, hk6⟩ := trod_i64 (cs := [c6]) Try.underlying3 (x := y6) e6
    obtain ⟨sg, q7, hgood⟩ := trod_str (cs := [c7]) (x := y7) Try.underlying9 e7 (fun q hq => hw q (by rw [hx]; simp only [DataW.weights, Try.underlying24]; exact DataW.weights_mem_each (j := 7) rfl rfl q hq))
    obtain ⟨A, cc, zs, q8, hz3, hz4, hz5⟩ := elItemsM (cs := [c8]) (x := y8) e8 (fun q hq => hw q (by rw [hx]; simp only [DataW.weights, Try.underlying24]; exact DataW.weights_mem_each (j := 8) rfl rfl q hq))
    simp only [List.cons.injEq, and_true] at q0 q1 q2 q3 q4 q5 q6 q7 q8
    exact ⟨⟨k0, k1, k2, k3, k4, k5, k6, sg, zs⟩, A, cc, by simp [akC, q0, q1, q2, q3, q4, q5, q6, q7, q8], hz3, ⟨hk0, hk1, hk2, hk3, hk4, hk5, hk6, hgood, hz4⟩, hz5⟩
set_option maxRecDepth 100000 in
theorem elAns {n : Nat} {cs : List Value} {x : DataW H × List MemPlace} (h : DataW.trod enc Try.prog w base (fun _ => true) held n 27 cs = some x) :
    ∃ a b c d : Int, cs = [.int .i64 a, .int .i64 b, .int .i64 c, .int .i64 d] ∧ In64 a ∧ In64 b ∧ In64 c ∧ In64 d := by
  obtain ⟨xs, n', _, hx, hcl, hlen, hg⟩ := DataW.trod_struct Try.underlying27 h
  have hcl' : cs.length = 4 := hcl.trans (by kernel_rfl)
  match cs, hcl', xs, hlen with
  | [c0, c1, c2, c3], _, [y0, y1, y2, y3], _ =>
    have e0 := hg 0 _ rfl
    have e1 := hg 1 _ rfl
    have e2 := hg 2 _ rfl
    have e3 := hg 3 _ rfl
    obtain ⟨k0, q0, hk0⟩ := trod_i64 (cs := [c0]) Try.underlying3 (x := y0) e0
    obtain ⟨k1, q1, hk1⟩ := trod_i64 (cs := [c1]) Try.underlying3 (x := y1) e1
    obtain ⟨k2, q2, hk2⟩ := trod_i64 (cs := [c2]) Try.underlying25 (x := y2) e2
    obtain ⟨k3, q3, hk3⟩ := trod_i64 (cs := [c3]) Try.underlying3 (x := y3) e3
    simp only [List.cons.injEq, and_true] at q0 q1 q2 q3
    exact ⟨k0, k1, k2, k3, by simp [q0, q1, q2, q3], hk0, hk1, hk2, hk3⟩
set_option maxRecDepth 100000 in
theorem open_mail {v : Value} {b0 : Nat} {d : DataW H} {p : List MemPlace} (hv : Value.okWide Try.prog w .any b0 29 v) (h : DataW.Trod enc Try.prog w base (fun _ => true) held 29 v d p) (hw : ∀ m ∈ d.weights Try.prog 29, m ≤ reachBytes) :
    ∃ (m : Ml) (A : Option Addr) (c : Nat) (A' : Option Addr) (c' : Nat), v = mlV m (.slice A m.items.length c) (.slice A' m.ask.items.length c') ∧ Rd w 2 A m.items.length (m.items.flatMap encI) ∧ Rd w 2 A' m.ask.items.length (m.ask.items.flatMap encI) ∧ BdM m := by
  obtain ⟨cs, rfl, hsz⟩ := okWide_struct Try.underlying29 hv
  obtain ⟨l⟩ := cs
  have hsz16 : l.length = 16 := hsz.trans (by kernel_rfl)
  match l, hsz16 with
  | [c0, c1, c2, c3, c4, c5, c6, c7, c8, c9, c10, c11, c12, c13, c14, c15], _ =>
    obtain ⟨fuel, hf⟩ := h
    obtain ⟨xs, n, _, hx, _, hlen, hg⟩ := DataW.trod_struct Try.underlying29 hf
    match xs, hlen with
    | [y0, y1, y2, y3, y4], _ =>
      have hd : d = .agg [y0.1, y1.1, y2.1, y3.1, y4.1] := by simpa using congrArg Prod.fst hx
      have e0 := hg 0 _ rfl
      have e1 := hg 1 _ rfl
      have e2 := hg 2 _ rfl
      have e3 := hg 3 _ rfl
      have e4 := hg 4 _ rfl
      obtain ⟨k0, q0, hk0⟩ := trod_i64 (cs := [c0]) Try.underlying3 (x := y0) e0
      obtain ⟨k1, q1, hk1⟩ := trod_i64 (cs := [c1]) Try.underlying3 (x := y1) e1
      obtain ⟨A, c, zs, q2, hz3, hz4, hz5⟩ := elItemsM (cs := [c2]) (x := y2) e2 (fun q hq => hw q (by rw [hd]; simp only [DataW.weights, Try.underlying29]; exact DataW.weights_mem_each (j := 2) rfl rfl q hq))
      obtain ⟨a, A', c', q3, hr, ba, hz6⟩ := elAsk (cs := [c3, c4, c5, c6, c7, c8, c9, c10, c11]) (x := y3) e3 (fun q hq => hw q (by rw [hd]; simp only [DataW.weights, Try.underlying29]; exact DataW.weights_mem_each (j := 3) rfl rfl q hq))
      obtain ⟨r0, r1, r2, r3, q4, hr0, hr1, hr2, hr3⟩ := elAns (cs := [c12, c13, c14, c15]) (x := y4) e4
      unfold akC at q3
      simp only [List.cons.injEq, and_true] at q0 q1 q2 q3 q4
      exact ⟨⟨k0, k1, zs, a, r0, r1, r2, r3⟩, A, c, A', c', by simp [mlV, q0, q1, q2, q3, q4], hz3, hr, ⟨hk0, hk1, hz4, ba, hr0, hr1, hr2, hr3, hz5, hz6⟩⟩
end
end Go.Proofs.Ytpccbobomppdbaa

namespace Go.Proofs.Ytpccbobomppdbaa
open Go.RowKit

/-- What Encode answers. -/
def codeM (m : Ml) : List Nat := if mayM m = true then encM m else []
theorem codeM_lt (m : Ml) : ∀ x ∈ codeM m, x < 256 := by
  unfold codeM
  split
  · exact encM_lt m
  · simp
theorem mencE_any (m : Ml) (A : Option Addr) (c : Nat) (A' : Option Addr) (c' : Nat) (w : World) (hr : Rd w 2 A m.items.length (m.items.flatMap encI)) (hr' : Rd w 2 A' m.ask.items.length (m.ask.items.flatMap encI)) (hb : BdM m) :
    Calls Try.prog 8 #[mlV m (.slice A m.items.length c) (.slice A' m.ask.items.length c')] w fun e W => ∃ v, e = .returned (.tuple #[v, .int .i64 (if mayM m = true then 0 else 1)]) ∧ Bs W v (codeM m) ∧ Below w.heap.size w W := by
  have hg : m.ask.good.size ≤ 9223372036854775807 := by have := hb.ask.good; omega
  cases hm : mayM m
  · refine (menc_no m A c A' c' w hr hr' hb.items hb.ask.items hg hm).mono ?_
    rintro e W ⟨rfl, hb⟩
    exact ⟨_, rfl, by unfold codeM; rw [hm]; exact bs_nilA _, hb⟩
  · refine (menc_ok m A c A' c' w hr hr' hb.items hb.ask.items hg hm hb.yN).mono ?_
    rintro e W ⟨v, rfl, hv, hb⟩
    exact ⟨v, rfl, by unfold codeM; rw [hm]; exact hv, hb⟩
set_option maxRecDepth 100000 in
set_option maxHeartbeats 4000000 in
theorem msl_any (a b : Ml) (A : Option Addr) (c : Nat) (A' : Option Addr) (c' : Nat) (B : Option Addr) (d : Nat) (B' : Option Addr) (d' : Nat) (w : World) (hr : Rd w 2 A a.items.length (a.items.flatMap encI)) (hr' : Rd w 2 A' a.ask.items.length (a.ask.items.flatMap encI)) (hs : Rd w 2 B b.items.length (b.items.flatMap encI)) (hs' : Rd w 2 B' b.ask.items.length (b.ask.items.flatMap encI)) (ba : BdM a) (bb : BdM b) :
    Calls Try.prog 3 #[mlV a (.slice A a.items.length c) (.slice A' a.ask.items.length c'), mlV b (.slice B b.items.length d) (.slice B' b.ask.items.length d')] w fun e W => e = .returned (.bool true) ∧ Below w.heap.size w W := by
  have HEA := Lib.hid (fun W (hW : Below w.heap.size w W) => mencE_any a A c A' c' W (hr.below hW) (hr'.below hW) ba)
  have HEB := Lib.hid (fun W (hW : Below w.heap.size w W) => mencE_any b B d B' d' W (hs.below hW) (hs'.below hW) bb)
  have HXS := Lib.hid (fun W (hW : Below w.heap.size w W) => xmsame_any a b A A' c c' B B' d d' W (hr.below hW) (hr'.below hW) (hs.below hW) (hs'.below hW) ba.items.2 ba.ask.items.2)
  have HAS := Lib.hid (fun W (hW : Below w.heap.size w W) => msame_any a b A A' c c' B B' d d' W (hr.below hW) (hr'.below hW) (hs.below hW) (hs'.below hW) ba.items.2 ba.ask.items.2)
  have HAA := Lib.hid (fun W (hW : Below w.heap.size w W) => msame_any a a A A' c c' A A' c c' W (hr.below hW) (hr'.below hW) (hr.below hW) (hr'.below hW) ba.items.2 ba.ask.items.2)
  rw [eqM_iff.2 (rfl : a = a)] at HAA
  have HBA := Lib.hid (codeM_lt a)
  have HBB := Lib.hid (codeM_lt b)
  have HQ : Hid (mayM a = true → mayM b = true → ((strOf (codeM a)).toList == (strOf (codeM b)).toList) = eqM a b) := Lib.hid (fun h1 h2 => by
    rw [strOf_beq (codeM_lt a) (codeM_lt b), Bool.eq_iff_iff, eqM_iff, decide_eq_true_eq]
    unfold codeM
    rw [if_pos h1, if_pos h2]
    exact ⟨fun e => encM_inj h1 h2 ba.yN bb.yN e, fun e => by rw [e]⟩)
  obtain ⟨S, hS⟩ : ∃ S, eqM a b = S := ⟨_, rfl⟩
  rw [hS] at HXS HAS HQ
  have hl1 := ba.li
  have hl2 := bb.li
  have hl3 := ba.lk
  have hl4 := bb.lk
  obtain ⟨la, hla⟩ : ∃ l, a.items.length = l := ⟨_, rfl⟩
  obtain ⟨lb, hlb⟩ : ∃ l, b.items.length = l := ⟨_, rfl⟩
  obtain ⟨ka, hka⟩ : ∃ l, a.ask.items.length = l := ⟨_, rfl⟩
  obtain ⟨kb, hkb⟩ : ∃ l, b.ask.items.length = l := ⟨_, rfl⟩
  rw [hla] at HEA HXS HAS HAA hl1 ⊢
  rw [hlb] at HEB HXS HAS hl2 ⊢
  rw [hka] at HEA HXS HAS HAA hl3 ⊢
  rw [hkb] at HEB HXS HAS hl4 ⊢
  clear hS hla hlb hka hkb hr hs hr' hs' ba bb
  show Calls Try.prog 3 #[.agg #[.int .i64 a.kind, .int .i64 a.order, .slice A la c, .int .i64 a.ask.client, .int .i64 a.ask.number, .int .i64 a.ask.kind, .int .i64 a.ask.order, .int .i64 a.ask.region, .int .i64 a.ask.to, .int .i64 a.ask.n, .string a.ask.good, .slice A' ka c', .int .i64 a.yc, .int .i64 a.yn, .int .i64 a.yd, .int .i64 a.yN], .agg #[.int .i64 b.kind, .int .i64 b.order, .slice B lb d, .int .i64 b.ask.client, .int .i64 b.ask.number, .int .i64 b.ask.kind, .int .i64 b.ask.order, .int .i64 b.ask.region, .int .i64 b.ask.to, .int .i64 b.ask.n, .string b.ask.good, .slice B' kb d', .int .i64 b.yc, .int .i64 b.yn, .int .i64 b.yd, .int .i64 b.yN]] w _
  obtain ⟨W2, hW2⟩ : ∃ W2, ((w.alloc (.cells #[.int .i64 a.kind, .int .i64 a.order, .slice A la c, .int .i64 a.ask.client, .int .i64 a.ask.number, .int .i64 a.ask.kind, .int .i64 a.ask.order, .int .i64 a.ask.region, .int .i64 a.ask.to, .int .i64 a.ask.n, .string a.ask.good, .slice A' ka c', .int .i64 a.yc, .int .i64 a.yn, .int .i64 a.yd, .int .i64 a.yN] 29)).alloc (.cells #[.int .i64 b.kind, .int .i64 b.order, .slice B lb d, .int .i64 b.ask.client, .int .i64 b.ask.number, .int .i64 b.ask.kind, .int .i64 b.ask.order, .int .i64 b.ask.region, .int .i64 b.ask.to, .int .i64 b.ask.n, .string b.ask.good, .slice B' kb d', .int .i64 b.yc, .int .i64 b.yn, .int .i64 b.yd, .int .i64 b.yN] 29)) = W2 := ⟨_, rfl⟩
  have ka0 := block_alloc (block_new w (.cells #[.int .i64 a.kind, .int .i64 a.order, .slice A la c, .int .i64 a.ask.client, .int .i64 a.ask.number, .int .i64 a.ask.kind, .int .i64 a.ask.order, .int .i64 a.ask.region, .int .i64 a.ask.to, .int .i64 a.ask.n, .string a.ask.good, .slice A' ka c', .int .i64 a.yc, .int .i64 a.yn, .int .i64 a.yd, .int .i64 a.yN] 29)) (.cells #[.int .i64 b.kind, .int .i64 b.order, .slice B lb d, .int .i64 b.ask.client, .int .i64 b.ask.number, .int .i64 b.ask.kind, .int .i64 b.ask.order, .int .i64 b.ask.region, .int .i64 b.ask.to, .int .i64 b.ask.n, .string b.ask.good, .slice B' kb d', .int .i64 b.yc, .int .i64 b.yn, .int .i64 b.yd, .int .i64 b.yN] 29)
  have kb0 := block_new (w.alloc (.cells #[.int .i64 a.kind, .int .i64 a.order, .slice A la c, .int .i64 a.ask.client, .int .i64 a.ask.number, .int .i64 a.ask.kind, .int .i64 a.ask.order, .int .i64 a.ask.region, .int .i64 a.ask.to, .int .i64 a.ask.n, .string a.ask.good, .slice A' ka c', .int .i64 a.yc, .int .i64 a.yn, .int .i64 a.yd, .int .i64 a.yN] 29)) (.cells #[.int .i64 b.kind, .int .i64 b.order, .slice B lb d, .int .i64 b.ask.client, .int .i64 b.ask.number, .int .i64 b.ask.kind, .int .i64 b.ask.order, .int .i64 b.ask.region, .int .i64 b.ask.to, .int .i64 b.ask.n, .string b.ask.good, .slice B' kb d', .int .i64 b.yc, .int .i64 b.yn, .int .i64 b.yd, .int .i64 b.yN] 29)
  have hb0 := ((Below.refl _ w).alloc (Nat.le_refl _) (.cells #[.int .i64 a.kind, .int .i64 a.order, .slice A la c, .int .i64 a.ask.client, .int .i64 a.ask.number, .int .i64 a.ask.kind, .int .i64 a.ask.order, .int .i64 a.ask.region, .int .i64 a.ask.to, .int .i64 a.ask.n, .string a.ask.good, .slice A' ka c', .int .i64 a.yc, .int .i64 a.yn, .int .i64 a.yd, .int .i64 a.yN] 29)).alloc (by simp) (.cells #[.int .i64 b.kind, .int .i64 b.order, .slice B lb d, .int .i64 b.ask.client, .int .i64 b.ask.number, .int .i64 b.ask.kind, .int .i64 b.ask.order, .int .i64 b.ask.region, .int .i64 b.ask.to, .int .i64 b.ask.n, .string b.ask.good, .slice B' kb d', .int .i64 b.yc, .int .i64 b.yn, .int .i64 b.yd, .int .i64 b.yN] 29)
  simp only [World.size_alloc] at kb0
  have kA := ka0
  have kB := kb0
  rw [hW2] at ka0 kb0 hb0
  have HB2 := Lib.hid hb0
  have HCA : Hid (∀ W, Below W2.heap.size W2 W → W.heap[w.heap.size]? = some (.cells #[.int .i64 a.kind, .int .i64 a.order, .slice A la c, .int .i64 a.ask.client, .int .i64 a.ask.number, .int .i64 a.ask.kind, .int .i64 a.ask.order, .int .i64 a.ask.region, .int .i64 a.ask.to, .int .i64 a.ask.n, .string a.ask.good, .slice A' ka c', .int .i64 a.yc, .int .i64 a.yn, .int .i64 a.yd, .int .i64 a.yN] 29 (0, 0))) := Lib.hid (fun W hW => (hW.block _ (lt_of_block ka0)).trans ka0)
  have HCB : Hid (∀ W, Below W2.heap.size W2 W → W.heap[w.heap.size + 1]? = some (.cells #[.int .i64 b.kind, .int .i64 b.order, .slice B lb d, .int .i64 b.ask.client, .int .i64 b.ask.number, .int .i64 b.ask.kind, .int .i64 b.ask.order, .int .i64 b.ask.region, .int .i64 b.ask.to, .int .i64 b.ask.n, .string b.ask.good, .slice B' kb d', .int .i64 b.yc, .int .i64 b.yn, .int .i64 b.yd, .int .i64 b.yN] 29 (0, 0))) := Lib.hid (fun W hW => (hW.block _ (lt_of_block kb0)).trans kb0)
  have HW2 := Lib.hid hW2
  have ra2 := cell_at kA 2
  have ra11 := cell_at kA 11
  have rb2 := cell_at kB 2
  have rb11 := cell_at kB 11
  clear hW2 ka0 kb0 hb0
  go_enter Try.func3, Try.ntmps3
  by_cases h1 : 200 < la + lb + ka + kb
  · have h1i : (200 : Int) < la + lb + ka + kb := by omega
    go_wp2_with fail
    rw [HW2.out]
    refine (mlives_any W2).mono ?_
    rintro e w3 ⟨rfl, hb⟩
    have HC3 := Lib.hid hb
    clear hb
    go_wp2
    go_ret
    exact ⟨ret_bool (by simp), HB2.out.trans (HC3.out.mono HB2.out.size)⟩
  have h1i : ¬ (200 : Int) < la + lb + ka + kb := by omega
  go_wp2_with (first | (refine mail_load (by rfl) (.tmp 2) rfl _ rfl #[.int .i64 a.kind, .int .i64 a.order, .slice A la c, .int .i64 a.ask.client, .int .i64 a.ask.number, .int .i64 a.ask.kind, .int .i64 a.ask.order, .int .i64 a.ask.region, .int .i64 a.ask.to, .int .i64 a.ask.n, .string a.ask.good, .slice A' ka c', .int .i64 a.yc, .int .i64 a.yn, .int .i64 a.yd, .int .i64 a.yN] (kA) rfl ?_) | (refine mail_load (by rfl) (.tmp 3) rfl _ rfl #[.int .i64 b.kind, .int .i64 b.order, .slice B lb d, .int .i64 b.ask.client, .int .i64 b.ask.number, .int .i64 b.ask.kind, .int .i64 b.ask.order, .int .i64 b.ask.region, .int .i64 b.ask.to, .int .i64 b.ask.n, .string b.ask.good, .slice B' kb d', .int .i64 b.yc, .int .i64 b.yn, .int .i64 b.yd, .int .i64 b.yN] (kB) rfl ?_))
  rw [HW2.out]
  clear kA kB ra2 ra11 rb2 rb11
  refine (HEA.out W2 HB2.out).mono ?_
  rintro e w3 ⟨x1, rfl, hx1, hb⟩
  obtain ⟨MA, hMA⟩ : ∃ MA, mayM a = MA := ⟨_, rfl⟩
  rw [hMA]
  have HMA := Lib.hid hMA
  obtain ⟨E1, hE1⟩ : ∃ E1 : Int, (if MA = true then 0 else 1) = E1 := ⟨_, rfl⟩
  rw [hE1]
  have HE1 := Lib.hid hE1
  have HX1 := Lib.hid hx1
  have HC3 := Lib.hid hb
  obtain ⟨A1, c1, rfl, q1, q2, q3⟩ := hx1
  clear hb hMA hE1 q1 q2 q3
  have kA := HCA.out w3 HC3.out
  have kB := HCB.out w3 HC3.out
  go_wp2_with (first | (refine mail_load (by rfl) (.tmp 2) rfl _ rfl #[.int .i64 a.kind, .int .i64 a.order, .slice A la c, .int .i64 a.ask.client, .int .i64 a.ask.number, .int .i64 a.ask.kind, .int .i64 a.ask.order, .int .i64 a.ask.region, .int .i64 a.ask.to, .int .i64 a.ask.n, .string a.ask.good, .slice A' ka c', .int .i64 a.yc, .int .i64 a.yn, .int .i64 a.yd, .int .i64 a.yN] (kA) rfl ?_) | (refine mail_load (by rfl) (.tmp 3) rfl _ rfl #[.int .i64 b.kind, .int .i64 b.order, .slice B lb d, .int .i64 b.ask.client, .int .i64 b.ask.number, .int .i64 b.ask.kind, .int .i64 b.ask.order, .int .i64 b.ask.region, .int .i64 b.ask.to, .int .i64 b.ask.n, .string b.ask.good, .slice B' kb d', .int .i64 b.yc, .int .i64 b.yn, .int .i64 b.yd, .int .i64 b.yN] (kB) rfl ?_))
  clear kA kB
  refine (HEB.out w3 (HB2.out.trans (HC3.out.mono HB2.out.size))).mono ?_
  rintro e w4 ⟨x2, rfl, hx2, hb⟩
  obtain ⟨MB, hMB⟩ : ∃ MB, mayM b = MB := ⟨_, rfl⟩
  rw [hMB]
  have HMB := Lib.hid hMB
  obtain ⟨E2, hE2⟩ : ∃ E2 : Int, (if MB = true then 0 else 1) = E2 := ⟨_, rfl⟩
  rw [hE2]
  have HE2 := Lib.hid hE2
  have HX2 := Lib.hid hx2
  have HX1 := Lib.hid (HX1.out.below hb)
  have HC4 := Lib.hid (HC3.out.trans (hb.mono HC3.out.size))
  obtain ⟨A2, c2, rfl, q1, q2, q3⟩ := hx2
  clear hb hMB hE2 q1 q2 q3
  rw [HMA.out, HMB.out] at HQ
  have kA := HCA.out w4 HC4.out
  have kB := HCB.out w4 HC4.out
  go_wp2_with (first | (refine mail_load (by rfl) (.tmp 2) rfl _ rfl #[.int .i64 a.kind, .int .i64 a.order, .slice A la c, .int .i64 a.ask.client, .int .i64 a.ask.number, .int .i64 a.ask.kind, .int .i64 a.ask.order, .int .i64 a.ask.region, .int .i64 a.ask.to, .int .i64 a.ask.n, .string a.ask.good, .slice A' ka c', .int .i64 a.yc, .int .i64 a.yn, .int .i64 a.yd, .int .i64 a.yN] (kA) rfl ?_) | (refine mail_load (by rfl) (.tmp 3) rfl _ rfl #[.int .i64 b.kind, .int .i64 b.order, .slice B lb d, .int .i64 b.ask.client, .int .i64 b.ask.number, .int .i64 b.ask.kind, .int .i64 b.ask.order, .int .i64 b.ask.region, .int .i64 b.ask.to, .int .i64 b.ask.n, .string b.ask.good, .slice B' kb d', .int .i64 b.yc, .int .i64 b.yn, .int .i64 b.yd, .int .i64 b.yN] (kB) rfl ?_))
  clear kA kB
  refine (HXS.out w4 (HB2.out.trans (HC4.out.mono HB2.out.size))).mono ?_
  rintro e w5 ⟨rfl, hb⟩
  have HX1 := Lib.hid (HX1.out.below hb)
  have HX2 := Lib.hid (HX2.out.below hb)
  have HC5 := Lib.hid (HC4.out.trans (hb.mono HC4.out.size))
  clear hb
  go_wp2_with fail
  refine (mlives_any w5).mono ?_
  rintro e w6 ⟨rfl, hb⟩
  have HX1 := Lib.hid (HX1.out.below hb)
  have HX2 := Lib.hid (HX2.out.below hb)
  have HC6 := Lib.hid (HC5.out.trans (hb.mono HC5.out.size))
  clear hb
  have kA := HCA.out w6 HC6.out
  have kB := HCB.out w6 HC6.out
  go_wp2_with (first | (refine mail_load (by rfl) (.tmp 2) rfl _ rfl #[.int .i64 a.kind, .int .i64 a.order, .slice A la c, .int .i64 a.ask.client, .int .i64 a.ask.number, .int .i64 a.ask.kind, .int .i64 a.ask.order, .int .i64 a.ask.region, .int .i64 a.ask.to, .int .i64 a.ask.n, .string a.ask.good, .slice A' ka c', .int .i64 a.yc, .int .i64 a.yn, .int .i64 a.yd, .int .i64 a.yN] (kA) rfl ?_) | (refine mail_load (by rfl) (.tmp 3) rfl _ rfl #[.int .i64 b.kind, .int .i64 b.order, .slice B lb d, .int .i64 b.ask.client, .int .i64 b.ask.number, .int .i64 b.ask.kind, .int .i64 b.ask.order, .int .i64 b.ask.region, .int .i64 b.ask.to, .int .i64 b.ask.n, .string b.ask.good, .slice B' kb d', .int .i64 b.yc, .int .i64 b.yn, .int .i64 b.yd, .int .i64 b.yN] (kB) rfl ?_))
  clear kA kB
  refine (HAS.out w6 (HB2.out.trans (HC6.out.mono HB2.out.size))).mono ?_
  rintro e w7 ⟨rfl, hb⟩
  have HX1 := Lib.hid (HX1.out.below hb)
  have HX2 := Lib.hid (HX2.out.below hb)
  have HC7 := Lib.hid (HC6.out.trans (hb.mono HC6.out.size))
  clear hb
  have kA := HCA.out w7 HC7.out
  have kB := HCB.out w7 HC7.out
  go_wp2_with (first | (refine mail_load (by rfl) (.tmp 2) rfl _ rfl #[.int .i64 a.kind, .int .i64 a.order, .slice A la c, .int .i64 a.ask.client, .int .i64 a.ask.number, .int .i64 a.ask.kind, .int .i64 a.ask.order, .int .i64 a.ask.region, .int .i64 a.ask.to, .int .i64 a.ask.n, .string a.ask.good, .slice A' ka c', .int .i64 a.yc, .int .i64 a.yn, .int .i64 a.yd, .int .i64 a.yN] (kA) rfl ?_) | (refine mail_load (by rfl) (.tmp 3) rfl _ rfl #[.int .i64 b.kind, .int .i64 b.order, .slice B lb d, .int .i64 b.ask.client, .int .i64 b.ask.number, .int .i64 b.ask.kind, .int .i64 b.ask.order, .int .i64 b.ask.region, .int .i64 b.ask.to, .int .i64 b.ask.n, .string b.ask.good, .slice B' kb d', .int .i64 b.yc, .int .i64 b.yn, .int .i64 b.yd, .int .i64 b.yN] (kB) rfl ?_))
  clear kA kB
  refine (HAA.out w7 (HB2.out.trans (HC7.out.mono HB2.out.size))).mono ?_
  rintro e w8 ⟨rfl, hb⟩
  have HX1 := Lib.hid (HX1.out.below hb)
  have HX2 := Lib.hid (HX2.out.below hb)
  have HC8 := Lib.hid (HC7.out.trans (hb.mono HC7.out.size))
  clear hb
  cases MA
  · obtain rfl : E1 = 1 := HE1.out.symm
    go_wp2
    go_ret
    exact ⟨ret_bool (by simp), HB2.out.trans (HC8.out.mono HB2.out.size)⟩
  cases MB
  · obtain rfl : E1 = 0 := HE1.out.symm
    obtain rfl : E2 = 1 := HE2.out.symm
    go_wp2
    go_ret
    exact ⟨ret_bool (by simp), HB2.out.trans (HC8.out.mono HB2.out.size)⟩
  obtain rfl : E1 = 0 := HE1.out.symm
  obtain rfl : E2 = 0 := HE2.out.symm
  obtain ⟨A1', c1', e1, _, _, r1⟩ := HX1.out
  cases e1
  obtain ⟨A2', c2', e2, _, _, r2⟩ := HX2.out
  cases e2
  obtain ⟨S1, hS1⟩ : ∃ S1, strOf (codeM a) = S1 := ⟨_, rfl⟩
  obtain ⟨S2, hS2⟩ : ∃ S2, strOf (codeM b) = S2 := ⟨_, rfl⟩
  have s1 := hS1 ▸ run_str w8 A1 _ c1 (codeM a) r1 HBA.out
  have s2 := hS2 ▸ run_str w8 A2 _ c2 (codeM b) r2 HBB.out
  have hq := HQ.out rfl rfl
  rw [hS1, hS2] at hq
  clear r1 r2 hS1 hS2
  go_wp2
  go_ret
  exact ⟨ret_bool (by simp), HB2.out.trans (HC8.out.mono HB2.out.size)⟩
end Go.Proofs.Ytpccbobomppdbaa
