/- items.All and its iterator: the items in order, one a round. -/
import Derived.RangeFuncNested
import Derived.RangeFuncBound
import Derived.RangeFuncCalls
import Derived.RangeFuncLeaves
import Derived.RangeFuncBox
import Derived.Shelf.Abstract
import Derived.Shelf.RegionOpen
import Derived.OwnWalkIn
import Derived.TacticsInMore
import Derived.LoopNIn
import Derived.LoopIn
import Derived.Test.YtjgdcdojigcefaaIGood
namespace Go.Proofs.Ytjgdcdojigcefaa
open Go.RowKit Go.Shelf
attribute [local go_sem] Oper.semAt_some

/-- An item whose text and number are in range. -/
def BdIt (z : It) : Prop := z.good.size ≤ 9223372036854775807 ∧ -9223372036854775808 ≤ z.n ∧ z.n ≤ 9223372036854775807
abbrev BIt : Type := { z : It // BdIt z }
theorem bits_of : ∀ {rs : List It}, (∀ z ∈ rs, BdIt z) → ∃ qs : List BIt, qs.map (·.1) = rs
  | [], _ => ⟨[], rfl⟩
  | z :: rs, h => by
    obtain ⟨qs, hq⟩ := bits_of (fun y hy => h y (by simp [hy]) : ∀ z ∈ rs, BdIt z)
    exact ⟨⟨z, h z (by simp)⟩ :: qs, by simp [hq]⟩
/-- What the iterator hands over a round. -/
def encRowI (z : BIt) : Array Value := #[.string z.1.good, .int .i64 z.1.n]

theorem all_any (A : Option Addr) (n c : Nat) (w : World) :
    Calls Try.prog 55 #[.slice A n c] w fun e w' => e = .returned (.func (.func 70) #[] #[.pointer (some ⟨w.heap.size, 0, none⟩)]) ∧ w.alloc (.cells #[.slice A n c] 22) = w' := by
  have hmf : ∀ (fn : Fn) (first cap : Array Value) (w : World), (Instr.makeFunc fn first cap).run Try.prog w = .ok (.func fn first cap) w := fun _ _ _ _ => rfl
  go_enter Try.func55, Try.ntmps55
  go_wp2
  go_ret
  exact ⟨rfl, rfl⟩

set_option maxRecDepth 100000 in
set_option maxHeartbeats 2000000 in
theorem all_iter (n n₀ Bx : Nat) (A : Option Addr) (c : Nat) (rs : List It) (qs : List BIt) (hq : qs.map (·.1) = rs) (w : World) (hb : w.cell? ⟨Bx, 0, none⟩ = some (.slice A rs.length c)) (hr : Rd w 2 A rs.length (rs.flatMap encI)) (hm : rs.length ≤ 4611686018427387903) (hn : 1 ≤ n) (hA : ∀ a, A = some a → 0 < rs.length → a.block < n₀) :
    SeqStopsK Fence.wide n Try.prog 70 #[.pointer (some ⟨Bx, 0, none⟩)] encRowI (Below n₀) (fun xs => xs = qs) (fun pre => pre <+: qs) rs.length w := fun l J Jx W hW hJ hJx hY h0 => by
  have hBn := World.block_lt_of_cell? w _ hb
  have hb' : W.cell? ⟨Bx, 0, none⟩ = some (.slice A rs.length c) := (hW.cell (p := ⟨Bx, 0, none⟩) hBn).trans hb
  have HRD := Lib.hid (hr.below hW)
  have HA := Lib.hid hA
  have hql : qs.length = rs.length := by rw [← hq]; simp
  have HQA : Hid (∀ k (h1 : k < qs.length) (h2 : k < rs.length), qs[k].1 = rs[k]) := Lib.hid (fun k h1 h2 => by simp only [← hq, List.getElem_map])
  have HQL := Lib.hid hql
  clear hb hW hr hA hq hql
  refine CallsIn.mono (R := fun e W' => (∃ v, e = .returned v) ∧ ((∃ xs, xs = qs ∧ J xs W') ∨ (∃ pre : List BIt, pre <+: qs ∧ Jx pre W'))) ?_ (fun _ _ h => h)
  refine callsIn_of_wp Try.func70 rfl trivial ?_ rfl
  simp only [Try.ntmps70, List.size_toArray, List.length_cons, List.length_nil, Nat.reduceAdd, Nat.reduceSub, Array.replicate_succ, Array.replicate_zero, List.push_toArray, List.append_toArray, List.nil_append, List.cons_append]
  gi_wp2
  gi_loopw [7] (fun i wr => ∃ k : Nat, k ≤ rs.length ∧ i = .int .i64 k ∧ J (qs.take k) wr ∧ (∀ a, A = some a → ∀ o, wr.cell? ⟨a.block, o, none⟩ = W.cell? ⟨a.block, o, none⟩) ∧ W.heap.size ≤ wr.heap.size) (fun i _ => rs.length - (intOf i).toNat)
  case atStart => exact ⟨0, Nat.zero_le _, rfl, by simpa using h0, fun _ _ _ => rfl, Nat.le_refl _⟩
  case round =>
    obtain ⟨k, hk, rfl, hJk, hsame, hsz⟩ := hrel
    have HS := Lib.hid hsame
    have HJk := Lib.hid hJk
    clear hsame hJk
    by_cases hlt : k < rs.length
    · obtain ⟨g, o, rfl, hg, c0', c1'⟩ := rdi_at HRD.out hlt
      have hg0 : g < n₀ := HA.out _ rfl (by omega)
      have hkq : k < qs.length := by have := HQL.out; omega
      have c0 : wr.cell? ⟨g, o + k * 2, none⟩ = some (.string rs[k].good) := (HS.out _ rfl _).trans c0'
      have c1 : wr.cell? ⟨g, o + k * 2 + 1, none⟩ = some (.int .i64 rs[k].n) := (HS.out _ rfl _).trans c1'
      obtain ⟨x, hx⟩ : ∃ x, qs[k] = x := ⟨_, rfl⟩
      rw [← HQA.out k hkq hlt, hx] at c0 c1
      have HX := Lib.hid hx
      have hJa := hJ _ _ (wr.alloc (.cells #[.string x.1.good, .int .i64 x.1.n] 46)) none HJk.out (World.grownBy_alloc wr _ none) (by intro r e; cases e)
      obtain ⟨fn, tmps, assign, body, hy, hR⟩ := hY (qs.take k) x _ hJa (by simp; omega)
      dsimp only [encRowI] at hy
      clear c0' c1' hx
      gi_wp2
      refine hR.mono ?_
      rintro e W3 (⟨rfl, hJ3, hk3⟩ | ⟨rfl, hJx3⟩)
      · have hs3 : ∀ o', W3.cell? ⟨g, o', none⟩ = W.cell? ⟨g, o', none⟩ := fun o' => by
          rw [hk3.cell (p := ⟨g, o', none⟩) hg0, World.cell?_alloc_lt wr _ ⟨g, o', none⟩ (by simp; omega)]
          exact HS.out _ rfl o'
        have hz3 : W.heap.size ≤ W3.heap.size := by have := hk3.size; simp at this; omega
        have HS3 := Lib.hid hs3
        have HJ3 := Lib.hid hJ3
        clear hs3 hJ3 hk3
        gi_wp2
        go_roundw
        case rel =>
          refine ⟨k + 1, by omega, by go_num, ?_, fun a ha o => by cases ha; exact HS3.out o, hz3⟩
          rw [List.take_succ_eq_append_getElem hkq, HX.out]
          exact HJ3.out
        case measure => simp [intOf]; omega
      · have HJx := Lib.hid hJx3
        clear hJx3
        gi_wp2
        refine bodyPost_ret (results_none rfl _ _ _) rfl ?_
        refine ⟨⟨_, rfl⟩, .inr ⟨qs.take (k + 1), List.take_prefix _ _, ?_⟩⟩
        rw [List.take_succ_eq_append_getElem hkq, HX.out]
        exact HJx.out
    · gi_wp2
      go_end0
      refine ⟨⟨_, rfl⟩, .inl ⟨qs, rfl, ?_⟩⟩
      have := HJk.out
      rwa [List.take_of_length_le (by have := HQL.out; omega)] at this
end Go.Proofs.Ytjgdcdojigcefaa
