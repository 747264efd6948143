/- slices.Chunk and its iterator: the parts in order, one a round. -/
import Derived.RangeFuncNested
import Derived.RangeFuncBound
import Derived.RangeFuncCalls
import Derived.RangeFuncLeaves
import Derived.RangeFuncBox
import Derived.Shelf.Abstract
import Derived.Shelf.RegionOpen
import Derived.OwnWalkIn
import Derived.TacticsInMore
import Derived.LoopNIn
import Derived.LoopIn
import Derived.Test.YtlljeghlfijdnaaCRSplit
import Derived.Test.YtlljeghlfijdnaaOpen
import Derived.Test.YtlljeghlfijdnaaCRJoin
namespace Go.Proofs.Ytlljeghlfijdnaa
open Go.RowKit Go.Shelf
attribute [local go_sem] Oper.semAt_some

/-- Of what lay below n but one block nothing turns. -/
def KeepBut (n x : Nat) (W W' : World) : Prop := W.heap.size ≤ W'.heap.size ∧ ∀ k, k < n → k ≠ x → W'.heap[k]? = W.heap[k]?
theorem keepBut_t {n x : Nat} {A B C : World} (h : KeepBut n x A B) (k : KeepBut n x B C) : KeepBut n x A C := ⟨Nat.le_trans h.1 k.1, fun j h1 h2 => (k.2 j h1 h2).trans (h.2 j h1 h2)⟩
theorem keepBut_b {n x : Nat} {w : World} (hn : n ≤ w.heap.size) (W : World) (l : Nat) (o o' : Obj) (hl : w.heap.size ≤ l) (_ : W.heap[l]? = some o) (_ : o.isCells = false) (_ : o.isWalk = false) : KeepBut n x W (W.putObj l o') :=
  ⟨by simp, fun k h1 _ => World.putObj_heap_other (by omega)⟩
theorem KeepBut.cell {n x : Nat} {W W' : World} (h : KeepBut n x W W') {k i : Nat} (h1 : k < n) (h2 : k ≠ x) : W'.cell? ⟨k, i, none⟩ = W.cell? ⟨k, i, none⟩ := by
  simp only [World.cell?, h.2 k h1 h2]

/-- A part of n bytes: where it begins, and how many it has. -/
def PartOf (n : Nat) : Type := { x : Nat × Nat // 0 < x.2 ∧ x.1 + x.2 ≤ n }
/-- What the iterator hands over a round. -/
def encPart (A : Option Addr) (n : Nat) (x : PartOf n) : Array Value := #[.slice (A.map (·.add x.1.1)) x.1.2 x.1.2]
/-- The first parts of m bytes each, the last one of what is left. -/
def PartsOf (n m : Nat) (xs : List (PartOf n)) : Prop := ∀ j (h : j < xs.length), xs[j].1 = (j * m, min m (n - j * m))

theorem chunk_any (A : Option Addr) (n c m : Nat) (w : World) (h1 : 1 ≤ m) (h2 : m ≤ 9223372036854775807) :
    Calls Try.prog 49 #[.slice A n c, .int .i64 m] w fun e w' => e = .returned (.func (.func 51) #[] #[.pointer (some ⟨w.heap.size, 0, none⟩), .pointer (some ⟨w.heap.size + 1, 0, none⟩)]) ∧
      (w.alloc (.cells #[.slice A n c] 22)).alloc (.cells #[.int .i64 m] 3) = w' := by
  have hmf : ∀ (fn : Fn) (first cap : Array Value) (w : World), (Instr.makeFunc fn first cap).run Try.prog w = .ok (.func fn first cap) w := fun _ _ _ _ => rfl
  go_enter Try.func49, Try.ntmps49
  go_wp2
  go_ret
  exact ⟨rfl, rfl⟩

set_option maxRecDepth 100000 in
set_option maxHeartbeats 2000000 in
theorem chunk_iter (n n₀ x₀ B1 B2 : Nat) (A : Option Addr) (len c m : Nat) (w : World) (h1 : w.cell? ⟨B1, 0, none⟩ = some (.slice A len c)) (h2 : w.cell? ⟨B2, 0, none⟩ = some (.int .i64 m)) (hm : 1 ≤ m) (hm2 : m ≤ 9223372036854775807) (hlc : len ≤ c) (hc : c ≤ maxLen) (hl : len ≤ 4294967296)
    (hA : 0 < len → ∃ g o, A = some ⟨g, o, none⟩) (hn : 1 ≤ n) (b1 : B1 < n₀) (b2 : B2 < n₀) (n1 : B1 ≠ x₀) (n2 : B2 ≠ x₀) :
    SeqStopsK Fence.wide n Try.prog 51 #[.pointer (some ⟨B1, 0, none⟩), .pointer (some ⟨B2, 0, none⟩)] (encPart A len) (KeepBut n₀ x₀) (fun xs => PartsOf len m xs ∧ len ≤ xs.length * m) (fun _ => True) len w := fun l J Jx W hW hJ hJx hY h0 => by
  have hB1 := World.block_lt_of_cell? w _ h1
  have hB2 := World.block_lt_of_cell? w _ h2
  have h1' : W.cell? ⟨B1, 0, none⟩ = some (.slice A len c) := (hW.cell (p := ⟨B1, 0, none⟩) hB1).trans h1
  have h2' : W.cell? ⟨B2, 0, none⟩ = some (.int .i64 m) := (hW.cell (p := ⟨B2, 0, none⟩) hB2).trans h2
  have HA := Lib.hid hA
  have hcm : c ≤ 9223372036854775807 := by unfold maxLen at hc; omega
  have C1 := Lib.hid h1'
  have C2 := Lib.hid h2'
  clear h1 h2 hA hc hW hB1 hB2 h1' h2'
  refine CallsIn.mono (R := fun e W' => (∃ v, e = .returned v) ∧ ((∃ xs, (PartsOf len m xs ∧ len ≤ xs.length * m) ∧ J xs W') ∨ (∃ pre : List (PartOf len), True ∧ Jx pre W'))) ?_ (fun _ _ h => h)
  refine callsIn_of_wp Try.func51 rfl trivial ?_ rfl
  simp only [Try.ntmps51, List.size_toArray, List.length_cons, List.length_nil, Nat.reduceAdd, Nat.reduceSub, Array.replicate_succ, Array.replicate_zero, List.push_toArray, List.append_toArray, List.nil_append, List.cons_append]
  gi_wp2
  gi_loopw [4, 5] (fun i en wr => ∃ (pre : List (PartOf len)) (q : Nat), q = pre.length * m ∧ PartsOf len m pre ∧ i = .int .i64 q ∧ J pre wr ∧ wr.cell? ⟨B1, 0, none⟩ = some (.slice A len c) ∧ wr.cell? ⟨B2, 0, none⟩ = some (.int .i64 m)) (fun i _ _ => len - (intOf i).toNat)
  case atStart => exact ⟨[], 0, by simp, fun j h => absurd h (by simp), rfl, h0, C1.out, C2.out⟩
  case round =>
    obtain ⟨pre, q, hq, hp, rfl, hJk, c1, c2⟩ := hrel
    have HQ := Lib.hid hq
    have HP := Lib.hid hp
    have HJk := Lib.hid hJk
    clear hq hp hJk
    by_cases hlt : q < len
    · obtain ⟨g, o, hA⟩ := HA.out (by omega)
      have hqm : q + m ≤ 9223372036854775807 := by
        rcases Nat.eq_zero_or_pos q with h | h
        · omega
        · have : m ≤ q := by
            rw [HQ.out] at h ⊢
            exact Nat.le_mul_of_pos_left m (Nat.pos_of_mul_pos_right h)
          omega
      obtain ⟨e, he⟩ : ∃ e, min m (len - q) = e := ⟨_, rfl⟩
      have he0 : 0 < e := by omega
      have he1 : q + e ≤ len := by omega
      obtain ⟨x, hx⟩ : ∃ x : PartOf len, x = ⟨(q, e), he0, he1⟩ := ⟨_, rfl⟩
      have hyx := fun h => hY pre x wr.drew h (by
        have := HQ.out
        have : pre.length ≤ pre.length * m := Nat.le_mul_of_pos_right _ hm
        omega)
      have hex : encPart A len x = #[.slice (some ⟨g, o + q, none⟩) e e] := by
        rw [hx, hA]
        simp [encPart, add_none]
      rw [hex] at hyx
      have HY := Lib.hid hyx
      have HX := Lib.hid hx
      have HE := Lib.hid he
      subst hA
      have D1 := Lib.hid c1
      have D2 := Lib.hid c2
      clear hex hx hyx
      gi_wp2_with fail
      refine wpIn_region_flow (fun W => W = wr.drew) Nil_ [0, 1, 2, 3, 4, 5, 6] (fun _ => trivial) rfl (fun _ _ _ _ _ h => callsIn_wide.2 h) (by kernel_rfl) (by kernel_rfl) (by kernel_rfl) (rfl) trivial ?_
      refine flow_val ?_ rfl (by kernel_rfl) (by rfl) (fun W hW => ?_) ?_
      rotate_left 1
      · subst hW; have c1 : (wr.drew).cell? ⟨B2, 0, none⟩ = some (.int .i64 m) := D2.out; go_simp <;> with_reducible rfl
      simp only [Act.put, List.setIfInBounds_toArray, List.set_cons_succ, List.set_cons_zero]
      refine flow_val ?_ rfl (by kernel_rfl) (by rfl) (fun W hW => ?_) ?_
      rotate_left 1
      · subst hW; have c1 : (wr.drew).cell? ⟨B1, 0, none⟩ = some (.slice (some ⟨g, o, none⟩) len c) := D1.out; go_simp <;> with_reducible rfl
      simp only [Act.put, List.setIfInBounds_toArray, List.set_cons_succ, List.set_cons_zero]
      refine flow_val ?_ rfl (by kernel_rfl) (by rfl) (fun W hW => ?_) ?_
      rotate_left 1
      · go_simp <;> with_reducible rfl
      simp only [Act.put, List.setIfInBounds_toArray, List.set_cons_succ, List.set_cons_zero]
      refine flow_val ?_ rfl (by kernel_rfl) (by rfl) (fun W hW => ?_) ?_
      rotate_left 1
      · go_simp; rw [if_pos (by omega), if_neg (by omega)]
      simp only [Act.put, List.setIfInBounds_toArray, List.set_cons_succ, List.set_cons_zero]
      refine flow_val ?_ rfl (by kernel_rfl) (by rfl) (fun W hW => ?_) ?_
      rotate_left 1
      · go_simp <;> with_reducible rfl
      simp only [Act.put, List.setIfInBounds_toArray, List.set_cons_succ, List.set_cons_zero]
      refine flow_val ?_ rfl (by kernel_rfl) (by rfl) (fun W hW => ?_) ?_
      rotate_left 1
      · go_simp <;> with_reducible rfl
      simp only [Act.put, List.setIfInBounds_toArray, List.set_cons_succ, List.set_cons_zero]
      refine flow_val ?_ rfl (by kernel_rfl) (by rfl) (fun W hW => ?_) ?_
      rotate_left 1
      · go_simp <;> with_reducible rfl
      simp only [Act.put, List.setIfInBounds_toArray, List.set_cons_succ, List.set_cons_zero]
      refine flow_done ?_
      intro W hW
      subst hW
      have hm' : min (m : Int) ((len - q : Nat) : Int) = (e : Int) := by omega
      simp only [hm']
      have hJd := hJ pre wr wr.drew none HJk.out ⟨rfl, rfl, rfl, Nat.le_refl _, fun _ _ _ => rfl⟩ (by intro r e; cases e)
      obtain ⟨fn, tmps, assign, body, hy, hR⟩ := HY.out hJd
      have HR := Lib.hid hR
      have e3 : q + e - q = e := by omega
      clear hm' hJd hR c2 he
      gi_wp2_with fail
      refine HR.out.mono ?_
      rintro e5 W3 (⟨rfl, hJ3, hk3⟩ | ⟨rfl, hJx3⟩)
      · have s1 : W3.cell? ⟨B1, 0, none⟩ = some (.slice (some ⟨g, o, none⟩) len c) := (hk3.cell b1 n1).trans D1.out
        have s2 : W3.cell? ⟨B2, 0, none⟩ = some (.int .i64 m) := (hk3.cell b2 n2).trans D2.out
        have HJ3 := Lib.hid hJ3
        clear hJ3 hk3
        gi_wp2_with fail
        go_roundw
        case rel =>
          refine ⟨pre ++ [x], q + m, ?_, ?_, by go_num, HJ3.out, s1, s2⟩
          · rw [List.length_append, List.length_singleton, Nat.succ_mul, ← HQ.out]
          · intro j hj
            by_cases hjl : j < pre.length
            · rw [List.getElem_append_left hjl]
              exact HP.out j hjl
            · have : j = pre.length := by simp at hj; omega
              subst this
              rw [List.getElem_append_right (Nat.le_refl _)]
              simp only [Nat.sub_self, ← HQ.out, HX.out, HE.out]
              rfl
        case measure => simp [intOf]; omega
      · have HJx := Lib.hid hJx3
        clear hJx3
        gi_wp2_with fail
        refine bodyPost_ret (results_none rfl _ _ _) rfl ?_
        exact ⟨⟨_, rfl⟩, .inr ⟨_, trivial, HJx.out⟩⟩
    · gi_wp2
      go_end0
      exact ⟨⟨_, rfl⟩, .inl ⟨pre, ⟨HP.out, by rw [← HQ.out]; omega⟩, HJk.out⟩⟩
end Go.Proofs.Ytlljeghlfijdnaa
