/- The contract of All's iterator: it hands over the rows in order, one a round. -/
import Derived.RangeFuncNested
import Derived.RangeFuncBound
import Derived.RangeFuncCalls
import Derived.RangeFuncLeaves
import Derived.Shelf.Abstract
import Derived.Shelf.RegionOpen
import Derived.OwnWalkIn
import Derived.TacticsInMore
import Derived.LoopNIn
import Derived.LoopIn
import Derived.Test.YtglfbihdbdcgiaaBack6
namespace Go.Proofs.Ytglfbihdbdcgiaa
open Go.RowKit Go.Shelf
attribute [local go_sem] Oper.semAt_some

/-- What the iterator hands over a round. -/
abbrev encRow (x : Int × Bool) : Array Value := #[.int .i64 x.1, .bool x.2]

/-- How an iteration ends, behind a name. -/
def ItPost (A : Prop) (e : Ending) : Prop := (∃ v, e = .returned v) ∧ A
theorem itPost_intro {A : Prop} {v : Value} (h : A) : ItPost A (.returned v) := ⟨⟨v, rfl⟩, h⟩

set_option maxRecDepth 100000 in
set_option maxHeartbeats 1000000 in
theorem iter_nil (n n₀ Bn : Nat) (w : World) (hb : w.cell? ⟨Bn, 0, none⟩ = some (.pointer none)) :
    SeqStopsK Fence.wide n Try.prog 36 #[.pointer (some ⟨Bn, 0, none⟩)] encRow (Below n₀) (fun xs => xs = []) (fun pre => pre <+: []) 0 w := fun l J Jx W hW hJ hJx hY h0 => by
  have hBn := World.block_lt_of_cell? w _ hb
  have hb' : W.cell? ⟨Bn, 0, none⟩ = some (.pointer none) := (hW.cell (p := ⟨Bn, 0, none⟩) hBn).trans hb
  refine CallsIn.mono (R := fun e W' => ItPost _ e) ?_ (fun _ _ h => h)
  refine callsIn_of_wp Try.func36 rfl trivial ?_ rfl
  simp only [Try.ntmps36, List.size_toArray, List.length_cons, List.length_nil, Nat.reduceAdd, Nat.reduceSub, Array.replicate_succ, Array.replicate_zero, List.push_toArray, List.append_toArray, List.nil_append, List.cons_append]
  gi_wp2
  refine bodyPost_ret (results_none rfl _ _ _) rfl ?_
  exact itPost_intro (.inl h0)

set_option maxRecDepth 100000 in
set_option maxHeartbeats 2000000 in
theorem iter_rows (n n₀ Bn B p : Nat) (rs : List (Int × Bool)) (out : Int) (w : World) (hb : w.cell? ⟨Bn, 0, none⟩ = some (.pointer (some ⟨p, 0, none⟩))) (hi : IsB w B p rs out) (hm : rs.length ≤ 256) (hn : 1 ≤ n)
    (hlt : ∀ k, IsB w B p rs out → ∀ v, w.heap[p]? = some (.cells #[v, .int .i64 out] 58 (0, 0)) → v.ownBlock = some k → k < n₀) :
    SeqStopsK Fence.wide n Try.prog 36 #[.pointer (some ⟨Bn, 0, none⟩)] encRow (Below n₀) (fun xs => xs = rs) (fun pre => pre <+: rs) rs.length w := fun l J Jx W hW hJ hJx hY h0 => by
  have hBn := World.block_lt_of_cell? w _ hb
  have hb' : W.cell? ⟨Bn, 0, none⟩ = some (.pointer (some ⟨p, 0, none⟩)) := (hW.cell (p := ⟨Bn, 0, none⟩) hBn).trans hb
  have hf : Fr B [] [] w W := Fr.of_below hW
  obtain ⟨hB, v, hp, ho⟩ := id hi
  have hg₀ := fun k => hlt k hi v hp
  have hpW := hf.keep hp (by simp) (by simp)
  have hoW := hf.own ho (by simp) (by simp)
  obtain ⟨A, c, rfl, hnc, hcm, hrd, hA⟩ := own_slice hoW
  have hp0 := cell_at hpW 0
  have HRD := Lib.hid hrd
  have HA := Lib.hid hA
  have HG := Lib.hid hg₀
  clear hb hW hf hp ho hpW hoW hi hlt hg₀ hcm hrd hA
  refine CallsIn.mono (R := fun e W' => ItPost _ e) ?_ (fun _ _ h => h)
  refine callsIn_of_wp Try.func36 rfl trivial ?_ rfl
  simp only [Try.ntmps36, List.size_toArray, List.length_cons, List.length_nil, Nat.reduceAdd, Nat.reduceSub, Array.replicate_succ, Array.replicate_zero, List.push_toArray, List.append_toArray, List.nil_append, List.cons_append]
  gi_wp2
  gi_loopw [12] (fun i wr => ∃ k : Nat, k ≤ rs.length ∧ i = .int .i64 k ∧ J (rs.take k) wr ∧ (∀ a, A = some a → ∀ o, wr.cell? ⟨a.block, o, none⟩ = W.cell? ⟨a.block, o, none⟩) ∧ W.heap.size ≤ wr.heap.size) (fun i _ => rs.length - (intOf i).toNat)
  case atStart => exact ⟨0, Nat.zero_le _, rfl, by simpa using h0, fun _ _ _ => rfl, Nat.le_refl _⟩
  case round =>
    obtain ⟨k, hk, rfl, hJk, hsame, hsz⟩ := hrel
    have HS := Lib.hid hsame
    have HJk := Lib.hid hJk
    clear hsame hJk
    by_cases hlt : k < rs.length
    · obtain ⟨g, o, rfl, hg, hcell⟩ := HRD.out.2 (by omega)
      obtain ⟨hown, ho0, _⟩ := HA.out _ rfl
      simp only at ho0 hown
      subst ho0
      have c0 : wr.cell? ⟨g, k * 2, none⟩ = some (.int .i64 rs[k].1) := by
        rw [HS.out _ rfl]
        have := hcell _ _ (flat_fst hlt)
        simpa using this
      have c1 : wr.cell? ⟨g, k * 2 + 1, none⟩ = some (.bool rs[k].2) := by
        rw [HS.out _ rfl]
        have := hcell _ _ (flat_snd hlt)
        simpa using this
      have hg0 := HG.out g hown
      obtain ⟨x, hx⟩ : ∃ x, rs[k] = x := ⟨_, rfl⟩
      rw [hx] at c0 c1
      have HX := Lib.hid hx
      have hJa := hJ _ _ (wr.alloc (.cells #[.int .i64 x.1, .bool x.2] 60)) none HJk.out (World.grownBy_alloc wr _ none) (by intro r e; cases e)
      obtain ⟨fn, tmps, assign, body, hy, hR⟩ := hY (rs.take k) x _ hJa (by simp; omega)
      dsimp only [encRow] at hy
      clear hcell hx hown
      gi_wp2
      refine hR.mono ?_
      rintro e W3 (⟨rfl, hJ3, hk3⟩ | ⟨rfl, hJx3⟩)
      · have hs3 : ∀ o, W3.cell? ⟨g, o, none⟩ = W.cell? ⟨g, o, none⟩ := fun o => by
          rw [hk3.cell (p := ⟨g, o, none⟩) hg0, World.cell?_alloc_lt wr _ ⟨g, o, none⟩ (by simp; omega)]
          exact HS.out _ rfl o
        have hz3 : W.heap.size ≤ W3.heap.size := by have := hk3.size; simp at this; omega
        have HS3 := Lib.hid hs3
        have HJ3 := Lib.hid hJ3
        clear hs3 hJ3 hk3
        gi_wp2
        go_roundw
        case rel =>
          refine ⟨k + 1, by omega, by go_num, ?_, fun a ha o => by cases ha; exact HS3.out o, hz3⟩
          rw [List.take_succ_eq_append_getElem hlt, HX.out]
          exact HJ3.out
        case measure => simp [intOf]; omega
      · have HJx := Lib.hid hJx3
        clear hJx3
        gi_wp2
        refine bodyPost_ret (results_none rfl _ _ _) rfl ?_
        refine itPost_intro (.inr ⟨rs.take (k + 1), List.take_prefix _ _, ?_⟩)
        rw [List.take_succ_eq_append_getElem hlt, HX.out]
        exact HJx.out
    · gi_wp2
      go_end0
      refine itPost_intro (.inl ⟨rs, rfl, ?_⟩)
      have := HJk.out
      rwa [List.take_of_length_le (by omega)] at this

end Go.Proofs.Ytglfbihdbdcgiaa
