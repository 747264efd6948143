/- Joined: The contracts of the reference's functions: what each call does to a reference backlog in memory. -/
import Derived.Test.YtglfbihdbdcgiaaZBP4
import Derived.Test.YtglfbihdbdcgiaaZBP5
namespace Go.Proofs.Ytglfbihdbdcgiaa
open Go.RowKit

/-- A reference backlog in memory. -/
def IsX (w : World) (B q : Nat) (rs : List (Int × Bool)) (out : Int) : Prop :=
  B ≤ q ∧ ∃ v, w.heap[q]? = some (.cells #[v, .int .i64 out] 43 (0, 0)) ∧ w.ownsRow B 66 2 v rs.length (flat rs)
abbrev FrX (B : Nat) (w w' : World) : Prop := Fr B [43, 66] [] w w'
theorem IsX.fr {w w' : World} {B B' q : Nat} {T : List TypeId} {rs : List (Int × Bool)} {out : Int} (h : IsX w B q rs out) (hf : Fr B' T [] w w') (h1 : 43 ∉ T) (h2 : 66 ∉ T) : IsX w' B q rs out := by
  obtain ⟨hB, v, hp, ho⟩ := h
  exact ⟨hB, v, hf.keep hp h1 (by simp), hf.own ho h2 (by simp)⟩
theorem IsX.below {w w' : World} {B q : Nat} {rs : List (Int × Bool)} {out : Int} (h : IsX w B q rs out) (hb : Below w.heap.size w w') : IsX w' B q rs out := h.fr (Fr.of_below (B := B) (T := []) hb) (by simp) (by simp)
theorem Try.infoX : (Try.prog.info? 66).map (fun i => (i.zero, i.size, i.bytes)) = some (some (.agg #[.int .i64 0, .bool false]), 2, 16) := by kernel_rfl

set_option maxRecDepth 100000 in
set_option maxHeartbeats 1000000 in
theorem xplace (n : Int) (B q : Nat) (rs : List (Int × Bool)) (out : Int) (w : World) (h : IsX w B q rs out) (hm : rs.length ≤ 256) :
    Calls Try.prog 25 #[.pointer (some ⟨q, 0, none⟩), .int .i64 n] w fun e w' => e = .returned (.int .i64 (idx (fun r => r.1 == n) rs)) ∧ Below w.heap.size w w' := by
  obtain ⟨hB, v, hp, ho⟩ := h
  obtain ⟨A, c, rfl, hnc, hcm, hrd, hA⟩ := own_slice ho
  have hp0 := cell_at hp 0
  have HR := Lib.hid hrd
  have HA := Lib.hid hA
  clear hrd hA ho hp hcm
  go_enter Try.func25, Try.ntmps25
  go_wp2
  go_loopw [5] (fun i wr => ∃ k : Nat, k ≤ rs.length ∧ i = .int .i64 k ∧ w = wr ∧ ∀ j (hj : j < rs.length), j < k → (rs[j].1 == n) = false) (fun i _ => rs.length - (intOf i).toNat)
  case atStart => exact ⟨0, Nat.zero_le _, rfl, rfl, fun j hj hk => absurd hk (by omega)⟩
  case round =>
    obtain ⟨k, hk, rfl, rfl, hq⟩ := hrel
    have HQ := Lib.hid hq
    clear hq
    by_cases hlt : k < rs.length
    · obtain ⟨g, o, rfl, hg, hcell⟩ := HR.out.2 (by omega)
      obtain ⟨_, ho0, _⟩ := HA.out _ rfl
      simp only at ho0
      subst ho0
      have c0 : w.cell? ⟨g, k * 2, none⟩ = some (.int .i64 rs[k].1) := by simpa using hcell _ _ (flat_fst hlt)
      clear hcell
      by_cases hval : (rs[k].1 == n) = true
      · have HV := Lib.hid hval
        go_wp2
        go_ret
        exact ⟨ret_int (idx_some (q := fun r => r.1 == n) hlt HV.out (fun j hj => HQ.out j (by omega) hj)).symm, Below.refl _ _⟩
      · have hval' : (rs[k].1 == n) = false := by simpa using hval
        have HV := Lib.hid hval'
        clear hval
        go_wp2
        go_roundw
        case rel =>
          refine ⟨k + 1, by omega, by go_num, (by first | rfl | trivial), fun j hj hk => ?_⟩
          rcases Nat.lt_or_ge j k with h | h
          · exact HQ.out j hj h
          · obtain rfl : j = k := by omega
            exact HV.out
        case measure => simp [intOf]; omega
    · go_wp2
      go_ret
      exact ⟨ret_int (idx_none (fun r hr => by
        obtain ⟨j, hj, rfl⟩ := List.getElem_of_mem hr
        exact HQ.out j hj (by omega))).symm, Below.refl _ _⟩

set_option maxHeartbeats 400000 in
theorem xpush_arg (n : Int) (q : Nat) (w : World) (h : n < 1) :
    Calls Try.prog 19 #[.pointer (some ⟨q, 0, none⟩), .int .i64 n] w fun e w' => e = .returned (.int .i64 1) ∧ w = w' := by
  go_enter Try.func19, Try.ntmps19
  go_wp2
  go_ret
  exact ⟨rfl, rfl⟩

set_option maxRecDepth 100000 in
set_option maxHeartbeats 1000000 in
theorem xpush_twice (n : Int) (B q : Nat) (rs : List (Int × Bool)) (out : Int) (w : World) (hi : IsX w B q rs out) (hm : rs.length ≤ 256) (h : ¬ n < 1) (hx : ¬ idx (fun r => r.1 == n) rs = -1) :
    Calls Try.prog 19 #[.pointer (some ⟨q, 0, none⟩), .int .i64 n] w fun e w' => e = .returned (.int .i64 5) ∧ Below w.heap.size w w' := by
  have hc := fun w' hw => xplace n B q rs out w' hw hm
  have hg := idx_ge (fun r => r.1 == n) rs
  obtain ⟨x, hxe⟩ : ∃ x, idx (fun r => r.1 == n) rs = x := ⟨_, rfl⟩
  rw [hxe] at hc hx hg
  have hx0 : 0 ≤ x := by omega
  clear hxe hx hg
  have HC := Lib.hid hc
  clear hc
  go_enter Try.func19, Try.ntmps19
  go_wp2_with (go_at_call 25; refine (HC.out _ hi).mono ?_; rintro e w1 ⟨rfl, hb1⟩)
  go_ret
  exact ⟨rfl, hb1⟩

set_option maxRecDepth 100000 in
set_option maxHeartbeats 1000000 in
theorem xpush_full (n : Int) (B q : Nat) (rs : List (Int × Bool)) (out : Int) (w : World) (hi : IsX w B q rs out) (hm : rs.length = 256) (h : ¬ n < 1) (hx : idx (fun r => r.1 == n) rs = -1) :
    Calls Try.prog 19 #[.pointer (some ⟨q, 0, none⟩), .int .i64 n] w fun e w' => e = .returned (.int .i64 2) ∧ Below w.heap.size w w' := by
  have hc := fun w' hw => xplace n B q rs out w' hw (by omega)
  rw [hx] at hc
  clear hx
  have HC := Lib.hid hc
  have hge : 256 ≤ rs.length := by omega
  clear hc hm
  obtain ⟨hB, v, hp, ho⟩ := id hi
  obtain ⟨A, c, rfl, hnc, hcm, hrd, hA⟩ := own_slice ho
  have hpl := lt_of_block hp
  have hp0 := cell_at hp 0
  clear hrd hA ho hp hcm
  go_enter Try.func19, Try.ntmps19
  go_wp2_with (go_at_call 25; refine (HC.out _ hi).mono ?_; rintro e w1 ⟨rfl, hb1⟩; have hp1 : w1.cell? ⟨q, 0, none⟩ = some (.slice A rs.length c) := (hb1.cell (p := ⟨q, 0, none⟩) hpl).trans hp0)
  go_ret
  exact ⟨rfl, hb1⟩

theorem xpush_kept {w1 w2 w3 : World} {B q : Nat} {v2 : Value} {o : Obj} {cs : Array Value} {n : Nat} {xs : List Value} (hg2 : (w1.alloc (.cells #[] 66)).grownBy w2 (Value.slice (some ⟨w1.heap.size, 0, none⟩) 0 0).ownBlock) (ho2 : w2.ownsRow B 66 2 v2 n xs)
    (hg3 : (w2.alloc o).grownBy w3 v2.ownBlock) (hp1 : (w1.alloc (.cells #[] 66)).heap[q]? = some (.cells cs 43 (0, 0))) (hp : w1.heap[q]? = some (.cells cs 43 (0, 0))) : w3.heap[q]? = some (.cells cs 43 (0, 0)) := by
  have hq := lt_of_block hp
  have h2 : w2.heap[q]? = some (.cells cs 43 (0, 0)) := (hg2.block q (lt_of_block hp1) (fun e => by simp [Value.ownBlock] at e; omega)).trans hp1
  have h2' := block_alloc h2 o
  exact (hg3.block q (lt_of_block h2') (fun e => own_ne (ho2.alloc o) h2' (by decide) e.symm)).trans h2'

/-- A copy of the rows, made at once: the frame. -/
theorem xcopy_fr {w w1 w2 : World} {B : Nat} (hb1 : Below w.heap.size w w1) (hBw : B ≤ w1.heap.size) (hg2 : (w1.alloc (.cells #[] 66)).grownBy w2 (Value.slice (some ⟨w1.heap.size, 0, none⟩) 0 0).ownBlock) : FrX B w w2 :=
  ((Fr.of_below hb1).alloc _).grown hg2 (fun k hk => by
    simp [Value.ownBlock] at hk
    subst hk
    exact ⟨hBw, .inr ⟨_, _, _, block_new _ _, by simp⟩⟩)
theorem xpush_end {w w1 w2 w3 : World} {B q : Nat} {n out : Int} {v v2 v3 : Value} {o : Obj} {rs : List (Int × Bool)} (hb1 : Below w.heap.size w w1) (hBw : B ≤ w1.heap.size) (ho2 : w2.ownsRow B 66 2 v2 (0 + rs.length) ([] ++ flat rs))
    (hg2 : (w1.alloc (.cells #[] 66)).grownBy w2 (Value.slice (some ⟨w1.heap.size, 0, none⟩) 0 0).ownBlock) (ho3 : w3.ownsRow B 66 2 v3 (rs.length + 1) (flat rs ++ [.int .i64 n, .bool false])) (hg3 : (w2.alloc o).grownBy w3 v2.ownBlock)
    (hp3 : w3.heap[q]? = some (.cells #[v, .int .i64 out] 43 (0, 0))) (hB : B ≤ q) :
    Ending.returned (.int .i64 0) = .returned (.int .i64 0) ∧ IsX (w3.setCell ⟨q, 0, none⟩ v3) B q (rs ++ [(n, false)]) out ∧ FrX B w (w3.setCell ⟨q, 0, none⟩ v3) := by
  have h1 : FrX B w w3 := ((xcopy_fr hb1 hBw hg2).alloc o).grown hg3 (fun k hk => by
    obtain ⟨hb, cs, hc⟩ := own_block (ho2.alloc o) hk
    exact ⟨hb, .inr ⟨cs, _, _, hc, by simp⟩⟩)
  refine ⟨rfl, ⟨hB, v3, block_set hp3 0 v3, ?_⟩, h1.setCell v3 hB (.inr ⟨_, _, _, hp3, by simp⟩)⟩
  have h2 : Fr B [] [q] w3 (w3.setCell ⟨q, 0, none⟩ v3) := (Fr.refl w3).setCell v3 hB (.inl (by simp))
  have h3 := h2.own ho3 (by simp) (fun k hk => by
    have := own_ne ho3 hp3 (by decide)
    intro hm
    simp at hm
    subst hm
    exact this hk)
  simpa [flat_append, flat] using h3

set_option maxRecDepth 100000 in
set_option maxHeartbeats 2000000 in
theorem xpush_ok (n : Int) (B q : Nat) (rs : List (Int × Bool)) (out : Int) (w : World) (hi : IsX w B q rs out) (hm : rs.length < 256) (h : ¬ n < 1) (hx : idx (fun r => r.1 == n) rs = -1) :
    Calls Try.prog 19 #[.pointer (some ⟨q, 0, none⟩), .int .i64 n] w fun e w' => e = .returned (.int .i64 0) ∧ IsX w' B q (rs ++ [(n, false)]) out ∧ FrX B w w' := by
  have hc := fun w' hw => xplace n B q rs out w' hw (by omega)
  rw [hx] at hc
  clear hx
  have HC := Lib.hid hc
  clear hc
  obtain ⟨i0, hi0, hz0, hz1, hz2⟩ := info_parts Try.infoX
  go_enter Try.func19, Try.ntmps19
  go_wp2_with fail
  refine (HC.out _ hi).mono ?_
  rintro e w1 ⟨rfl, hb1⟩
  have hi1 := hi.below hb1
  obtain ⟨hB, v, hp, ho⟩ := hi1
  obtain ⟨A, c, rfl, hnc, hcm, hrd, hA⟩ := own_slice ho
  have hp0 := cell_at hp 0
  have hql := lt_of_block hp
  have hBw : B ≤ w1.heap.size := by omega
  have hp1 : (w1.alloc (.cells #[] 66)).cell? ⟨q, 0, none⟩ = some (.slice A rs.length c) := cell_at (block_alloc hp _) 0
  have HP := Lib.hid hp
  have HR := Lib.hid hrd
  clear hi hA hcm hp ho hrd
  go_wp2_with (first
    | (at_builtin
       refine wpList_append_rd _ rfl (.tmp 18) (.tmp 22) 41 rfl B 66 i0 (.agg #[.int .i64 0, .bool false]) 2 16 Try.underlying41 hi0 hz0 hz1 hz2 rfl (by decide) _ 0 [] rfl (World.ownsRow_made w1 #[] 0 hBw (by unfold maxLen; omega) (by simp)) A rs.length c (flat rs) rfl (HR.out.below ((Below.refl _ _).alloc (Nat.le_refl _) _)) (flat_one rs) (by unfold maxLen; omega) (by omega) (by simp; omega) ?_
       intro v2 w2 hown2 hgrow2 _
       have HO2 := Lib.hid hown2
       have HG2 := Lib.hid hgrow2
       clear hown2 hgrow2)
    | (at_builtin
       refine wpList_append_own _ rfl (.tmp 23) (.tmp 26) 41 rfl B 66 i0 (.agg #[.int .i64 0, .bool false]) 2 16 Try.underlying41 hi0 hz0 hz1 hz2 rfl (by decide) _ (0 + rs.length) ([] ++ flat rs) rfl (HO2.out.alloc _) ⟨w2.heap.size, 0, none⟩ 1 1 [.int .i64 n, .bool false] rfl rfl (cell_two_new _ _ _ _) (two_one _ _) (by unfold maxLen; omega) (by omega) (by have := HG2.out.size; simp at this ⊢; omega) ?_
       intro v3 w3 hown3 hgrow3 _
       obtain ⟨g3, c3, rfl⟩ := own_succ hown3
       have hp3 := xpush_kept HG2.out HO2.out hgrow3 (block_alloc HP.out _) HP.out
       have hp30 := cell_at hp3 0
       have hp3f := frozen_at hp3 0
       simp only [Nat.zero_add, List.nil_append] at hown3
       have HO3 := Lib.hid hown3
       have HG3 := Lib.hid hgrow3
       have HP3 := Lib.hid hp3
       clear hown3 hgrow3 hp3))
  go_ret
  exact xpush_end hb1 hBw HO2.out HG2.out HO3.out HG3.out HP3.out hB

/-- Push, in one. -/
theorem xpush_any (n : Int) (B q : Nat) (rs : List (Int × Bool)) (out : Int) (w : World) (hi : IsX w B q rs out) (hm : rs.length ≤ 256) :
    Calls Try.prog 19 #[.pointer (some ⟨q, 0, none⟩), .int .i64 n] w fun e w' => e = .returned (.int .i64 (pushR rs n)) ∧ IsX w' B q (pushS rs n) out ∧ FrX B w w' := by
  unfold pushR pushS
  by_cases h : n < 1
  · rw [if_pos h, if_pos h]
    refine (xpush_arg n q w h).mono ?_
    rintro e w' ⟨rfl, rfl⟩
    exact ⟨rfl, hi, Fr.refl _⟩
  · rw [if_neg h, if_neg h]
    by_cases hx : idx (fun r => r.1 == n) rs = -1
    · rw [if_pos hx, if_pos hx]
      by_cases hl : 256 ≤ rs.length
      · rw [if_pos hl, if_pos hl]
        refine (xpush_full n B q rs out w hi (by omega) h hx).mono ?_
        rintro e w' ⟨rfl, hb⟩
        exact ⟨rfl, hi.below hb, Fr.of_below hb⟩
      · rw [if_neg hl, if_neg hl]
        exact xpush_ok n B q rs out w hi (by omega) h hx
    · rw [if_neg hx, if_neg hx]
      refine (xpush_twice n B q rs out w hi hm h hx).mono ?_
      rintro e w' ⟨rfl, hb⟩
      exact ⟨rfl, hi.below hb, Fr.of_below hb⟩

end Go.Proofs.Ytglfbihdbdcgiaa
