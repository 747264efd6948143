/- Joined: The contracts of the reference's functions, fourth part: Drop. -/
import Derived.Test.YtglfbihdbdcgiaaZBP7
namespace Go.Proofs.Ytglfbihdbdcgiaa
open Go.RowKit

set_option maxRecDepth 100000 in
set_option maxHeartbeats 1000000 in
theorem xdrop_none (n : Int) (B q : Nat) (rs : List (Int × Bool)) (out : Int) (w : World) (hi : IsX w B q rs out) (hm : rs.length ≤ 256) (hx : idx (fun r => r.1 == n) rs = -1) :
    Calls Try.prog 20 #[.pointer (some ⟨q, 0, none⟩), .int .i64 n] w fun e w' => e = .returned (.bool false) ∧ Below w.heap.size w w' := by
  have hc := fun w' hw => xplace n B q rs out w' hw hm
  rw [hx] at hc
  have HC := Lib.hid hc
  clear hc hx
  go_enter Try.func20, Try.ntmps20
  go_wp2_with (go_at_call 25; refine (HC.out _ hi).mono ?_; rintro e w1 ⟨rfl, hb1⟩)
  go_ret
  exact ⟨rfl, hb1⟩

/-- What stands behind the two appends and the store. -/
theorem xdrop_end {w w0 w1 w2 w3 : World} {B q i : Nat} {out : Int} {v v2 v3 : Value} {rs : List (Int × Bool)} (hi : i < rs.length) (hb0 : Below w.heap.size w w0) (h01 : w1.heap = w0.heap ∧ w1.os = w0.os ∧ w1.tape = w0.tape ∧ w1.output = w0.output) (hB : B ≤ q)
    (hp : w0.heap[q]? = some (.cells #[v, .int .i64 out] 43 (0, 0)))
    (hg2 : (w1.alloc (.cells #[] 66)).grownBy w2 (Value.slice (some ⟨w1.heap.size, 0, none⟩) 0 0).ownBlock) (ho2 : w2.ownsRow B 66 2 v2 i ((flat rs).take (i * 2)))
    (hg3 : w2.grownBy w3 v2.ownBlock) (ho3 : w3.ownsRow B 66 2 v3 (i + (rs.length - (i + 1))) ((flat rs).take (i * 2) ++ (flat rs).drop ((i + 1) * 2))) :
    w3.heap[q]? = some (.cells #[v, .int .i64 out] 43 (0, 0)) ∧ IsX (w3.setCell ⟨q, 0, none⟩ v3) B q (rs.eraseIdx i) out ∧ FrX B w (w3.setCell ⟨q, 0, none⟩ v3) := by
  obtain ⟨e1, e2, e3, e4⟩ := h01
  have hq := lt_of_block hp
  have f1 : FrX B w w1 := by
    have := Fr.of_below (B := B) (T := [43, 66]) (S := []) hb0
    exact ⟨by rw [e2]; exact this.os, by rw [e3]; exact this.tape, by rw [e4]; exact this.output, by rw [e1]; exact this.size, fun k hk hc => by rw [e1]; exact this.block k hk hc⟩
  have hp1 : w1.heap[q]? = some (.cells #[v, .int .i64 out] 43 (0, 0)) := by rw [e1]; exact hp
  have hq1 := lt_of_block hp1
  have hpa := block_alloc hp1 (.cells #[] 66)
  have hp2 := (hg2.block q (lt_of_block hpa) (fun e => by injection e with e; dsimp only at e; omega)).trans hpa
  have hp3 := (hg3.block q (lt_of_block hp2) (fun e => own_ne ho2 hp2 (by decide) e.symm)).trans hp2
  have f2 : FrX B w w2 := (f1.alloc _).grown hg2 (fun k hk => by
    simp [Value.ownBlock] at hk
    subst hk
    exact ⟨by omega, .inr ⟨_, _, _, block_new _ _, by simp⟩⟩)
  have f3 : FrX B w w3 := f2.grown hg3 (fun k hk => by
    obtain ⟨hb, cs, hc⟩ := own_block ho2 hk
    exact ⟨hb, .inr ⟨cs, _, _, hc, by simp⟩⟩)
  have hl : (rs.eraseIdx i).length = i + (rs.length - (i + 1)) := by rw [List.length_eraseIdx_of_lt hi]; omega
  have hfl : flat (rs.eraseIdx i) = (flat rs).take (i * 2) ++ (flat rs).drop ((i + 1) * 2) := by
    rw [flat_drop, flat_take, ← flat_append, List.eraseIdx_eq_take_drop_succ]
  exact ⟨hp3, xput_end hB hp3 (by rw [hl, hfl]; exact ho3) f3⟩

theorem xdrop_keep {w0 w2 : World} {q : Nat} {o : Obj} (hq : q < w0.heap.size) (hg : (w0.drew.alloc (.cells #[] 66)).grownBy w2 (Value.slice (some ⟨w0.heap.size, 0, none⟩) 0 0).ownBlock) (hp : w0.heap[q]? = some o) : w2.heap[q]? = some o :=
  (hg.block q (by simp; omega) (fun e => by injection e with e; dsimp only at e; omega)).trans ((Below.heap_alloc w0.drew _ q hq).trans hp)
theorem xdrop_keep2 {w0 w2 : World} {g b : Nat} (hq : g < w0.heap.size) (hg : (w0.drew.alloc (.cells #[] 66)).grownBy w2 (Value.slice (some ⟨w0.heap.size, 0, none⟩) 0 0).ownBlock) (hb : b = g) : w2.heap[b]? = (w0.drew.alloc (.cells #[] 66)).heap[b]? := by
  subst hb
  exact hg.block b (by simp; omega) (fun e => by injection e with e; dsimp only at e; omega)

def dropOut (out n : Int) : Int := if out = n then 0 else out
theorem xdrop_cell {w3 : World} {q : Nat} {v : Value} {out : Int} (h : w3.heap[q]? = some (.cells #[v, .int .i64 out] 43 (0, 0))) (v3 : Value) : (w3.setCell ⟨q, 0, none⟩ v3).cell? ⟨q, 1, none⟩ = some (.int .i64 out) ∧ (w3.setCell ⟨q, 0, none⟩ v3).frozen? ⟨q, 1, none⟩ = false :=
  ⟨cell_at (block_set h 0 v3) 1, frozen_at (block_set h 0 v3) 1⟩
theorem xdrop_fin {w w3 : World} {B q : Nat} {v v3 : Value} {out : Int} {rs : List (Int × Bool)} (h : w3.heap[q]? = some (.cells #[v, .int .i64 out] 43 (0, 0))) (hi : IsX (w3.setCell ⟨q, 0, none⟩ v3) B q rs out) (hf : FrX B w (w3.setCell ⟨q, 0, none⟩ v3)) :
    Ending.returned (.bool true) = .returned (.bool true) ∧ IsX ((w3.setCell ⟨q, 0, none⟩ v3).setCell ⟨q, 1, none⟩ (.int .i64 0)) B q rs 0 ∧ FrX B w ((w3.setCell ⟨q, 0, none⟩ v3).setCell ⟨q, 1, none⟩ (.int .i64 0)) := by
  obtain ⟨hB, v', hp, ho⟩ := hi
  have h0 := block_set h 0 v3
  have hf1 : Fr B [43] [] (w3.setCell ⟨q, 0, none⟩ v3) ((w3.setCell ⟨q, 0, none⟩ v3).setCell ⟨q, 1, none⟩ (.int .i64 0)) := (Fr.refl _).setCell _ hB (.inr ⟨_, _, _, h0, by simp⟩)
  exact ⟨rfl, ⟨hB, v', block_set hp 1 _, hf1.own ho (by simp) (by simp)⟩, hf.setCell _ hB (.inr ⟨_, _, _, h0, by simp⟩)⟩

set_option maxRecDepth 100000 in
set_option maxHeartbeats 4000000 in
theorem xdrop_some (n : Int) (B q i : Nat) (rs : List (Int × Bool)) (out : Int) (w : World) (hi : IsX w B q rs out) (hm : rs.length ≤ 256) (hil : i < rs.length) (hx : idx (fun r => r.1 == n) rs = i) :
    Calls Try.prog 20 #[.pointer (some ⟨q, 0, none⟩), .int .i64 n] w fun e w' => e = .returned (.bool true) ∧ IsX w' B q (rs.eraseIdx i) (dropOut out n) ∧ FrX B w w' := by
  have hc := fun w' hw => xplace n B q rs out w' hw hm
  rw [hx] at hc
  have HC := Lib.hid hc
  clear hc hx
  obtain ⟨i0, hi0, hz0, hz1, hz2⟩ := info_parts Try.infoX
  go_enter Try.func20, Try.ntmps20
  go_wp2_with fail
  refine (HC.out _ hi).mono ?_
  rintro e w0 ⟨rfl, hb0⟩
  have hi1 := hi.below hb0
  obtain ⟨hB, v, hp, ho⟩ := hi1
  obtain ⟨g, c, rfl⟩ := own_pos ho (by omega)
  obtain ⟨A, c', hv', hnc, hcm, hrd, _⟩ := own_slice ho
  obtain ⟨rfl, rfl⟩ : A = some ⟨g, 0, none⟩ ∧ c' = c := by injection hv' with a b c; exact ⟨a.symm, c.symm⟩
  have hm63 : c' ≤ 9223372036854775807 := by unfold maxLen at hcm; omega
  have hp0 := cell_at hp 0
  have hql := lt_of_block hp
  have hBw : B ≤ w0.heap.size := by omega
  have hqg : q ≠ g := by
    obtain ⟨_, cur, hgb⟩ := own_block ho (k := g) rfl
    exact block_ne hp hgb (by decide)
  have hrd1 : Rd w0.drew 2 (some ⟨g, 0, none⟩) rs.length (flat rs) := hrd
  obtain ⟨A2, hA2, hA2', hA2g⟩ : ∃ A2 : Option Addr, (if c' = i + 1 then some (⟨g, 0, none⟩ : Addr) else some ⟨g, (i + 1) * 2, none⟩) = A2 ∧ (i + 1 < rs.length → A2 = some ⟨g, 0 + (i + 1) * 2, none⟩) ∧ (∀ a, A2 = some a → a.block = g) := by
    refine ⟨_, rfl, fun h => ?_, fun a ha => ?_⟩
    · rw [if_neg (by omega), Nat.zero_add]
    · split at ha <;> (injection ha with ha; rw [← ha])
  have hgl : g < w0.heap.size := by
    obtain ⟨_, _, e, hg, _⟩ := hrd1.2 (by omega)
    cases e
    exact hg
  have R1 := Lib.hid ((hrd1.take (k := i) (by omega)).below ((Below.refl _ w0.drew).alloc (Nat.le_refl _) (.cells #[] 66)))
  have R2 := Lib.hid ((hrd1.drop (k := i + 1) (by omega) hA2').below ((Below.refl _ w0.drew).alloc (Nat.le_refl _) (.cells #[] 66)))
  have HP := Lib.hid hp
  have HA2 := Lib.hid hA2g
  have hw1 : IntKind.i64.wrap ((i : Int) + 1) = (i : Int) + 1 := IntWalk.i64_in _ (by omega)
  have hw2 : (0 : Int) ≤ (i : Int) + 1 := by omega
  have hw3 : ((i : Int) + 1).toNat = i + 1 := by omega
  have hw4 : (i : Int) + 1 ≤ (rs.length : Int) := by omega
  have hic : i ≤ c' := by omega
  have hic1 : i + 1 ≤ c' := by omega
  have h1t := Lib.hid (fun u hu => flat_one rs u (List.mem_of_mem_take (i := i * 2) hu))
  have h1d := Lib.hid (fun u hu => flat_one rs u (List.mem_of_mem_drop (i := (i + 1) * 2) hu))
  clear hi hcm hp ho hrd hrd1 hv' hA2' hA2g
  go_wp2_with fail
  go_region_law (first
    | (refine step_append_rd _ rfl (.tmp 12) (.tmp 18) 41 rfl B 66 i0 (.agg #[.int .i64 0, .bool false]) 2 16 Try.underlying41 hi0 hz0 hz1 hz2 rfl (by decide) (.slice (some ⟨w0.heap.size, 0, none⟩) 0 0) 0 [] (by simp [Act.eval, Act.put]) (World.ownsRow_made w0.drew #[] 0 hBw (by unfold maxLen; omega) (by simp)) (some ⟨g, 0, none⟩) i c' ((flat rs).take (i * 2)) (by simp [Act.eval, Act.put]) R1.out h1t.out (by unfold maxLen; omega) (by omega) (by simp; omega) ?_
       intro v2 w2 hown2 hgrow2 _
       simp only [Nat.zero_add, List.nil_append] at hown2
       have HO2 := Lib.hid hown2
       have HG2 := Lib.hid hgrow2
       have hk2 : w2.heap[q]? = some (.cells #[.slice (some ⟨g, 0, none⟩) rs.length c', .int .i64 out] 43 (0, 0)) := xdrop_keep hql hgrow2 HP.out
       have hk20 := cell_at hk2 0
       have K2 := Lib.hid hk2
       clear hown2 hgrow2 hk2)
    | (refine step_append_rd _ rfl (.tmp 19) (.tmp 26) 41 rfl B 66 i0 (.agg #[.int .i64 0, .bool false]) 2 16 Try.underlying41 hi0 hz0 hz1 hz2 rfl (by decide) v2 i ((flat rs).take (i * 2)) (by simp [Act.eval, Act.put]) HO2.out A2 (rs.length - (i + 1)) (c' - (i + 1)) ((flat rs).drop ((i + 1) * 2)) (by simp [Act.eval, Act.put]) (R2.out.keep HG2.out.size (fun a ha => xdrop_keep2 hgl HG2.out (HA2.out a ha))) h1d.out (by unfold maxLen; omega) (by omega) (by have := HG2.out.size; simp at this; omega) ?_
       intro v3 w3 hown3 hgrow3 hnil3
       have X3 := Lib.hid (xdrop_end (w0 := w0) (w1 := w0.drew) hil hb0 ⟨rfl, rfl, rfl, rfl⟩ hB HP.out HG2.out HO2.out hgrow3 hown3)
       have hk30 := cell_at X3.out.1 0
       have hk3f := frozen_at X3.out.1 0
       have hk31 := cell_at X3.out.1 1
       have hk3f1 := frozen_at X3.out.1 1
       obtain ⟨A3, c3, rfl, _, _, _, _⟩ := own_slice hown3
       clear hown3 hgrow3 hnil3))
  all_goals
    have hx0 := xdrop_cell X3.out.1 (.slice A3 (i + (rs.length - (i + 1))) c3)
    have hx1 := hx0.1
    have hx2 := hx0.2
    clear hx0
    by_cases hon : out = n
    · subst hon
      have hoo : (out == out) = true := by simp
      go_wp2
      go_ret
      have hz : dropOut out out = 0 := if_pos rfl
      rw [hz]
      exact xdrop_fin X3.out.1 X3.out.2.1 X3.out.2.2
    · have hoo : (out == n) = false := by simpa using hon
      have hz : dropOut out n = out := if_neg hon
      have HZ := Lib.hid hz
      clear hon hz
      go_wp2
      go_ret
      rw [HZ.out]
      exact ⟨rfl, X3.out.2.1, X3.out.2.2⟩

theorem xdrop_any (n : Int) (B q : Nat) (rs : List (Int × Bool)) (out : Int) (w : World) (hi : IsX w B q rs out) (hm : rs.length ≤ 256) :
    Calls Try.prog 20 #[.pointer (some ⟨q, 0, none⟩), .int .i64 n] w fun e w' => e = .returned (.bool (dropB rs n)) ∧ IsX w' B q (dropS rs n) (dropO rs out n) ∧ FrX B w w' := by
  unfold dropB dropS dropO
  cases hf : rs.findIdx? (fun r => r.1 == n) with
  | none =>
    refine (xdrop_none n B q rs out w hi hm (by simp [idx, hf])).mono ?_
    rintro e w' ⟨rfl, hb⟩
    exact ⟨rfl, hi.below hb, Fr.of_below hb⟩
  | some k =>
    refine (xdrop_some n B q k rs out w hi hm (List.findIdx?_eq_some_iff_getElem.1 hf).1 (by simp [idx, hf])).mono ?_
    rintro e w' ⟨rfl, h1, h2⟩
    refine ⟨rfl, ?_, h2⟩
    have e : dropOut out n = backO out n := by
      unfold backO dropOut
      split <;> split <;> omega
    rw [← e]
    exact h1

end Go.Proofs.Ytglfbihdbdcgiaa
