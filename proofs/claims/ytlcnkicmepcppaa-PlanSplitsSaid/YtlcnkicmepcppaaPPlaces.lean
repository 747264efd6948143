/- plan.Visit and plan.places. -/
import Derived.Test.YtlcnkicmepcppaaPSplit
namespace Go.Proofs.Ytlcnkicmepcppaa
open Go.RowKit

theorem Try.infoInt : (Try.prog.info? 3).map (fun i => (i.zero, i.size, i.bytes)) = some (some (.int .i64 0), 1, 8) := by kernel_rfl
def i64v (n : Int) : Value := .int .i64 n
/-- What a call that makes a list of numbers leaves. -/
def RetN (w : World) (l : List Int) (e : Ending) (W : World) : Prop := ∃ v, e = .returned v ∧ W.ownsRow w.heap.size 3 1 v l.length (l.map i64v) ∧ Below w.heap.size w W
def visitS (first regions : Int) : List Int := if 1 ≤ regions ∧ regions ≤ 8 ∧ 0 ≤ first ∧ first < regions then (List.range regions.toNat).map (fun i : Nat => (first + i) % regions) else []
def visK (f r : Int) (k : Nat) : List Int := (List.range k).map (fun i : Nat => (f + i) % r)
theorem visK_succ (f r : Int) (k : Nat) : visK f r (k + 1) = visK f r k ++ [(f + k) % r] := by
  unfold visK
  rw [List.range_succ, List.map_append]
  rfl
theorem visK_len (f r : Int) (k : Nat) : (visK f r k).length = k := by simp [visK]

set_option maxRecDepth 100000 in
set_option maxHeartbeats 1000000 in
theorem visit_any (first regions : Int) (w : World) (hi : -9223372036854775808 ≤ first ∧ first ≤ 9223372036854775807) : Calls Try.prog 8 #[.int .i64 first, .int .i64 regions] w (RetN w (visitS first regions)) := by
  obtain ⟨i0, hi0, hz0, hz1, hz2⟩ := info_parts Try.infoInt
  by_cases hc : 1 ≤ regions ∧ regions ≤ 8 ∧ 0 ≤ first ∧ first < regions
  · have hv : visitS first regions = visK first regions regions.toNat := if_pos hc
    obtain ⟨h1, h2, h3, h4⟩ := hc
    obtain ⟨r, rfl⟩ : ∃ r : Nat, regions = r := ⟨regions.toNat, by omega⟩
    obtain ⟨f, rfl⟩ : ∃ f : Nat, first = f := ⟨first.toNat, by omega⟩
    rw [Int.toNat_natCast] at hv
    have HV := Lib.hid hv
    have d1 : decide ((r : Int) < 1) = false := by simp; omega
    have d2 : decide ((8 : Int) < (r : Int)) = false := by simp; omega
    have d3 : decide ((f : Int) < 0) = false := by simp
    have d4 : decide (r ≤ f) = false := by simp; omega
    clear hv
    go_enter Try.func8, Try.ntmps8
    go_wp2_with fail
    go_loopw [5, 23] (fun ov iv wr => ∃ k : Nat, k ≤ r ∧ iv = .int .i64 k ∧ wr.ownsRow w.heap.size 3 1 ov k ((visK f r k).map i64v) ∧ Below w.heap.size w wr) (fun _ iv => fun _ => r - (intOf iv).toNat)
    case atStart => exact ⟨0, Nat.zero_le _, rfl, World.ownsRow_nil _ _ _ _, Below.refl _ _⟩
    case round =>
      obtain ⟨k, hk, rfl, ho, hb⟩ := hrel
      obtain ⟨Ao, co, rfl, _, _, _, _⟩ := own_slice ho
      have HB := Lib.hid hb
      have HO := Lib.hid ho
      clear hb ho
      by_cases hlt : k < r
      · have hlt' : decide ((k : Int) < (r : Int)) = true := by simp; omega
        have hbe : Below wr.heap.size wr (wr.alloc (.cells #[.int .i64 (((f : Int) + k) % (r : Int))] 3)) := (Below.refl _ wr).alloc (Nat.le_refl _) _
        have HBE := Lib.hid hbe
        have HNW := Lib.hid (block_new wr (.cells #[.int .i64 (((f : Int) + k) % (r : Int))] 3))
        have HO5 := Lib.hid ((Fr.of_below (B := 0) (T := []) (S := []) hbe).own HO.out (by simp) (by simp))
        have HW5 : Hid (w.heap.size ≤ (wr.alloc (.cells #[.int .i64 (((f : Int) + k) % (r : Int))] 3)).heap.size) := Lib.hid (Nat.le_trans HB.out.size hbe.size)
        have hk8 : k < 8 := by omega
        clear hbe
        go_wp2_with (at_builtin
                     refine wpList_append_rd _ rfl (.tmp 26) (.tmp 32) 22 rfl w.heap.size 3 i0 (.int .i64 0) 1 8 Try.underlying22 hi0 hz0 hz1 hz2 rfl (by decide) (.slice Ao k co) k ((visK f r k).map i64v) rfl HO5.out (some ⟨wr.heap.size, 0, none⟩) 1 1 [i64v (((f : Int) + k) % (r : Int))] rfl (rd_cell HNW.out) (by simp [i64v, Value.oneCell']) (by unfold maxLen; omega) (by omega) HW5.out ?_
                     intro v6 w6 hown6 hgrow6 _
                     have f6 : Fr w.heap.size [3] [] (wr.alloc (.cells #[.int .i64 (((f : Int) + k) % (r : Int))] 3)) w6 := (Fr.refl _).grown hgrow6 fun j hj => by
                       obtain ⟨hb, cs, hc⟩ := own_block HO5.out hj
                       exact ⟨hb, .inr ⟨cs, _, _, hc, by simp⟩⟩
                     have HF6 := Lib.hid f6
                     have HO6 := Lib.hid hown6
                     obtain ⟨A6, c6, rfl, _, _, _, _⟩ := own_slice hown6
                     clear hown6 hgrow6 f6)
        go_roundw
        case rel =>
          refine ⟨k + 1, hlt, by go_num, ?_, (HB.out.trans (HBE.out.mono HB.out.size)).trans (HF6.out.below HW5.out)⟩
          have := HO6.out
          rw [visK_succ, List.map_append]
          exact this
        case measure => simp [intOf]; omega
      · have hlt' : decide ((k : Int) < (r : Int)) = false := by simp; omega
        have hlt'' : decide (k < r) = false := by simp; omega
        have ekr : k = r := by omega
        have HE := Lib.hid ekr
        clear ekr
        go_wp2
        go_ret
        refine ⟨_, rfl, ?_, HB.out⟩
        obtain rfl := HE.out
        rw [HV.out, visK_len]
        exact HO.out
  · have HV : Hid (visitS first regions = []) := Lib.hid (if_neg hc)
    go_enter Try.func8, Try.ntmps8
    by_cases c1 : 1 ≤ regions
    · by_cases c2 : regions ≤ 8
      · by_cases c3 : 0 ≤ first
        · have c4 : ¬ first < regions := fun h => hc ⟨c1, c2, c3, h⟩
          have d1 : decide (regions < 1) = false := by simp; omega
          have d2 : decide ((8 : Int) < regions) = false := by simp; omega
          have d3 : decide (first < 0) = false := by simp; omega
          have d4 : decide (regions ≤ first) = true := by simp; omega
          clear hc
          go_wp2
          go_ret
          exact ⟨_, rfl, by rw [HV.out]; exact World.ownsRow_nil _ _ _ _, Below.refl _ _⟩
        · have d1 : decide (regions < 1) = false := by simp; omega
          have d2 : decide ((8 : Int) < regions) = false := by simp; omega
          have d3 : decide (first < 0) = true := by simp; omega
          clear hc
          go_wp2
          go_ret
          exact ⟨_, rfl, by rw [HV.out]; exact World.ownsRow_nil _ _ _ _, Below.refl _ _⟩
      · have d1 : decide (regions < 1) = false := by simp; omega
        have d2 : decide ((8 : Int) < regions) = true := by simp; omega
        clear hc
        go_wp2
        go_ret
        exact ⟨_, rfl, by rw [HV.out]; exact World.ownsRow_nil _ _ _ _, Below.refl _ _⟩
    · have d1 : decide (regions < 1) = true := by simp; omega
      clear hc
      go_wp2
      go_ret
      exact ⟨_, rfl, by rw [HV.out]; exact World.ownsRow_nil _ _ _ _, Below.refl _ _⟩

/-- The bits that are set. -/
def placesK (c : Nat) (k : Nat) : List Nat := (List.range k).filter fun i => c.testBit i
theorem placesK_succ (c k : Nat) : placesK c (k + 1) = if c.testBit k then placesK c k ++ [k] else placesK c k := by
  unfold placesK
  rw [List.range_succ, List.filter_append]
  cases h : c.testBit k <;> simp [h]
theorem placesK_len (c k : Nat) : (placesK c k).length ≤ k := by
  unfold placesK
  have := List.length_filter_le (fun i => c.testBit i) (List.range k)
  simpa using this
def intsN (l : List Nat) : List Int := l.map Int.ofNat
theorem bit_all : ∀ c : Fin 256, ∀ k : Fin 8, (bits .and .i64 ((c.val : Int) / 2 ^ k.val) 1 == 1) = c.val.testBit k.val := by decide +kernel
theorem bit_at {c k : Nat} (hc : c < 256) (hk : k < 8) : (bits .and .i64 ((c : Int) / 2 ^ k) 1 == 1) = c.testBit k := bit_all ⟨c, hc⟩ ⟨k, hk⟩

set_option maxRecDepth 100000 in
set_option maxHeartbeats 1000000 in
theorem places_any (c : Nat) (w : World) (hc : c < 256) : Calls Try.prog 31 #[.int .i64 c] w (RetN w (intsN (placesK c 8))) := by
  obtain ⟨i0, hi0, hz0, hz1, hz2⟩ := info_parts Try.infoInt
  go_enter Try.func31, Try.ntmps31
  go_wp2_with fail
  go_loopw [3, 5] (fun ov iv wr => ∃ k : Nat, k ≤ 8 ∧ iv = .int .i64 k ∧ wr.ownsRow w.heap.size 3 1 ov (placesK c k).length ((intsN (placesK c k)).map i64v) ∧ Below w.heap.size w wr) (fun _ iv => fun _ => 8 - (intOf iv).toNat)
  case atStart => exact ⟨0, Nat.zero_le _, rfl, World.ownsRow_nil _ _ _ _, Below.refl _ _⟩
  case round =>
    obtain ⟨k, hk, rfl, ho, hb⟩ := hrel
    obtain ⟨n, hn⟩ : ∃ n, (placesK c k).length = n := ⟨_, rfl⟩
    have hnk : n ≤ 8 := by have := placesK_len c k; omega
    have hsu := placesK_succ c k
    rw [hn] at ho
    obtain ⟨Ao, co, rfl, _, _, _, _⟩ := own_slice ho
    have HB := Lib.hid hb
    have HO := Lib.hid ho
    have HN := Lib.hid hn
    have HSU := Lib.hid hsu
    clear hb ho hn hsu
    by_cases hlt : k < 8
    · have hlt' : decide ((k : Int) < 8) = true := by simp; omega
      have hbit := bit_at hc hlt
      obtain ⟨T, hT⟩ : ∃ T, c.testBit k = T := ⟨_, rfl⟩
      rw [hT] at hbit HSU
      clear hT
      cases T
      · go_wp2_with fail
        go_roundw
        case rel => exact ⟨k + 1, hlt, by go_num, by rw [HSU.out, if_neg (by simp), HN.out]; exact HO.out, HB.out⟩
        case measure => simp [intOf]; omega
      · have hbe : Below wr.heap.size wr (wr.alloc (.cells #[.int .i64 k] 3)) := (Below.refl _ wr).alloc (Nat.le_refl _) _
        have HBE := Lib.hid hbe
        have HNW := Lib.hid (block_new wr (.cells #[.int .i64 k] 3))
        have HO5 := Lib.hid ((Fr.of_below (B := 0) (T := []) (S := []) hbe).own HO.out (by simp) (by simp))
        have HW5 : Hid (w.heap.size ≤ (wr.alloc (.cells #[.int .i64 k] 3)).heap.size) := Lib.hid (Nat.le_trans HB.out.size hbe.size)
        clear hbe
        go_wp2_with (at_builtin
                     refine wpList_append_rd _ rfl (.tmp 13) (.tmp 15) 22 rfl w.heap.size 3 i0 (.int .i64 0) 1 8 Try.underlying22 hi0 hz0 hz1 hz2 rfl (by decide) (.slice Ao n co) n ((intsN (placesK c k)).map i64v) rfl HO5.out (some ⟨wr.heap.size, 0, none⟩) 1 1 [i64v k] rfl (rd_cell HNW.out) (by simp [i64v, Value.oneCell']) (by unfold maxLen; omega) (by omega) HW5.out ?_
                     intro v6 w6 hown6 hgrow6 _
                     have f6 : Fr w.heap.size [3] [] (wr.alloc (.cells #[.int .i64 k] 3)) w6 := (Fr.refl _).grown hgrow6 fun j hj => by
                       obtain ⟨hb, cs, hc⟩ := own_block HO5.out hj
                       exact ⟨hb, .inr ⟨cs, _, _, hc, by simp⟩⟩
                     have HF6 := Lib.hid f6
                     have HO6 := Lib.hid hown6
                     obtain ⟨A6, c6, rfl, _, _, _, _⟩ := own_slice hown6
                     clear hown6 hgrow6 f6)
        go_roundw
        case rel =>
          refine ⟨k + 1, hlt, by go_num, ?_, (HB.out.trans (HBE.out.mono HB.out.size)).trans (HF6.out.below HW5.out)⟩
          have := HO6.out
          rw [HSU.out, if_pos rfl, List.length_append, HN.out]
          unfold intsN
          rw [List.map_append, List.map_append]
          exact this
        case measure => simp [intOf]; omega
    · have hlt' : decide ((k : Int) < 8) = false := by simp; omega
      have ekr : k = 8 := by omega
      have HE := Lib.hid ekr
      clear ekr
      go_wp2
      go_ret
      refine ⟨_, rfl, ?_, HB.out⟩
      have h := HO.out
      rw [HE.out] at h
      have hn := HN.out
      rw [HE.out] at hn
      rw [show (intsN (placesK c 8)).length = n by unfold intsN; rw [List.length_map]; exact hn]
      exact h
end Go.Proofs.Ytlcnkicmepcppaa
