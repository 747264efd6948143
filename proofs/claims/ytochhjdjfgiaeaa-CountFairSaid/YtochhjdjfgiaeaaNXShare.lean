/- The reference's Share. -/
import Derived.Test.YtochhjdjfgiaeaaNXSh
namespace Go.Proofs.Ytochhjdjfgiaeaa
open Go.RowKit

theorem Try.infoU64' : (Try.prog.info? 50).map (fun i => (i.zero, i.size, i.bytes)) = some (some (.int .u64 0), 1, 8) := by kernel_rfl
theorem Try.infoBool' : (Try.prog.info? 4).map (fun i => (i.zero, i.size, i.bytes)) = some (some (.bool false), 1, 1) := by kernel_rfl
theorem toArray_set (l : List Value) (i : Nat) (v : Value) : l.toArray.setIfInBounds i v = (l.set i v).toArray := by simp

set_option maxRecDepth 100000 in
set_option maxHeartbeats 4000000 in
theorem xshare_core (n S left : Nat) (us : List Nat) (A : Option Addr) (c : Nat) (w : World) (hn : n ≤ 1099511627776) (hws : ∀ x ∈ us, x ≤ 1099511627776) (hS : us.sum = S) (hS0 : 0 < S) (hl : 0 < us.length ∧ us.length ≤ 64)
    (hr : Rd w 1 A us.length (us.map fun x : Nat => i64v (x : Int))) (hq : n = qS n S us us.length + left) (hlf : left < us.length) :
    Calls Try.prog 17 #[.int .i64 (n : Int), .slice A us.length c] w fun e w' => ∃ g, e = .returned (.tuple #[.slice (some ⟨g, 0, none⟩) us.length us.length, .int .i64 0]) ∧ w'.heap[g]? = some (.cells ((bump (oL n S us us.length) ((SymP.sP n S us).take left)).map i64v).toArray 3 (0, 0)) ∧ w.heap.size ≤ g ∧ Below w.heap.size w w' := by
  obtain ⟨i0, hi0, hz0, hz1, hz2⟩ := info_parts' Try.infoInt
  obtain ⟨i1, hi1, hy0, hy1, hy2⟩ := info_parts' Try.infoU64'
  obtain ⟨i2, hi2, hx0, hx1, hx2⟩ := info_parts' Try.infoBool'
  have hlen := hl.1
  have hlen2 := hl.2
  have HR := Lib.hid hr
  have hno1 : mayN (n : Int) = true := by simp [mayN]; omega
  have HNO1 := Lib.hid hno1
  have HWS := Lib.hid hws
  have HSu := Lib.hid hS
  have HQ := Lib.hid hq
  have hsb : S ≤ 70368744177664 := by have := sum_bound us hws; omega
  have HSB := Lib.hid hsb
  have he0 : ((us.length : Int) == 0) = false := by rw [beq_eq_false_iff_ne]; omega
  have he1 : ¬ (64 : Int) < (us.length : Int) := by omega
  have hmk1 := run_makeSlice (P := Try.prog) w 31 3 i0 (.int .i64 0) Try.underlying31 hi0 hz0 .i64 .i64 (us.length : Int) (us.length : Int) (by omega) (Int.le_refl _) (by rw [hz1]; omega) (by rw [hz2]; omega) (by omega)
  simp only [Int.toNat_natCast, hz1, Nat.mul_one, Value.cells, made_one] at hmk1
  obtain ⟨w1, hw1⟩ : ∃ w1, w.alloc (.cells (List.replicate us.length (Value.int .i64 0)).toArray 3) = w1 := ⟨_, rfl⟩
  rw [hw1] at hmk1
  have hmk2 := run_makeSlice (P := Try.prog) w1 60 50 i1 (.int .u64 0) Try.underlying60 hi1 hy0 .i64 .i64 (us.length : Int) (us.length : Int) (by omega) (Int.le_refl _) (by rw [hy1]; omega) (by rw [hy2]; omega) (by omega)
  simp only [Int.toNat_natCast, hy1, Nat.mul_one, Value.cells, made_one] at hmk2
  obtain ⟨w2, hw2⟩ : ∃ w2, w1.alloc (.cells (List.replicate us.length (Value.int .u64 0)).toArray 50) = w2 := ⟨_, rfl⟩
  rw [hw2] at hmk2
  have hb1 : Below w.heap.size w w1 := by rw [← hw1]; exact (Below.refl _ w).alloc (Nat.le_refl _) _
  have hb2 : Below w1.heap.size w1 w2 := by rw [← hw2]; exact (Below.refl _ w1).alloc (Nat.le_refl _) _
  have ho1 : w1.heap[w.heap.size]? = some (.cells ((oL n S us 0).map i64v).toArray 3 (0, 0)) := by rw [← hw1, oL_zero, List.map_replicate]; exact block_new w _
  have ho2 := (hb2.block _ (lt_of_block ho1)).trans ho1
  have hr2 : w2.heap[w1.heap.size]? = some (.cells (SymP.rL n S us 0).toArray 50 (0, 0)) := by rw [← hw2, SymP.rL_zero]; exact block_new w1 _
  have hne : w1.heap.size ≠ w.heap.size := by have := lt_of_block ho1; omega
  have HB2 := Lib.hid (hb1.trans (hb2.mono hb1.size))
  have HO2 := Lib.hid ho2
  have HR2 := Lib.hid hr2
  have HGO : Hid (w.heap.size ≤ w1.heap.size) := Lib.hid hb1.size
  obtain ⟨go, hgo⟩ : ∃ go, w.heap.size = go := ⟨_, rfl⟩
  obtain ⟨gr, hgr⟩ : ∃ gr, w1.heap.size = gr := ⟨_, rfl⟩
  have HSZ := Lib.hid hgo
  rw [hgo] at hmk1 HO2 hne HGO HB2 ⊢
  rw [hgr] at hmk2 HR2 hne HGO
  have HNE := Lib.hid hne
  have HMK3 := Lib.hid (fun W => run_makeSlice (P := Try.prog) W 61 4 i2 (.bool false) Try.underlying61 hi2 hx0 .i64 .i64 (us.length : Int) (us.length : Int) (by omega) (Int.le_refl _) (by rw [hx1]; omega) (by rw [hx2]; omega) (by omega))
  have HX1 := Lib.hid hx1
  clear hno1 hws hS hq hr hl hsb hi0 hz0 hz1 hz2 hi1 hy0 hy1 hy2 hi2 hx0 hx1 hx2 hb1 hb2 ho1 ho2 hr2 hw1 hw2 hgo hgr hne
  go_enter Try.func17, Try.ntmps17
  go_wp2_with fail
  refine (xmay_any (n : Int) _).mono ?_
  rintro e w3 ⟨rfl, rfl⟩
  rw [HNO1.out]
  go_wp2_with fail
  go_loopw [6, 7] (fun m i wr => ∃ k : Nat, k ≤ us.length ∧ i = .int .i64 k ∧ m = .int .i64 ((us.take k).sum : Nat) ∧ w = wr) (fun _ i _ => us.length - (intOf i).toNat)
  case atStart => exact ⟨0, Nat.zero_le _, rfl, rfl, rfl⟩
  case round =>
    obtain ⟨k, hk, rfl, rfl, rfl⟩ := hrel
    by_cases hlt : k < us.length
    · obtain ⟨g, o, rfl, hg, hcell⟩ := HR.out.2 (by omega)
      have c0 : w.cell? ⟨g, o + k, none⟩ = some (.int .i64 (us[k] : Nat)) := hcell k _ (by simp [hlt, i64v])
      have hwk := HWS.out us[k] (List.getElem_mem hlt)
      have hs1 := sum_take_succ us k hlt
      have hs2 := sum_take_le us (k + 1)
      have hsu := HSu.out
      have hsbb := HSB.out
      obtain ⟨x, hx⟩ : ∃ x, us[k] = x := ⟨_, rfl⟩
      obtain ⟨s, hs⟩ : ∃ s, (us.take k).sum = s := ⟨_, rfl⟩
      rw [hx] at c0 hwk hs1
      rw [hs] at hs1 ⊢
      have hsx : s + x ≤ 70368744177664 := by omega
      have hwr : IntKind.i64.wrap ((s : Int) + (x : Int)) = ((s + x : Nat) : Int) := by rw [IntWalk.i64_in _ (by omega)]; omega
      have HMX : Hid (mayN (x : Int) = true) := Lib.hid (by simp [mayN]; omega)
      have HS1 := Lib.hid hs1
      clear hcell hs1 hs2 hsu hsbb hx hs
      go_wp2_with fail
      refine (xmay_any _ _).mono ?_
      rintro e w3 ⟨rfl, rfl⟩
      rw [HMX.out]
      go_wp2
      go_roundw
      case rel => exact ⟨k + 1, hlt, by go_num, by rw [HS1.out, Int.natCast_add], trivial⟩
      case measure => simp [intOf]; omega
    · obtain rfl : k = us.length := by omega
      have hs : (us.take us.length).sum = S := by rw [List.take_length]; exact HSu.out
      rw [hs]
      have hS1 : ((S : Int) == 0) = false := by simp; omega
      have hwS : IntKind.u64.wrap (S : Int) = (S : Int) := by have := HSB.out; rw [IntKind.wrap_u64]; omega
      clear hs hlt hk
      go_wp2_with fail
      go_loopw [10, 11] (fun l i wr => ∃ k : Nat, k ≤ us.length ∧ i = .int .i64 k ∧ l = .int .i64 ((n : Int) - (qS n S us k : Nat)) ∧ wr.heap[go]? = some (.cells ((oL n S us k).map i64v).toArray 3 (0, 0)) ∧ wr.heap[gr]? = some (.cells (SymP.rL n S us k).toArray 50 (0, 0)) ∧ Below go w wr) (fun _ i _ => us.length - (intOf i).toNat)
      case atStart => exact ⟨0, Nat.zero_le _, rfl, by simp [qS], HO2.out, HR2.out, HB2.out⟩
      case round =>
        obtain ⟨k, hk, rfl, rfl, hout, hrest, hbw⟩ := hrel
        by_cases hlt : k < us.length
        · obtain ⟨g, o, rfl, hg, hcell⟩ := HR.out.2 (by omega)
          have hgg : g < go := by rw [← HSZ.out]; exact hg
          have c0 : wr.cell? ⟨g, o + k, none⟩ = some (.int .i64 (us[k] : Nat)) := (hbw.cell (p := ⟨g, o + k, none⟩) hgg).trans (hcell k _ (by simp [hlt, i64v]))
          have hwk := HWS.out us[k] (List.getElem_mem hlt)
          have hxs : us[k] ≤ S := by rw [← HSu.out]; exact mem_le_sum _ _ (List.getElem_mem hlt)
          have hos := oL_succ n S us k hlt
          have hrs := SymP.rL_succ n S us k hlt
          have hqs := qS_succ n S us k
          have hqm := qS_mono n S us (k + 1) us.length hlt
          have hqt := HQ.out
          have hgd : us.getD k 0 = us[k] := by simp [hlt]
          rw [hgd] at hos hrs hqs
          obtain ⟨x, hx⟩ : ∃ x, us[k] = x := ⟨_, rfl⟩
          rw [hx] at c0 hwk hxs hos hrs hqs
          have hqx : n * x / S ≤ n := by
            apply Nat.div_le_of_le_mul
            rw [Nat.mul_comm S n]
            exact Nat.mul_le_mul_left n hxs
          have hrx : n * x % S < S := Nat.mod_lt _ hS0
          have hdv := fun W => div_sh hn hxs (by have := HSB.out; omega) hS0 W
          obtain ⟨q, hq⟩ : ∃ q, n * x / S = q := ⟨_, rfl⟩
          obtain ⟨r, hrr⟩ : ∃ r, n * x % S = r := ⟨_, rfl⟩
          rw [hq] at hqx hdv hos hqs
          rw [hrr] at hrx hdv hrs
          obtain ⟨Q, hQ⟩ : ∃ Q, qS n S us k = Q := ⟨_, rfl⟩
          rw [hQ] at hqs ⊢
          have hQn : Q + q ≤ n := by omega
          have HDV := Lib.hid hdv
          have HMUL := Lib.hid (fun W => Try.bits_Mul64 n x (by omega) (by omega) W)
          have hwn : IntKind.u64.wrap (n : Int) = (n : Int) := by rw [IntKind.wrap_u64]; omega
          have hwx : IntKind.u64.wrap (x : Int) = (x : Int) := by rw [IntKind.wrap_u64]; omega
          have hwq : IntKind.i64.wrap (q : Int) = (q : Int) := IntWalk.i64_in _ (by omega)
          have hwl : IntKind.i64.wrap ((n : Int) - (Q : Int) - (q : Int)) = (n : Int) - (Q : Int) - (q : Int) := IntWalk.i64_in _ (by omega)
          have HOS := Lib.hid hos
          have HRS := Lib.hid hrs
          have HQS := Lib.hid hqs
          have HOUT := Lib.hid hout
          have HREST := Lib.hid hrest
          have HBW := Lib.hid hbw
          have hkl : (k : Int) < (us.length : Int) := by omega
          obtain ⟨H, hH⟩ : ∃ H, n * x / 18446744073709551616 = H := ⟨_, rfl⟩
          obtain ⟨L, hL⟩ : ∃ L, n * x % 18446744073709551616 = L := ⟨_, rfl⟩
          rw [hH, hL] at HMUL HDV
          clear hcell hwk hxs hdv hos hrs hqs hqm hqt hgd hx hq hrr hQ hout hrest hbw hH hL
          go_wp2_with fail
          refine (HMUL.out _).mono ?_
          rintro e w3 ⟨rfl, hw3⟩
          obtain rfl := hw3.symm
          go_wp2_with fail
          refine (HDV.out _).mono ?_
          rintro e w4 ⟨rfl, hb4⟩
          have hout4 := (hb4.block go (lt_of_block HOUT.out)).trans HOUT.out
          have hrest4 := (hb4.block gr (lt_of_block HREST.out)).trans HREST.out
          have hbw4 := HBW.out.trans (hb4.mono (Nat.le_of_lt (lt_of_block HOUT.out)))
          clear HOUT HREST HBW hb4 c0
          have HBW := Lib.hid hbw4
          have d0 : ∃ y, w4.cell? ⟨go, k, none⟩ = some (.int .i64 y) := ⟨(oL n S us k)[k]'(by rw [oL_len]; exact hlt), by rw [cell_at hout4]; simp [i64v, oL_len, hlt]⟩
          obtain ⟨y, d0⟩ := d0
          have d1 : w4.frozen? ⟨go, k, none⟩ = false := frozen_at hout4 k
          have s0 : (w4.setCell ⟨go, k, none⟩ (.int .i64 (q : Int))).heap[gr]? = some (.cells (SymP.rL n S us k).toArray 50 (0, 0)) := (Below.heap_setCell w4 ⟨go, k, none⟩ _ gr HNE.out).trans hrest4
          have d2 : ∃ y, (w4.setCell ⟨go, k, none⟩ (.int .i64 (q : Int))).cell? ⟨gr, k, none⟩ = some y := ⟨(SymP.rL n S us k)[k]'(by rw [SymP.rL_len]; exact hlt), by rw [cell_at s0]; simp [SymP.rL_len, hlt]⟩
          obtain ⟨y2, d2⟩ := d2
          have d3 : (w4.setCell ⟨go, k, none⟩ (.int .i64 (q : Int))).frozen? ⟨gr, k, none⟩ = false := frozen_at s0 k
          have s1 := block_set hout4 k (.int .i64 (q : Int))
          have s2 := block_set s0 k (.int .u64 (r : Int))
          have s3 : ((w4.setCell ⟨go, k, none⟩ (.int .i64 (q : Int))).setCell ⟨gr, k, none⟩ (.int .u64 (r : Int))).heap[go]? = _ := (Below.heap_setCell (w4.setCell ⟨go, k, none⟩ (.int .i64 (q : Int))) ⟨gr, k, none⟩ (.int .u64 (r : Int)) go HNE.out.symm).trans s1
          have s4 : Below go w ((w4.setCell ⟨go, k, none⟩ (.int .i64 (q : Int))).setCell ⟨gr, k, none⟩ (.int .u64 (r : Int))) := (hbw4.setCell (p := ⟨go, k, none⟩) (Nat.le_refl _) _).setCell (p := ⟨gr, k, none⟩) HGO.out _
          have S2 := Lib.hid s2
          have S3 := Lib.hid s3
          have S4 := Lib.hid s4
          clear hout4 hrest4 hbw4 s0 s1 s2 s3 s4
          go_wp2_with fail
          go_roundw
          case rel =>
            refine ⟨k + 1, hlt, by go_num, by rw [HQS.out]; go_num, ?_, ?_, S4.out⟩
            · rw [S3.out, HOS.out, List.map_set, toArray_set]
              rfl
            · rw [S2.out, HRS.out, toArray_set]
          case measure => simp [intOf]; omega
        · obtain rfl : k = us.length := by omega
          have hmk3 := HMK3.out wr
          simp only [Int.toNat_natCast, HX1.out, Nat.mul_one, Value.cells, made_one] at hmk3
          have hb5 : Below wr.heap.size wr (wr.alloc (.cells (List.replicate us.length (Value.bool false)).toArray 4)) := (Below.refl _ wr).alloc (Nat.le_refl _) _
          have ho5 := (hb5.block _ (lt_of_block hout)).trans hout
          have hr5 := (hb5.block _ (lt_of_block hrest)).trans hrest
          have hg5 : (wr.alloc (.cells (List.replicate us.length (Value.bool false)).toArray 4)).heap[wr.heap.size]? = some (.cells (SymP.gL n S us 0).toArray 4 (0, 0)) := by rw [SymP.gL_zero]; exact block_new wr _
          have hgo : wr.heap.size ≠ go := by have := lt_of_block hout; omega
          have hgr : wr.heap.size ≠ gr := by have := lt_of_block hrest; omega
          have HGG : Hid (go ≤ wr.heap.size) := Lib.hid (Nat.le_of_lt (lt_of_block hout))
          have HB5 := Lib.hid (hbw.trans (hb5.mono (Nat.le_of_lt (lt_of_block hout))))
          have HO5 := Lib.hid ho5
          have HR5 := Lib.hid hr5
          have HG5 := Lib.hid hg5
          obtain ⟨w5, hw5⟩ : ∃ w5, wr.alloc (.cells (List.replicate us.length (Value.bool false)).toArray 4) = w5 := ⟨_, rfl⟩
          obtain ⟨gg, hgg⟩ : ∃ gg, wr.heap.size = gg := ⟨_, rfl⟩
          rw [hw5] at HB5 HO5 HR5 HG5 hmk3
          rw [hgg] at hgo hgr HG5 HGG hmk3
          have HGO2 := Lib.hid hgo
          have HGR2 := Lib.hid hgr
          have hleft : (n : Int) - (qS n S us us.length : Nat) = (left : Int) := by have := HQ.out; omega
          rw [hleft]
          clear hout hrest hbw hb5 ho5 hr5 hg5 hgo hgr hw5 hgg hleft hlt hk
          go_wp2_with fail
          go_loopw [10] (fun l wl => ∃ k t : Nat, k + t = left ∧ l = .int .i64 (t : Int) ∧ wl.heap[go]? = some (.cells ((bump (oL n S us us.length) ((SymP.sP n S us).take k)).map i64v).toArray 3 (0, 0)) ∧ wl.heap[gr]? = some (.cells (SymP.rL n S us us.length).toArray 50 (0, 0)) ∧ wl.heap[gg]? = some (.cells (SymP.gL n S us k).toArray 4 (0, 0)) ∧ Below go w wl) (fun l _ => (intOf l).toNat)
          case atStart => exact ⟨0, left, Nat.zero_add _, rfl, HO5.out, HR5.out, HG5.out, HB5.out⟩
          case round =>
            clear HO5 HR5 HG5 HB5
            obtain ⟨k, t, hkt, rfl, hout, hrest, hgiv, hbw⟩ := hrel
            have HOUT := Lib.hid hout
            have HREST := Lib.hid hrest
            have HGIV := Lib.hid hgiv
            have HBW := Lib.hid hbw
            have HKT := Lib.hid hkt
            by_cases ht : 0 < t
            · have hti : (0 : Int) < (t : Int) := by omega
              have hkl : k < us.length := by omega
              have HKL := Lib.hid hkl
              clear hout hrest hgiv hbw hkt hkl
              go_wp2_with fail
              go_loopw [17, 18] (fun bv iv wl => ∃ (i : Nat) (v : Int), i ≤ us.length ∧ iv = .int .i64 (i : Int) ∧ bv = .int .i64 v ∧ SymP.Bst n S us k i v ∧ Below wr.heap.size wr wl) (fun _ iv _ => us.length - (intOf iv).toNat)
              case atStart => exact ⟨0, -1, Nat.zero_le _, rfl, rfl, SymP.Bst.start n S us k, Below.refl _ _⟩
              case round =>
                obtain ⟨i, v, hi, rfl, rfl, hbst, hbl⟩ := hrel
                rename World => wl
                have HBST := Lib.hid hbst
                have HBL := Lib.hid hbl
                have HGG4 := Lib.hid ((hbl.block gg (lt_of_block HGIV.out)).trans HGIV.out)
                have HGR4 := Lib.hid ((hbl.block gr (lt_of_block HREST.out)).trans HREST.out)
                by_cases hlt4 : i < us.length
                · have hil : (i : Int) < (us.length : Int) := by omega
                  have CG : Hid (wl.cell? ⟨gg, i, none⟩ = some (.bool (SymP.isIn n S us k i))) := Lib.hid (by rw [cell_at HGG4.out]; simpa using SymP.gL_get hlt4)
                  have CI : Hid (wl.cell? ⟨gr, i, none⟩ = some (.int .u64 ((SymP.rs n S us i : Nat) : Int))) := Lib.hid (by rw [cell_at HGR4.out]; simpa using SymP.rL_get hlt4)
                  clear hbst hbl
                  cases hin : SymP.isIn n S us k i
                  case true =>
                    have HIN := Lib.hid hin
                    rw [hin] at CG
                    clear hin
                    go_wp2_with fail
                    refine wp_region_flow (fun W => Below wl.heap.size wl W) [0, 1, 2, 3, 4, 5, 6, 7, 8, 9, 10, 11, 12, 13, 14, 15, 16, 17, 18, 19] (by kernel_rfl) (by kernel_rfl) (by kernel_rfl) ((Below.refl _ _).drew) ?_
                    refine flow_val ?_ rfl (by kernel_rfl) (by rfl) (fun W hW => ?_) ?_
                    rotate_left 1
                    · go_simp <;> with_reducible rfl
                    simp only [Act.put, List.setIfInBounds_toArray, List.set_cons_succ, List.set_cons_zero]
                    refine flow_val ?_ rfl (by kernel_rfl) (by rfl) (fun W hW => ?_) ?_
                    rotate_left 1
                    · go_simp <;> with_reducible rfl
                    simp only [Act.put, List.setIfInBounds_toArray, List.set_cons_succ, List.set_cons_zero]
                    refine flow_val ?_ rfl (by kernel_rfl) (by rfl) (fun W hW => ?_) ?_
                    rotate_left 1
                    · go_simp <;> with_reducible rfl
                    simp only [Act.put, List.setIfInBounds_toArray, List.set_cons_succ, List.set_cons_zero]
                    refine flow_val ?_ rfl (by kernel_rfl) (by rfl) (fun W hW => ?_) ?_
                    rotate_left 1
                    · have e0 := (hW.cell (p := ⟨gg, i, none⟩) (lt_of_block HGG4.out)).trans CG.out; go_simp <;> with_reducible rfl
                    simp only [Act.put, List.setIfInBounds_toArray, List.set_cons_succ, List.set_cons_zero]
                    refine flow_val ?_ rfl (by kernel_rfl) (by rfl) (fun W hW => ?_) ?_
                    rotate_left 1
                    · go_simp <;> with_reducible rfl
                    simp only [Act.put, List.setIfInBounds_toArray, List.set_cons_succ, List.set_cons_zero]
                    refine flow_val ?_ rfl (by kernel_rfl) (by rfl) (fun W hW => ?_) ?_
                    rotate_left 1
                    · go_simp <;> with_reducible rfl
                    simp only [Act.put, List.setIfInBounds_toArray, List.set_cons_succ, List.set_cons_zero]
                    refine flow_off rfl (by kernel_rfl) (by rfl) ?_
                    simp only [Act.put, List.setIfInBounds_toArray, List.set_cons_succ, List.set_cons_zero]
                    refine flow_off rfl (by kernel_rfl) (by rfl) ?_
                    simp only [Act.put, List.setIfInBounds_toArray, List.set_cons_succ, List.set_cons_zero]
                    refine flow_off rfl (by kernel_rfl) (by rfl) ?_
                    simp only [Act.put, List.setIfInBounds_toArray, List.set_cons_succ, List.set_cons_zero]
                    refine flow_off rfl (by kernel_rfl) (by rfl) ?_
                    simp only [Act.put, List.setIfInBounds_toArray, List.set_cons_succ, List.set_cons_zero]
                    refine flow_off rfl (by kernel_rfl) (by rfl) ?_
                    simp only [Act.put, List.setIfInBounds_toArray, List.set_cons_succ, List.set_cons_zero]
                    refine flow_off rfl (by kernel_rfl) (by rfl) ?_
                    simp only [Act.put, List.setIfInBounds_toArray, List.set_cons_succ, List.set_cons_zero]
                    refine flow_off rfl (by kernel_rfl) (by rfl) ?_
                    simp only [Act.put, List.setIfInBounds_toArray, List.set_cons_succ, List.set_cons_zero]
                    refine flow_off rfl (by kernel_rfl) (by rfl) ?_
                    simp only [Act.put, List.setIfInBounds_toArray, List.set_cons_succ, List.set_cons_zero]
                    refine flow_off rfl (by kernel_rfl) (by rfl) ?_
                    simp only [Act.put, List.setIfInBounds_toArray, List.set_cons_succ, List.set_cons_zero]
                    refine flow_off rfl (by kernel_rfl) (by rfl) ?_
                    simp only [Act.put, List.setIfInBounds_toArray, List.set_cons_succ, List.set_cons_zero]
                    refine flow_off rfl (by kernel_rfl) (by rfl) ?_
                    simp only [Act.put, List.setIfInBounds_toArray, List.set_cons_succ, List.set_cons_zero]
                    refine flow_off rfl (by kernel_rfl) (by rfl) ?_
                    simp only [Act.put, List.setIfInBounds_toArray, List.set_cons_succ, List.set_cons_zero]
                    refine flow_off rfl (by kernel_rfl) (by rfl) ?_
                    simp only [Act.put, List.setIfInBounds_toArray, List.set_cons_succ, List.set_cons_zero]
                    refine flow_val ?_ rfl (by kernel_rfl) (by rfl) (fun W hW => ?_) ?_
                    rotate_left 1
                    · go_simp <;> with_reducible rfl
                    simp only [Act.put, List.setIfInBounds_toArray, List.set_cons_succ, List.set_cons_zero]
                    refine flow_done ?_
                    intro W hW
                    have HBW4 := Lib.hid (HBL.out.trans (hW.mono HBL.out.size))
                    clear hW
                    go_wp2_with fail
                    go_roundw
                    case rel => exact ⟨i + 1, _, hlt4, by go_num, rfl, HBST.out.skip HIN.out, HBW4.out⟩
                    case measure => simp [intOf]; omega
                  case false =>
                    have HIN := Lib.hid hin
                    rw [hin] at CG
                    clear hin
                    by_cases hv : v < 0
                    · have hvb : decide (v < 0) = true := by simpa using hv
                      have HV := Lib.hid hv
                      clear hv
                      go_wp2_with fail
                      refine wp_region_flow (fun W => Below wl.heap.size wl W) [0, 1, 2, 3, 4, 5, 6, 7, 8, 9, 10, 11, 12, 13, 14, 15, 16, 17, 18, 19] (by kernel_rfl) (by kernel_rfl) (by kernel_rfl) ((Below.refl _ _).drew) ?_
                      refine flow_val ?_ rfl (by kernel_rfl) (by rfl) (fun W hW => ?_) ?_
                      rotate_left 1
                      · go_simp <;> with_reducible rfl
                      simp only [Act.put, List.setIfInBounds_toArray, List.set_cons_succ, List.set_cons_zero]
                      refine flow_val ?_ rfl (by kernel_rfl) (by rfl) (fun W hW => ?_) ?_
                      rotate_left 1
                      · go_simp <;> with_reducible rfl
                      simp only [Act.put, List.setIfInBounds_toArray, List.set_cons_succ, List.set_cons_zero]
                      refine flow_val ?_ rfl (by kernel_rfl) (by rfl) (fun W hW => ?_) ?_
                      rotate_left 1
                      · go_simp <;> with_reducible rfl
                      simp only [Act.put, List.setIfInBounds_toArray, List.set_cons_succ, List.set_cons_zero]
                      refine flow_val ?_ rfl (by kernel_rfl) (by rfl) (fun W hW => ?_) ?_
                      rotate_left 1
                      · have e0 := (hW.cell (p := ⟨gg, i, none⟩) (lt_of_block HGG4.out)).trans CG.out; go_simp <;> with_reducible rfl
                      simp only [Act.put, List.setIfInBounds_toArray, List.set_cons_succ, List.set_cons_zero]
                      refine flow_val ?_ rfl (by kernel_rfl) (by rfl) (fun W hW => ?_) ?_
                      rotate_left 1
                      · go_simp <;> with_reducible rfl
                      simp only [Act.put, List.setIfInBounds_toArray, List.set_cons_succ, List.set_cons_zero]
                      refine flow_val ?_ rfl (by kernel_rfl) (by rfl) (fun W hW => ?_) ?_
                      rotate_left 1
                      · go_simp <;> with_reducible rfl
                      simp only [Act.put, List.setIfInBounds_toArray, List.set_cons_succ, List.set_cons_zero]
                      refine flow_val ?_ rfl (by kernel_rfl) (by rfl) (fun W hW => ?_) ?_
                      rotate_left 1
                      · go_simp <;> with_reducible rfl
                      simp only [Act.put, List.setIfInBounds_toArray, List.set_cons_succ, List.set_cons_zero]
                      refine flow_val ?_ rfl (by kernel_rfl) (by rfl) (fun W hW => ?_) ?_
                      rotate_left 1
                      · go_simp <;> with_reducible rfl
                      simp only [Act.put, List.setIfInBounds_toArray, List.set_cons_succ, List.set_cons_zero]
                      refine flow_val ?_ rfl (by kernel_rfl) (by rfl) (fun W hW => ?_) ?_
                      rotate_left 1
                      · go_simp <;> with_reducible rfl
                      simp only [Act.put, List.setIfInBounds_toArray, List.set_cons_succ, List.set_cons_zero]
                      refine flow_off rfl (by kernel_rfl) (by rfl) ?_
                      simp only [Act.put, List.setIfInBounds_toArray, List.set_cons_succ, List.set_cons_zero]
                      refine flow_off rfl (by kernel_rfl) (by rfl) ?_
                      simp only [Act.put, List.setIfInBounds_toArray, List.set_cons_succ, List.set_cons_zero]
                      refine flow_off rfl (by kernel_rfl) (by rfl) ?_
                      simp only [Act.put, List.setIfInBounds_toArray, List.set_cons_succ, List.set_cons_zero]
                      refine flow_off rfl (by kernel_rfl) (by rfl) ?_
                      simp only [Act.put, List.setIfInBounds_toArray, List.set_cons_succ, List.set_cons_zero]
                      refine flow_off rfl (by kernel_rfl) (by rfl) ?_
                      simp only [Act.put, List.setIfInBounds_toArray, List.set_cons_succ, List.set_cons_zero]
                      refine flow_off rfl (by kernel_rfl) (by rfl) ?_
                      simp only [Act.put, List.setIfInBounds_toArray, List.set_cons_succ, List.set_cons_zero]
                      refine flow_off rfl (by kernel_rfl) (by rfl) ?_
                      simp only [Act.put, List.setIfInBounds_toArray, List.set_cons_succ, List.set_cons_zero]
                      refine flow_off rfl (by kernel_rfl) (by rfl) ?_
                      simp only [Act.put, List.setIfInBounds_toArray, List.set_cons_succ, List.set_cons_zero]
                      refine flow_off rfl (by kernel_rfl) (by rfl) ?_
                      simp only [Act.put, List.setIfInBounds_toArray, List.set_cons_succ, List.set_cons_zero]
                      refine flow_val ?_ rfl (by kernel_rfl) (by rfl) (fun W hW => ?_) ?_
                      rotate_left 1
                      · go_simp <;> with_reducible rfl
                      simp only [Act.put, List.setIfInBounds_toArray, List.set_cons_succ, List.set_cons_zero]
                      refine flow_val ?_ rfl (by kernel_rfl) (by rfl) (fun W hW => ?_) ?_
                      rotate_left 1
                      · go_simp <;> with_reducible rfl
                      simp only [Act.put, List.setIfInBounds_toArray, List.set_cons_succ, List.set_cons_zero]
                      refine flow_done ?_
                      intro W hW
                      have HBW4 := Lib.hid (HBL.out.trans (hW.mono HBL.out.size))
                      clear hW
                      go_wp2_with fail
                      go_roundw
                      case rel => exact ⟨i + 1, _, hlt4, by go_num, rfl, HBST.out.first HV.out HIN.out, HBW4.out⟩
                      case measure => simp [intOf]; omega
                    · obtain ⟨b, hbi, rfl, hb1, hb2⟩ := HBST.out.some (by omega)
                      have hvb : decide ((b : Int) < 0) = false := by simp
                      have CB : Hid (wl.cell? ⟨gr, b, none⟩ = some (.int .u64 ((SymP.rs n S us b : Nat) : Int))) := Lib.hid (by rw [cell_at HGR4.out]; simpa using SymP.rL_get (show b < us.length by omega))
                      have hbl : (b : Int) < (us.length : Int) := by omega
                      have hb0 : ¬ (b : Int) < 0 := by omega
                      have HBET := Lib.hid (fun h => HBST.out.better h HIN.out)
                      have HSTAY := Lib.hid (fun h => HBST.out.stay h)
                      obtain ⟨ri, hri⟩ : ∃ ri, SymP.rs n S us i = ri := ⟨_, rfl⟩
                      obtain ⟨rb, hrb⟩ : ∃ rb, SymP.rs n S us b = rb := ⟨_, rfl⟩
                      rw [hri] at CI HBET HSTAY
                      rw [hrb] at CB HBET HSTAY
                      clear hb1 hb2 hv hri hrb hbi
                      by_cases hcmp : rb < ri
                      · have hcb : decide ((rb : Int) < (ri : Int)) = true := by simpa using hcmp
                        have HCMP := Lib.hid hcmp
                        clear hcmp
                        go_wp2_with fail
                        refine wp_region_flow (fun W => Below wl.heap.size wl W) [0, 1, 2, 3, 4, 5, 6, 7, 8, 9, 10, 11, 12, 13, 14, 15, 16, 17, 18, 19] (by kernel_rfl) (by kernel_rfl) (by kernel_rfl) ((Below.refl _ _).drew) ?_
                        refine flow_val ?_ rfl (by kernel_rfl) (by rfl) (fun W hW => ?_) ?_
                        rotate_left 1
                        · go_simp <;> with_reducible rfl
                        simp only [Act.put, List.setIfInBounds_toArray, List.set_cons_succ, List.set_cons_zero]
                        refine flow_val ?_ rfl (by kernel_rfl) (by rfl) (fun W hW => ?_) ?_
                        rotate_left 1
                        · go_simp <;> with_reducible rfl
                        simp only [Act.put, List.setIfInBounds_toArray, List.set_cons_succ, List.set_cons_zero]
                        refine flow_val ?_ rfl (by kernel_rfl) (by rfl) (fun W hW => ?_) ?_
                        rotate_left 1
                        · go_simp <;> with_reducible rfl
                        simp only [Act.put, List.setIfInBounds_toArray, List.set_cons_succ, List.set_cons_zero]
                        refine flow_val ?_ rfl (by kernel_rfl) (by rfl) (fun W hW => ?_) ?_
                        rotate_left 1
                        · have e0 := (hW.cell (p := ⟨gg, i, none⟩) (lt_of_block HGG4.out)).trans CG.out; go_simp <;> with_reducible rfl
                        simp only [Act.put, List.setIfInBounds_toArray, List.set_cons_succ, List.set_cons_zero]
                        refine flow_val ?_ rfl (by kernel_rfl) (by rfl) (fun W hW => ?_) ?_
                        rotate_left 1
                        · go_simp <;> with_reducible rfl
                        simp only [Act.put, List.setIfInBounds_toArray, List.set_cons_succ, List.set_cons_zero]
                        refine flow_val ?_ rfl (by kernel_rfl) (by rfl) (fun W hW => ?_) ?_
                        rotate_left 1
                        · go_simp <;> with_reducible rfl
                        simp only [Act.put, List.setIfInBounds_toArray, List.set_cons_succ, List.set_cons_zero]
                        refine flow_val ?_ rfl (by kernel_rfl) (by rfl) (fun W hW => ?_) ?_
                        rotate_left 1
                        · go_simp <;> with_reducible rfl
                        simp only [Act.put, List.setIfInBounds_toArray, List.set_cons_succ, List.set_cons_zero]
                        refine flow_val ?_ rfl (by kernel_rfl) (by rfl) (fun W hW => ?_) ?_
                        rotate_left 1
                        · go_simp <;> with_reducible rfl
                        simp only [Act.put, List.setIfInBounds_toArray, List.set_cons_succ, List.set_cons_zero]
                        refine flow_val ?_ rfl (by kernel_rfl) (by rfl) (fun W hW => ?_) ?_
                        rotate_left 1
                        · go_simp <;> with_reducible rfl
                        simp only [Act.put, List.setIfInBounds_toArray, List.set_cons_succ, List.set_cons_zero]
                        refine flow_val ?_ rfl (by kernel_rfl) (by rfl) (fun W hW => ?_) ?_
                        rotate_left 1
                        · go_simp <;> with_reducible rfl
                        simp only [Act.put, List.setIfInBounds_toArray, List.set_cons_succ, List.set_cons_zero]
                        refine flow_val ?_ rfl (by kernel_rfl) (by rfl) (fun W hW => ?_) ?_
                        rotate_left 1
                        · go_simp <;> with_reducible rfl
                        simp only [Act.put, List.setIfInBounds_toArray, List.set_cons_succ, List.set_cons_zero]
                        refine flow_val ?_ rfl (by kernel_rfl) (by rfl) (fun W hW => ?_) ?_
                        rotate_left 1
                        · go_simp <;> with_reducible rfl
                        simp only [Act.put, List.setIfInBounds_toArray, List.set_cons_succ, List.set_cons_zero]
                        refine flow_val ?_ rfl (by kernel_rfl) (by rfl) (fun W hW => ?_) ?_
                        rotate_left 1
                        · have e1 := (hW.cell (p := ⟨gr, i, none⟩) (lt_of_block HGR4.out)).trans CI.out; go_simp <;> with_reducible rfl
                        simp only [Act.put, List.setIfInBounds_toArray, List.set_cons_succ, List.set_cons_zero]
                        refine flow_val ?_ rfl (by kernel_rfl) (by rfl) (fun W hW => ?_) ?_
                        rotate_left 1
                        · go_simp <;> with_reducible rfl
                        simp only [Act.put, List.setIfInBounds_toArray, List.set_cons_succ, List.set_cons_zero]
                        refine flow_val ?_ rfl (by kernel_rfl) (by rfl) (fun W hW => ?_) ?_
                        rotate_left 1
                        · go_simp <;> with_reducible rfl
                        simp only [Act.put, List.setIfInBounds_toArray, List.set_cons_succ, List.set_cons_zero]
                        refine flow_val ?_ rfl (by kernel_rfl) (by rfl) (fun W hW => ?_) ?_
                        rotate_left 1
                        · go_simp <;> with_reducible rfl
                        simp only [Act.put, List.setIfInBounds_toArray, List.set_cons_succ, List.set_cons_zero]
                        refine flow_val ?_ rfl (by kernel_rfl) (by rfl) (fun W hW => ?_) ?_
                        rotate_left 1
                        · have e2 := (hW.cell (p := ⟨gr, b, none⟩) (lt_of_block HGR4.out)).trans CB.out; go_simp <;> with_reducible rfl
                        simp only [Act.put, List.setIfInBounds_toArray, List.set_cons_succ, List.set_cons_zero]
                        refine flow_val ?_ rfl (by kernel_rfl) (by rfl) (fun W hW => ?_) ?_
                        rotate_left 1
                        · go_simp <;> with_reducible rfl
                        simp only [Act.put, List.setIfInBounds_toArray, List.set_cons_succ, List.set_cons_zero]
                        refine flow_val ?_ rfl (by kernel_rfl) (by rfl) (fun W hW => ?_) ?_
                        rotate_left 1
                        · go_simp <;> with_reducible rfl
                        simp only [Act.put, List.setIfInBounds_toArray, List.set_cons_succ, List.set_cons_zero]
                        refine flow_val ?_ rfl (by kernel_rfl) (by rfl) (fun W hW => ?_) ?_
                        rotate_left 1
                        · go_simp <;> with_reducible rfl
                        simp only [Act.put, List.setIfInBounds_toArray, List.set_cons_succ, List.set_cons_zero]
                        refine flow_done ?_
                        intro W hW
                        have HBW4 := Lib.hid (HBL.out.trans (hW.mono HBL.out.size))
                        clear hW
                        go_wp2_with fail
                        go_roundw
                        case rel => exact ⟨i + 1, _, hlt4, by go_num, rfl, HBET.out HCMP.out, HBW4.out⟩
                        case measure => simp [intOf]; omega
                      · have hcb : decide ((rb : Int) < (ri : Int)) = false := by simpa using hcmp
                        have HCMP := Lib.hid hcmp
                        clear hcmp
                        go_wp2_with fail
                        refine wp_region_flow (fun W => Below wl.heap.size wl W) [0, 1, 2, 3, 4, 5, 6, 7, 8, 9, 10, 11, 12, 13, 14, 15, 16, 17, 18, 19] (by kernel_rfl) (by kernel_rfl) (by kernel_rfl) ((Below.refl _ _).drew) ?_
                        refine flow_val ?_ rfl (by kernel_rfl) (by rfl) (fun W hW => ?_) ?_
                        rotate_left 1
                        · go_simp <;> with_reducible rfl
                        simp only [Act.put, List.setIfInBounds_toArray, List.set_cons_succ, List.set_cons_zero]
                        refine flow_val ?_ rfl (by kernel_rfl) (by rfl) (fun W hW => ?_) ?_
                        rotate_left 1
                        · go_simp <;> with_reducible rfl
                        simp only [Act.put, List.setIfInBounds_toArray, List.set_cons_succ, List.set_cons_zero]
                        refine flow_val ?_ rfl (by kernel_rfl) (by rfl) (fun W hW => ?_) ?_
                        rotate_left 1
                        · go_simp <;> with_reducible rfl
                        simp only [Act.put, List.setIfInBounds_toArray, List.set_cons_succ, List.set_cons_zero]
                        refine flow_val ?_ rfl (by kernel_rfl) (by rfl) (fun W hW => ?_) ?_
                        rotate_left 1
                        · have e0 := (hW.cell (p := ⟨gg, i, none⟩) (lt_of_block HGG4.out)).trans CG.out; go_simp <;> with_reducible rfl
                        simp only [Act.put, List.setIfInBounds_toArray, List.set_cons_succ, List.set_cons_zero]
                        refine flow_val ?_ rfl (by kernel_rfl) (by rfl) (fun W hW => ?_) ?_
                        rotate_left 1
                        · go_simp <;> with_reducible rfl
                        simp only [Act.put, List.setIfInBounds_toArray, List.set_cons_succ, List.set_cons_zero]
                        refine flow_val ?_ rfl (by kernel_rfl) (by rfl) (fun W hW => ?_) ?_
                        rotate_left 1
                        · go_simp <;> with_reducible rfl
                        simp only [Act.put, List.setIfInBounds_toArray, List.set_cons_succ, List.set_cons_zero]
                        refine flow_val ?_ rfl (by kernel_rfl) (by rfl) (fun W hW => ?_) ?_
                        rotate_left 1
                        · go_simp <;> with_reducible rfl
                        simp only [Act.put, List.setIfInBounds_toArray, List.set_cons_succ, List.set_cons_zero]
                        refine flow_val ?_ rfl (by kernel_rfl) (by rfl) (fun W hW => ?_) ?_
                        rotate_left 1
                        · go_simp <;> with_reducible rfl
                        simp only [Act.put, List.setIfInBounds_toArray, List.set_cons_succ, List.set_cons_zero]
                        refine flow_val ?_ rfl (by kernel_rfl) (by rfl) (fun W hW => ?_) ?_
                        rotate_left 1
                        · go_simp <;> with_reducible rfl
                        simp only [Act.put, List.setIfInBounds_toArray, List.set_cons_succ, List.set_cons_zero]
                        refine flow_val ?_ rfl (by kernel_rfl) (by rfl) (fun W hW => ?_) ?_
                        rotate_left 1
                        · go_simp <;> with_reducible rfl
                        simp only [Act.put, List.setIfInBounds_toArray, List.set_cons_succ, List.set_cons_zero]
                        refine flow_val ?_ rfl (by kernel_rfl) (by rfl) (fun W hW => ?_) ?_
                        rotate_left 1
                        · go_simp <;> with_reducible rfl
                        simp only [Act.put, List.setIfInBounds_toArray, List.set_cons_succ, List.set_cons_zero]
                        refine flow_val ?_ rfl (by kernel_rfl) (by rfl) (fun W hW => ?_) ?_
                        rotate_left 1
                        · go_simp <;> with_reducible rfl
                        simp only [Act.put, List.setIfInBounds_toArray, List.set_cons_succ, List.set_cons_zero]
                        refine flow_val ?_ rfl (by kernel_rfl) (by rfl) (fun W hW => ?_) ?_
                        rotate_left 1
                        · have e1 := (hW.cell (p := ⟨gr, i, none⟩) (lt_of_block HGR4.out)).trans CI.out; go_simp <;> with_reducible rfl
                        simp only [Act.put, List.setIfInBounds_toArray, List.set_cons_succ, List.set_cons_zero]
                        refine flow_val ?_ rfl (by kernel_rfl) (by rfl) (fun W hW => ?_) ?_
                        rotate_left 1
                        · go_simp <;> with_reducible rfl
                        simp only [Act.put, List.setIfInBounds_toArray, List.set_cons_succ, List.set_cons_zero]
                        refine flow_val ?_ rfl (by kernel_rfl) (by rfl) (fun W hW => ?_) ?_
                        rotate_left 1
                        · go_simp <;> with_reducible rfl
                        simp only [Act.put, List.setIfInBounds_toArray, List.set_cons_succ, List.set_cons_zero]
                        refine flow_val ?_ rfl (by kernel_rfl) (by rfl) (fun W hW => ?_) ?_
                        rotate_left 1
                        · go_simp <;> with_reducible rfl
                        simp only [Act.put, List.setIfInBounds_toArray, List.set_cons_succ, List.set_cons_zero]
                        refine flow_val ?_ rfl (by kernel_rfl) (by rfl) (fun W hW => ?_) ?_
                        rotate_left 1
                        · have e2 := (hW.cell (p := ⟨gr, b, none⟩) (lt_of_block HGR4.out)).trans CB.out; go_simp <;> with_reducible rfl
                        simp only [Act.put, List.setIfInBounds_toArray, List.set_cons_succ, List.set_cons_zero]
                        refine flow_val ?_ rfl (by kernel_rfl) (by rfl) (fun W hW => ?_) ?_
                        rotate_left 1
                        · go_simp <;> with_reducible rfl
                        simp only [Act.put, List.setIfInBounds_toArray, List.set_cons_succ, List.set_cons_zero]
                        refine flow_val ?_ rfl (by kernel_rfl) (by rfl) (fun W hW => ?_) ?_
                        rotate_left 1
                        · go_simp <;> with_reducible rfl
                        simp only [Act.put, List.setIfInBounds_toArray, List.set_cons_succ, List.set_cons_zero]
                        refine flow_val ?_ rfl (by kernel_rfl) (by rfl) (fun W hW => ?_) ?_
                        rotate_left 1
                        · go_simp <;> with_reducible rfl
                        simp only [Act.put, List.setIfInBounds_toArray, List.set_cons_succ, List.set_cons_zero]
                        refine flow_done ?_
                        intro W hW
                        have HBW4 := Lib.hid (HBL.out.trans (hW.mono HBL.out.size))
                        clear hW
                        go_wp2_with fail
                        go_roundw
                        case rel => exact ⟨i + 1, _, hlt4, by go_num, rfl, HSTAY.out HCMP.out, HBW4.out⟩
                        case measure => simp [intOf]; omega
                · obtain rfl : i = us.length := by omega
                  obtain ⟨b, hb1, rfl, hb2, hb3⟩ := hbst.last HKL.out
                  have hob := (hbl.block go (lt_of_block HOUT.out)).trans HOUT.out
                  have hbn := SymP.bump_next (n := n) (S := S) HKL.out (oL n S us us.length)
                  have hgn := SymP.gL_succ (n := n) (S := S) HKL.out
                  rw [hb2] at hbn hgn
                  have hbb := bump_bound (n : Int) ((SymP.sP n S us).take k) (oL n S us us.length) (oL_bound n S us us.length (fun x hx => by rw [← HSu.out]; exact mem_le_sum _ _ hx)) (by omega)
                  have hbl2 : (bump (oL n S us us.length) ((SymP.sP n S us).take k)).length = us.length := by rw [bump_len, oL_len]
                  obtain ⟨B, hB⟩ : ∃ B, bump (oL n S us us.length) ((SymP.sP n S us).take k) = B := ⟨_, rfl⟩
                  rw [hB] at hob hbn hbb hbl2
                  have hbB : b < B.length := by omega
                  have hyb := hbb B[b] (List.getElem_mem hbB)
                  have hgd : B.getD b 0 = B[b] := by simp [hbB]
                  rw [hgd] at hbn
                  have d0 : wl.cell? ⟨go, b, none⟩ = some (.int .i64 B[b]) := by rw [cell_at hob]; simp [i64v, hbB]
                  have d1 : wl.frozen? ⟨go, b, none⟩ = false := frozen_at hob b
                  obtain ⟨y, hy⟩ : ∃ y, B[b] = y := ⟨_, rfl⟩
                  rw [hy] at hyb d0 hbn
                  have htl : ((SymP.sP n S us).take k).length ≤ 64 := by have := HKL.out; rw [List.length_take]; omega
                  have hwy : IntKind.i64.wrap (y + 1) = y + 1 := IntWalk.i64_in _ (by omega)
                  have s0 : (wl.setCell ⟨go, b, none⟩ (.int .i64 (y + 1))).heap[gg]? = some (.cells (SymP.gL n S us k).toArray 4 (0, 0)) := (Below.heap_setCell wl ⟨go, b, none⟩ _ gg HGO2.out).trans HGG4.out
                  have s5 : (wl.setCell ⟨go, b, none⟩ (.int .i64 (y + 1))).heap[gr]? = some (.cells (SymP.rL n S us us.length).toArray 50 (0, 0)) := (Below.heap_setCell wl ⟨go, b, none⟩ _ gr HNE.out).trans HGR4.out
                  have d2 : (wl.setCell ⟨go, b, none⟩ (.int .i64 (y + 1))).cell? ⟨gg, b, none⟩ = some (.bool false) := by rw [cell_at s0]; simpa [hb3] using SymP.gL_get (n := n) (S := S) (k := k) hb1
                  have d3 : (wl.setCell ⟨go, b, none⟩ (.int .i64 (y + 1))).frozen? ⟨gg, b, none⟩ = false := frozen_at s0 b
                  have s1 := block_set hob b (.int .i64 (y + 1))
                  have s2 := block_set s0 b (.bool true)
                  have s3 : ((wl.setCell ⟨go, b, none⟩ (.int .i64 (y + 1))).setCell ⟨gg, b, none⟩ (.bool true)).heap[go]? = _ := (Below.heap_setCell (wl.setCell ⟨go, b, none⟩ (.int .i64 (y + 1))) ⟨gg, b, none⟩ (.bool true) go HGO2.out.symm).trans s1
                  have s6 : ((wl.setCell ⟨go, b, none⟩ (.int .i64 (y + 1))).setCell ⟨gg, b, none⟩ (.bool true)).heap[gr]? = _ := (Below.heap_setCell (wl.setCell ⟨go, b, none⟩ (.int .i64 (y + 1))) ⟨gg, b, none⟩ (.bool true) gr HGR2.out.symm).trans s5
                  have s4 : Below go w ((wl.setCell ⟨go, b, none⟩ (.int .i64 (y + 1))).setCell ⟨gg, b, none⟩ (.bool true)) := ((HBW.out.trans (hbl.mono (Nat.le_of_lt (lt_of_block HOUT.out)))).setCell (p := ⟨go, b, none⟩) (Nat.le_refl _) _).setCell (p := ⟨gg, b, none⟩) HGG.out _
                  have S2 := Lib.hid s2
                  have S3 := Lib.hid s3
                  have S4 := Lib.hid s4
                  have S6 := Lib.hid s6
                  have HBN := Lib.hid hbn
                  have HGN := Lib.hid hgn
                  have hbi : (b : Int) < (us.length : Int) := by omega
                  have hb0 : ¬ (b : Int) < 0 := by omega
                  obtain ⟨t', ht'⟩ : ∃ t', t - 1 = t' := ⟨_, rfl⟩
                  have hst : (t : Int) - 1 = (t' : Int) := by omega
                  have hwt : IntKind.i64.wrap (t' : Int) = (t' : Int) := IntWalk.i64_in _ (by have := HKT.out; omega)
                  have HT : Hid (t' + 1 = t) := Lib.hid (by omega)
                  clear s0 s1 s2 s3 s4 s5 s6 hbn hgn hob hbb hbl2 hB hyb hgd hy htl hb2 hb3 hbst hbl ht'
                  go_wp2_with fail
                  go_roundw
                  case rel =>
                    refine ⟨k + 1, t', by have := HKT.out; have := HT.out; omega, rfl, ?_, S6.out, ?_, S4.out⟩
                    · rw [S3.out, HBN.out, List.map_set, toArray_set]
                      rfl
                    · rw [S2.out, HGN.out, toArray_set]
                  case measure => have := HT.out; simp [intOf]; omega
            · obtain rfl : t = 0 := by omega
              obtain rfl : k = left := by omega
              clear hout hrest hgiv hbw hkt
              go_wp2
              go_ret2
              exact ⟨go, rfl, HOUT.out, Nat.le_refl _, HBW.out⟩
end Go.Proofs.Ytochhjdjfgiaeaa
