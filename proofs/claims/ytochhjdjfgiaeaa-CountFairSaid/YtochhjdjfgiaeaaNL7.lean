/- The law CountFair: of two weights the greater one gets no less; with twice the weights all get the same. The walk. -/
import Derived.Test.YtochhjdjfgiaeaaNShLaw
import Derived.Test.YtochhjdjfgiaeaaNLives
import Derived.Test.YtochhjdjfgiaeaaNL4
namespace Go.Proofs.Ytochhjdjfgiaeaa
open Go.RowKit

theorem own_nil (w : World) (T : TypeId) (b : Nat) : w.ownsRow b T 1 (.slice none 0 0) 0 [] := World.ownsRow_nil _ _ _ _

set_option maxRecDepth 100000 in
set_option maxHeartbeats 4000000 in
theorem fair_any (n : Int) (A : Option Addr) (c : Nat) (xs : List Int) (w : World) (hr : Rd w 1 A xs.length (xs.map i64v)) (hc9 : c ≤ 140737488355328) :
    Calls Try.prog 6 #[.int .i64 n, .slice A xs.length c] w fun e w' => e = .returned (.bool true) ∧ Below w.heap.size w w' := by
  obtain ⟨i0, hi0, hz0, hz1, hz2⟩ := info_parts' Try.infoI
  have HR := Lib.hid hr
  clear hr
  go_enter Try.func6, Try.ntmps6
  by_cases hl : 64 < xs.length
  · clear hi0 hz0 hz1 hz2
    go_wp2_with fail
    refine (lives_any w).mono ?_
    rintro e w1 ⟨rfl, h1⟩
    have H1 := Lib.hid (h1)
    clear h1
    go_wp2
    go_ret
    exact ⟨rfl, H1.out⟩
  · have hl' : xs.length ≤ 64 := by omega
    obtain ⟨B, hB⟩ : ∃ B, w.heap.size = B := ⟨_, rfl⟩
    have HB := Lib.hid hB
    rw [hB]
    clear hB
    go_wp2_with fail
    go_loopw [5, 6] (fun v iv wl => ∃ k : Nat, k ≤ xs.length ∧ iv = .int .i64 (k : Int) ∧ (∀ x ∈ xs.take k, 0 ≤ x ∧ x ≤ 549755813888) ∧ wl.ownsRow B 3 1 v k (((xs.take k).map (2 * ·)).map i64v) ∧ Below B w wl) (fun _ iv _ => xs.length - (intOf iv).toNat)
    case atStart => exact ⟨0, Nat.zero_le _, rfl, by simp, by simpa using own_nil w 3 B, HB.out ▸ Below.refl _ _⟩
    case round =>
      obtain ⟨k, hk, rfl, hall, hown, hbl⟩ := hrel
      rename World => wl
      have HALL := Lib.hid hall
      have HOWN := Lib.hid hown
      have HBL := Lib.hid hbl
      have HSZ : Hid (B ≤ wl.heap.size) := Lib.hid (HB.out ▸ hbl.size)
      by_cases hlt : k < xs.length
      · obtain ⟨gA, oA, eA, hgA, hcA⟩ := HR.out.2 (by omega)
        subst eA
        have c0 : wl.cell? ⟨gA, oA + k, none⟩ = some (.int .i64 xs[k]) := (hbl.cell (p := ⟨gA, oA + k, none⟩) (by rw [← HB.out]; exact hgA)).trans (hcA k _ (by simp [hlt, i64v]))
        have htk : xs.take (k + 1) = xs.take k ++ [xs[k]] := List.take_succ_eq_append_getElem hlt
        obtain ⟨x, hx⟩ : ∃ x, xs[k] = x := ⟨_, rfl⟩
        rw [hx] at c0 htk
        have HTK := Lib.hid htk
        clear hcA htk hx hall
        by_cases hx0 : x < 0
        · clear hown hbl hi0 hz0 hz1 hz2
          go_wp2_with fail
          refine (lives_any wl).mono ?_
          rintro e w1 ⟨rfl, h1⟩
          have H1 := Lib.hid (HBL.out.trans (h1.mono HSZ.out))
          clear h1
          go_wp2
          go_ret
          exact ⟨rfl, H1.out⟩
        · by_cases hx9 : 549755813888 < x
          · clear hown hbl hi0 hz0 hz1 hz2
            go_wp2_with fail
            refine (lives_any wl).mono ?_
            rintro e w1 ⟨rfl, h1⟩
            have H1 := Lib.hid (HBL.out.trans (h1.mono HSZ.out))
            clear h1
            go_wp2
            go_ret
            exact ⟨rfl, H1.out⟩
          · have hw2 : IntKind.i64.wrap (2 * x) = 2 * x := IntWalk.i64_in _ (by omega)
            have HX : Hid (0 ≤ x ∧ x ≤ 549755813888) := Lib.hid (by omega)
            obtain ⟨Av, cv, rfl, _, hcv, _, _⟩ := own_slice hown
            have hcv' : cv ≤ 9223372036854775807 := by unfold maxLen at hcv; omega
            have bA : Below wl.heap.size wl (wl.alloc (.cells #[.int .i64 (2 * x)] 3)) := (Below.refl _ _).alloc (Nat.le_refl _) _
            have HOSA := Lib.hid ((Fr.of_below (B := 0) (T := []) (S := []) bA).own hown (by simp) (by simp))
            have HRN := Lib.hid (rd_row wl 3 [.int .i64 (2 * x)] 1 1 rfl)
            have HBA := Lib.hid bA
            have hsz : B ≤ wl.heap.size := HSZ.out
            clear bA hown hbl hcv
            go_wp2_with (first
              | (at_builtin
                 refine wpList_append_rd _ rfl (.tmp 36) (.tmp 42) 31 rfl B 3 i0 (.int .i64 0) 1 8 Try.underlying31 hi0 hz0 hz1 hz2 rfl (by decide) (.slice Av k cv) _ _ rfl HOSA.out (some ⟨wl.heap.size, 0, none⟩) 1 1 [.int .i64 (2 * x)] rfl HRN.out (by simp [Value.oneCell']) (by unfold maxLen; omega) (by omega) (by simp; omega) ?_
                 intro v5 w5 hown5 hgrow5 _
                 have HO5 := Lib.hid hown5
                 have F5 := Lib.hid ((Fr.of_below (B := B) (T := [3]) (S := []) HBA.out).grown hgrow5 (fun j hj => by
                   obtain ⟨hbs, cs, hc⟩ := own_block HOSA.out hj
                   exact ⟨hbs, .inr ⟨cs, _, _, hc, by simp⟩⟩))
                 clear hown5 hgrow5))
            go_roundw
            case rel =>
              refine ⟨k + 1, hlt, by go_num, fun y hy => ?_, ?_, HBL.out.trans (F5.out.below HSZ.out)⟩
              · rw [HTK.out, List.mem_append, List.mem_singleton] at hy
                rcases hy with e | e
                · exact HALL.out y e
                · rw [e]; exact HX.out
              · rw [HTK.out, List.map_append, List.map_append]
                exact HO5.out
            case measure => simp [intOf]; omega
      · obtain rfl : k = xs.length := by omega
        rw [List.take_length] at hall hown
        obtain ⟨A2, c2, rfl, _, km2, hr2, _⟩ := own_slice hown
        have hc2 : c2 ≤ 9223372036854775807 := by unfold maxLen at km2; omega
        have HRX := Lib.hid (HR.out.below (HB.out ▸ hbl))
        have HR2 : Hid (Rd wl 1 A2 (xs.map (2 * ·)).length ((xs.map (2 * ·)).map i64v)) := Lib.hid (by rw [List.length_map]; exact hr2)
        have HLN : Hid ((xs.map (2 * ·)).length = xs.length) := Lib.hid (List.length_map _)
        have HALLX := Lib.hid hall
        clear hi0 hz0 hz1 hz2 km2 hr2 hown hall hbl HOWN HALL
        by_cases hmay : ∃ N us, MaySh n xs N us
        case neg =>
          have HNO : Hid (¬ ∃ N us, MaySh n (xs.map (2 * ·)) N us) := Lib.hid (fun ⟨N, us, h⟩ => hmay (h.half HALLX.out))
          have HMAY := Lib.hid hmay
          clear hmay
          go_wp2_with fail
          refine (share_no HMAY.out A c wl (by omega) HRX.out).mono ?_
          rintro e w3 ⟨rfl, h3⟩
          have H3 := Lib.hid (HBL.out.trans (h3.mono HSZ.out))
          have HR3 := Lib.hid (HR2.out.below h3)
          have HS3 := Lib.hid (Nat.le_trans HSZ.out h3.size)
          clear h3
          have h2 := share_no HNO.out A2 c2 w3 (by rw [HLN.out]; omega) HR3.out
          rw [HLN.out] at h2
          go_wp2_with fail
          refine h2.mono ?_
          clear h2
          rintro e w4 ⟨rfl, h4⟩
          have H4 := Lib.hid (H3.out.trans (h4.mono HS3.out))
          have HS4 := Lib.hid (Nat.le_trans HS3.out h4.size)
          clear h4
          go_wp2_with fail
          refine (lives_any w4).mono ?_
          rintro e w5 ⟨rfl, h5⟩
          have H5 := Lib.hid (H4.out.trans (h5.mono HS4.out))
          clear h5
          go_wp2_with fail
          go_loopw [11] (fun i wl => i = .int .i64 0 ∧ w5 = wl) (fun _ _ => 0)
          case atStart => exact ⟨rfl, rfl⟩
          case round =>
            obtain ⟨rfl, rfl⟩ := hrel
            go_wp2
            go_ret
            exact ⟨rfl, H5.out⟩
        case pos =>
          obtain ⟨N, us, hm⟩ := hmay
          have HM := Lib.hid hm
          have HM2 := Lib.hid (hm.dbl HALLX.out)
          have hxl : xs.length = us.length := by rw [hm.wts, List.length_map]
          have HXL := Lib.hid hxl
          have hnN : n = (N : Int) := hm.num
          have HNN := Lib.hid hnN
          clear hm hxl hnN
          go_wp2_with fail
          refine (share_ok HM.out A c wl HRX.out).mono ?_
          rintro e w3 ⟨g1, rfl, hg1, _, h3⟩
          have H3 := Lib.hid (HBL.out.trans (h3.mono HSZ.out))
          have HR3 := Lib.hid (HR2.out.below h3)
          have HS3 := Lib.hid (Nat.le_trans HSZ.out h3.size)
          have HG1 := Lib.hid hg1
          clear h3 hg1
          have h2 := share_ok HM2.out A2 c2 w3 HR3.out
          rw [HLN.out, shO_dbl] at h2
          go_wp2_with fail
          refine h2.mono ?_
          clear h2
          rintro e w4 ⟨g2, rfl, hg2, _, h4⟩
          have H4 := Lib.hid (H3.out.trans (h4.mono HS3.out))
          have HS4 := Lib.hid (Nat.le_trans HS3.out h4.size)
          have HG4 := Lib.hid ((h4.block g1 (lt_of_block HG1.out)).trans HG1.out)
          have HG2 := Lib.hid hg2
          clear h4 hg2
          go_wp2_with fail
          refine (lives_any w4).mono ?_
          rintro e w5 ⟨rfl, h5⟩
          have H5 := Lib.hid (H4.out.trans (h5.mono HS4.out))
          have HS5 := Lib.hid (Nat.le_trans HS4.out h5.size)
          have HG5 := Lib.hid ((h5.block g1 (lt_of_block HG4.out)).trans HG4.out)
          have HG6 := Lib.hid ((h5.block g2 (lt_of_block HG2.out)).trans HG2.out)
          have HR5 := Lib.hid (HR.out.below (HB.out ▸ H5.out))
          clear h5 HG1 HG2 HG4 HR2 HR3 H3 H4 HRX HM2 HS3 HS4 HBL HSZ
          obtain ⟨o, ho⟩ : ∃ o, shO N us = o := ⟨_, rfl⟩
          rw [ho] at HG5 HG6
          have hol : o.length = xs.length := by rw [← ho, shO_len, HXL.out]
          have HOL := Lib.hid hol
          have HON : Hid (∀ x ∈ o, 0 ≤ x) := Lib.hid (by rw [← ho]; exact shO_nn HM.out.sum)
          have HOM : Hid (∀ i, o.getD i 0 ≤ (N : Int)) := Lib.hid (fun i => by rw [← ho]; exact shO_le HM.out.sum i)
          have HOF : Hid (∀ i k, i < us.length → k < us.length → us.getD k 0 < us.getD i 0 → o.getD k 0 ≤ o.getD i 0) := Lib.hid (fun i k hi hk h => by rw [← ho]; exact shO_fair HM.out.sum hi hk h)
          clear ho hol
          go_wp2_with fail
          go_loopw [11] (fun iv wl => ∃ i : Nat, i ≤ xs.length ∧ iv = .int .i64 (i : Int) ∧ Below w5.heap.size w5 wl) (fun iv _ => xs.length - (intOf iv).toNat)
          case atStart => exact ⟨0, Nat.zero_le _, rfl, Below.refl _ _⟩
          case round =>
            obtain ⟨i, hi, rfl, hbl⟩ := hrel
            rename World => wl
            have HBL := Lib.hid hbl
            by_cases hlt : i < xs.length
            · have hil : (i : Int) < (xs.length : Int) := by omega
              have hio : i < o.length := by rw [HOL.out]; exact hlt
              have hiu : i < us.length := by rw [← HXL.out]; exact hlt
              obtain ⟨gA, oA, eA, hgA, hcA⟩ := HR5.out.2 (by omega)
              subst eA
              have HCA := Lib.hid hcA
              have HGA := Lib.hid hgA
              have hgi : o.getD i 0 = o[i] := by simp [hio]
              have hy0 := HON.out o[i] (List.getElem_mem hio)
              have hy1 := HOM.out i
              rw [hgi] at hy1
              have hxu : xs[i] = ((us.getD i 0 : Nat) : Int) := by
                have := HM.out.wts
                simp [this, hiu]
              have hnn := HNN.out
              obtain ⟨x, hx⟩ : ∃ x, xs[i] = x := ⟨_, rfl⟩
              obtain ⟨y, hy⟩ : ∃ y, o[i] = y := ⟨_, rfl⟩
              rw [hx] at hxu
              rw [hy] at hgi hy0 hy1
              have hyb0 : decide (y < 0) = false := by simpa using hy0
              have hybn : decide (n < y) = false := by simp; omega
              have CC : Hid (∀ W, Below wl.heap.size wl W → W.cell? ⟨g1, i, none⟩ = some (.int .i64 y) ∧ W.cell? ⟨g2, i, none⟩ = some (.int .i64 y) ∧ W.cell? ⟨gA, oA + i, none⟩ = some (.int .i64 x)) := Lib.hid (fun W hW => by
                have b1 := hbl.trans (hW.mono hbl.size)
                refine ⟨?_, ?_, ?_⟩
                · rw [cell_at ((b1.block g1 (lt_of_block HG5.out)).trans HG5.out)]
                  simp [i64v, hio, hy]
                · rw [cell_at ((b1.block g2 (lt_of_block HG6.out)).trans HG6.out)]
                  simp [i64v, hio, hy]
                · exact (b1.cell (p := ⟨gA, oA + i, none⟩) hgA).trans (hcA i _ (by simp [hlt, i64v, hx])))
              have HXU := Lib.hid hxu
              have HGI := Lib.hid hgi
              have HIU := Lib.hid hiu
              clear hcA hgA hgi hy0 hy1 hxu hnn hx hy hbl hio hiu
              go_wp2_with fail
              refine wp_region_flow (fun W => Below wl.heap.size wl W) [0, 1, 2, 3, 4, 5, 6, 7, 8, 9, 10, 11, 12, 13, 14, 15, 16, 17, 18, 19, 20, 21, 22, 23] (by kernel_rfl) (by kernel_rfl) (by kernel_rfl) ((Below.refl _ _).drew) ?_
              refine flow_val ?_ rfl (by kernel_rfl) (by rfl) (fun W hW => ?_) ?_
              rotate_left 1
              · go_simp <;> with_reducible rfl
              simp only [Act.put, List.setIfInBounds_toArray, List.set_cons_succ, List.set_cons_zero]
              refine flow_val ?_ rfl (by kernel_rfl) (by rfl) (fun W hW => ?_) ?_
              rotate_left 1
              · go_simp <;> with_reducible rfl
              simp only [Act.put, List.setIfInBounds_toArray, List.set_cons_succ, List.set_cons_zero]
              refine flow_val ?_ rfl (by kernel_rfl) (by rfl) (fun W hW => ?_) ?_
              rotate_left 1
              · go_simp <;> with_reducible rfl
              simp only [Act.put, List.setIfInBounds_toArray, List.set_cons_succ, List.set_cons_zero]
              refine flow_val ?_ rfl (by kernel_rfl) (by rfl) (fun W hW => ?_) ?_
              rotate_left 1
              · obtain ⟨e0, e1, e2⟩ := CC.out W hW; go_simp <;> with_reducible rfl
              simp only [Act.put, List.setIfInBounds_toArray, List.set_cons_succ, List.set_cons_zero]
              refine flow_val ?_ rfl (by kernel_rfl) (by rfl) (fun W hW => ?_) ?_
              rotate_left 1
              · go_simp <;> with_reducible rfl
              simp only [Act.put, List.setIfInBounds_toArray, List.set_cons_succ, List.set_cons_zero]
              refine flow_val ?_ rfl (by kernel_rfl) (by rfl) (fun W hW => ?_) ?_
              rotate_left 1
              · go_simp <;> with_reducible rfl
              simp only [Act.put, List.setIfInBounds_toArray, List.set_cons_succ, List.set_cons_zero]
              refine flow_val ?_ rfl (by kernel_rfl) (by rfl) (fun W hW => ?_) ?_
              rotate_left 1
              · go_simp <;> with_reducible rfl
              simp only [Act.put, List.setIfInBounds_toArray, List.set_cons_succ, List.set_cons_zero]
              refine flow_val ?_ rfl (by kernel_rfl) (by rfl) (fun W hW => ?_) ?_
              rotate_left 1
              · obtain ⟨e0, e1, e2⟩ := CC.out W hW; go_simp <;> with_reducible rfl
              simp only [Act.put, List.setIfInBounds_toArray, List.set_cons_succ, List.set_cons_zero]
              refine flow_val ?_ rfl (by kernel_rfl) (by rfl) (fun W hW => ?_) ?_
              rotate_left 1
              · go_simp <;> with_reducible rfl
              simp only [Act.put, List.setIfInBounds_toArray, List.set_cons_succ, List.set_cons_zero]
              refine flow_val ?_ rfl (by kernel_rfl) (by rfl) (fun W hW => ?_) ?_
              rotate_left 1
              · go_simp <;> with_reducible rfl
              simp only [Act.put, List.setIfInBounds_toArray, List.set_cons_succ, List.set_cons_zero]
              refine flow_val ?_ rfl (by kernel_rfl) (by rfl) (fun W hW => ?_) ?_
              rotate_left 1
              · go_simp <;> with_reducible rfl
              simp only [Act.put, List.setIfInBounds_toArray, List.set_cons_succ, List.set_cons_zero]
              refine flow_val ?_ rfl (by kernel_rfl) (by rfl) (fun W hW => ?_) ?_
              rotate_left 1
              · go_simp <;> with_reducible rfl
              simp only [Act.put, List.setIfInBounds_toArray, List.set_cons_succ, List.set_cons_zero]
              refine flow_val ?_ rfl (by kernel_rfl) (by rfl) (fun W hW => ?_) ?_
              rotate_left 1
              · go_simp <;> with_reducible rfl
              simp only [Act.put, List.setIfInBounds_toArray, List.set_cons_succ, List.set_cons_zero]
              refine flow_val ?_ rfl (by kernel_rfl) (by rfl) (fun W hW => ?_) ?_
              rotate_left 1
              · obtain ⟨e0, e1, e2⟩ := CC.out W hW; go_simp <;> with_reducible rfl
              simp only [Act.put, List.setIfInBounds_toArray, List.set_cons_succ, List.set_cons_zero]
              refine flow_val ?_ rfl (by kernel_rfl) (by rfl) (fun W hW => ?_) ?_
              rotate_left 1
              · go_simp <;> with_reducible rfl
              simp only [Act.put, List.setIfInBounds_toArray, List.set_cons_succ, List.set_cons_zero]
              refine flow_val ?_ rfl (by kernel_rfl) (by rfl) (fun W hW => ?_) ?_
              rotate_left 1
              · go_simp <;> with_reducible rfl
              simp only [Act.put, List.setIfInBounds_toArray, List.set_cons_succ, List.set_cons_zero]
              refine flow_val ?_ rfl (by kernel_rfl) (by rfl) (fun W hW => ?_) ?_
              rotate_left 1
              · go_simp <;> with_reducible rfl
              simp only [Act.put, List.setIfInBounds_toArray, List.set_cons_succ, List.set_cons_zero]
              refine flow_val ?_ rfl (by kernel_rfl) (by rfl) (fun W hW => ?_) ?_
              rotate_left 1
              · go_simp <;> with_reducible rfl
              simp only [Act.put, List.setIfInBounds_toArray, List.set_cons_succ, List.set_cons_zero]
              refine flow_val ?_ rfl (by kernel_rfl) (by rfl) (fun W hW => ?_) ?_
              rotate_left 1
              · go_simp <;> with_reducible rfl
              simp only [Act.put, List.setIfInBounds_toArray, List.set_cons_succ, List.set_cons_zero]
              refine flow_val ?_ rfl (by kernel_rfl) (by rfl) (fun W hW => ?_) ?_
              rotate_left 1
              · go_simp <;> with_reducible rfl
              simp only [Act.put, List.setIfInBounds_toArray, List.set_cons_succ, List.set_cons_zero]
              refine flow_val ?_ rfl (by kernel_rfl) (by rfl) (fun W hW => ?_) ?_
              rotate_left 1
              · obtain ⟨e0, e1, e2⟩ := CC.out W hW; go_simp <;> with_reducible rfl
              simp only [Act.put, List.setIfInBounds_toArray, List.set_cons_succ, List.set_cons_zero]
              refine flow_val ?_ rfl (by kernel_rfl) (by rfl) (fun W hW => ?_) ?_
              rotate_left 1
              · go_simp <;> with_reducible rfl
              simp only [Act.put, List.setIfInBounds_toArray, List.set_cons_succ, List.set_cons_zero]
              refine flow_val ?_ rfl (by kernel_rfl) (by rfl) (fun W hW => ?_) ?_
              rotate_left 1
              · go_simp <;> with_reducible rfl
              simp only [Act.put, List.setIfInBounds_toArray, List.set_cons_succ, List.set_cons_zero]
              refine flow_val ?_ rfl (by kernel_rfl) (by rfl) (fun W hW => ?_) ?_
              rotate_left 1
              · go_simp <;> with_reducible rfl
              simp only [Act.put, List.setIfInBounds_toArray, List.set_cons_succ, List.set_cons_zero]
              refine flow_done ?_
              intro W hW
              have HBW := Lib.hid (HBL.out.trans (hW.mono HBL.out.size))
              have CI : Hid (∀ W', Below W.heap.size W W' → W'.cell? ⟨g1, i, none⟩ = some (.int .i64 y) ∧ W'.cell? ⟨gA, oA + i, none⟩ = some (.int .i64 x)) := Lib.hid (fun W' hW' => by
                obtain ⟨q0, _, q2⟩ := CC.out W' (hW.trans (hW'.mono hW.size))
                exact ⟨q0, q2⟩)
              clear hW hyb0 hybn
              go_wp2_with fail
              go_loopw [12] (fun kv wk => ∃ k : Nat, k ≤ xs.length ∧ kv = .int .i64 (k : Int) ∧ Below W.heap.size W wk) (fun kv _ => xs.length - (intOf kv).toNat)
              case atStart => exact ⟨0, Nat.zero_le _, rfl, Below.refl _ _⟩
              case round =>
                obtain ⟨k, hk, rfl, hbk⟩ := hrel
                rename World => wk
                have HBK := Lib.hid hbk
                by_cases hlk : k < xs.length
                · have hkl : (k : Int) < (xs.length : Int) := by omega
                  have hko : k < o.length := by rw [HOL.out]; exact hlk
                  have hku : k < us.length := by rw [← HXL.out]; exact hlk
                  have hgk : o.getD k 0 = o[k] := by simp [hko]
                  have hxk : xs[k] = ((us.getD k 0 : Nat) : Int) := by
                    have := HM.out.wts
                    simp [this, hku]
                  have hfr := HOF.out i k HIU.out hku
                  obtain ⟨xk, hxk'⟩ : ∃ xk, xs[k] = xk := ⟨_, rfl⟩
                  obtain ⟨yk, hyk'⟩ : ∃ yk, o[k] = yk := ⟨_, rfl⟩
                  rw [hxk'] at hxk
                  rw [hyk'] at hgk
                  rw [hgk, HGI.out] at hfr
                  have hxi := HXU.out
                  have hfy : xk < x → decide (y < yk) = false := fun h => by
                    have := hfr (by omega)
                    simpa using this
                  have CK : Hid (∀ W', Below wk.heap.size wk W' → W'.cell? ⟨g1, i, none⟩ = some (.int .i64 y) ∧ W'.cell? ⟨gA, oA + i, none⟩ = some (.int .i64 x) ∧ W'.cell? ⟨g1, k, none⟩ = some (.int .i64 yk) ∧ W'.cell? ⟨gA, oA + k, none⟩ = some (.int .i64 xk)) := Lib.hid (fun W' hW' => by
                    have b2 := hbk.trans (hW'.mono hbk.size)
                    obtain ⟨q0, q1⟩ := CI.out W' b2
                    have b1 := HBW.out.trans (b2.mono HBW.out.size)
                    refine ⟨q0, q1, ?_, ?_⟩
                    · rw [cell_at ((b1.block g1 (lt_of_block HG5.out)).trans HG5.out)]
                      simp [i64v, hko, hyk']
                    · exact (b1.cell (p := ⟨gA, oA + k, none⟩) HGA.out).trans (HCA.out k _ (by simp [hlk, i64v, hxk'])))
                  clear hko hku hgk hxk hfr hxk' hyk' hxi hbk
                  by_cases hcx : xk < x
                  · have hcb : decide (xk < x) = true := by simpa using hcx
                    have hcy := hfy hcx
                    clear hfy hcx
                    go_wp2_with fail
                    refine wp_region_flow (fun W => Below wk.heap.size wk W) [0, 1, 2, 3, 4, 5, 6, 7, 8, 9, 10, 11, 12, 13, 14, 15, 16, 17, 18, 19] (by kernel_rfl) (by kernel_rfl) (by kernel_rfl) ((Below.refl _ _).drew) ?_
                    refine flow_val ?_ rfl (by kernel_rfl) (by rfl) (fun W hW => ?_) ?_
                    rotate_left 1
                    · go_simp <;> with_reducible rfl
                    simp only [Act.put, List.setIfInBounds_toArray, List.set_cons_succ, List.set_cons_zero]
                    refine flow_val ?_ rfl (by kernel_rfl) (by rfl) (fun W hW => ?_) ?_
                    rotate_left 1
                    · go_simp <;> with_reducible rfl
                    simp only [Act.put, List.setIfInBounds_toArray, List.set_cons_succ, List.set_cons_zero]
                    refine flow_val ?_ rfl (by kernel_rfl) (by rfl) (fun W hW => ?_) ?_
                    rotate_left 1
                    · go_simp <;> with_reducible rfl
                    simp only [Act.put, List.setIfInBounds_toArray, List.set_cons_succ, List.set_cons_zero]
                    refine flow_val ?_ rfl (by kernel_rfl) (by rfl) (fun W hW => ?_) ?_
                    rotate_left 1
                    · obtain ⟨e0, e1, e2, e3⟩ := CK.out W hW; go_simp <;> with_reducible rfl
                    simp only [Act.put, List.setIfInBounds_toArray, List.set_cons_succ, List.set_cons_zero]
                    refine flow_val ?_ rfl (by kernel_rfl) (by rfl) (fun W hW => ?_) ?_
                    rotate_left 1
                    · go_simp <;> with_reducible rfl
                    simp only [Act.put, List.setIfInBounds_toArray, List.set_cons_succ, List.set_cons_zero]
                    refine flow_val ?_ rfl (by kernel_rfl) (by rfl) (fun W hW => ?_) ?_
                    rotate_left 1
                    · go_simp <;> with_reducible rfl
                    simp only [Act.put, List.setIfInBounds_toArray, List.set_cons_succ, List.set_cons_zero]
                    refine flow_val ?_ rfl (by kernel_rfl) (by rfl) (fun W hW => ?_) ?_
                    rotate_left 1
                    · go_simp <;> with_reducible rfl
                    simp only [Act.put, List.setIfInBounds_toArray, List.set_cons_succ, List.set_cons_zero]
                    refine flow_val ?_ rfl (by kernel_rfl) (by rfl) (fun W hW => ?_) ?_
                    rotate_left 1
                    · obtain ⟨e0, e1, e2, e3⟩ := CK.out W hW; go_simp <;> with_reducible rfl
                    simp only [Act.put, List.setIfInBounds_toArray, List.set_cons_succ, List.set_cons_zero]
                    refine flow_val ?_ rfl (by kernel_rfl) (by rfl) (fun W hW => ?_) ?_
                    rotate_left 1
                    · go_simp <;> with_reducible rfl
                    simp only [Act.put, List.setIfInBounds_toArray, List.set_cons_succ, List.set_cons_zero]
                    refine flow_val ?_ rfl (by kernel_rfl) (by rfl) (fun W hW => ?_) ?_
                    rotate_left 1
                    · go_simp <;> with_reducible rfl
                    simp only [Act.put, List.setIfInBounds_toArray, List.set_cons_succ, List.set_cons_zero]
                    refine flow_val ?_ rfl (by kernel_rfl) (by rfl) (fun W hW => ?_) ?_
                    rotate_left 1
                    · go_simp <;> with_reducible rfl
                    simp only [Act.put, List.setIfInBounds_toArray, List.set_cons_succ, List.set_cons_zero]
                    refine flow_val ?_ rfl (by kernel_rfl) (by rfl) (fun W hW => ?_) ?_
                    rotate_left 1
                    · go_simp <;> with_reducible rfl
                    simp only [Act.put, List.setIfInBounds_toArray, List.set_cons_succ, List.set_cons_zero]
                    refine flow_val ?_ rfl (by kernel_rfl) (by rfl) (fun W hW => ?_) ?_
                    rotate_left 1
                    · go_simp <;> with_reducible rfl
                    simp only [Act.put, List.setIfInBounds_toArray, List.set_cons_succ, List.set_cons_zero]
                    refine flow_val ?_ rfl (by kernel_rfl) (by rfl) (fun W hW => ?_) ?_
                    rotate_left 1
                    · obtain ⟨e0, e1, e2, e3⟩ := CK.out W hW; go_simp <;> with_reducible rfl
                    simp only [Act.put, List.setIfInBounds_toArray, List.set_cons_succ, List.set_cons_zero]
                    refine flow_val ?_ rfl (by kernel_rfl) (by rfl) (fun W hW => ?_) ?_
                    rotate_left 1
                    · go_simp <;> with_reducible rfl
                    simp only [Act.put, List.setIfInBounds_toArray, List.set_cons_succ, List.set_cons_zero]
                    refine flow_val ?_ rfl (by kernel_rfl) (by rfl) (fun W hW => ?_) ?_
                    rotate_left 1
                    · go_simp <;> with_reducible rfl
                    simp only [Act.put, List.setIfInBounds_toArray, List.set_cons_succ, List.set_cons_zero]
                    refine flow_val ?_ rfl (by kernel_rfl) (by rfl) (fun W hW => ?_) ?_
                    rotate_left 1
                    · go_simp <;> with_reducible rfl
                    simp only [Act.put, List.setIfInBounds_toArray, List.set_cons_succ, List.set_cons_zero]
                    refine flow_val ?_ rfl (by kernel_rfl) (by rfl) (fun W hW => ?_) ?_
                    rotate_left 1
                    · obtain ⟨e0, e1, e2, e3⟩ := CK.out W hW; go_simp <;> with_reducible rfl
                    simp only [Act.put, List.setIfInBounds_toArray, List.set_cons_succ, List.set_cons_zero]
                    refine flow_val ?_ rfl (by kernel_rfl) (by rfl) (fun W hW => ?_) ?_
                    rotate_left 1
                    · go_simp <;> with_reducible rfl
                    simp only [Act.put, List.setIfInBounds_toArray, List.set_cons_succ, List.set_cons_zero]
                    refine flow_val ?_ rfl (by kernel_rfl) (by rfl) (fun W hW => ?_) ?_
                    rotate_left 1
                    · go_simp <;> with_reducible rfl
                    simp only [Act.put, List.setIfInBounds_toArray, List.set_cons_succ, List.set_cons_zero]
                    refine flow_done ?_
                    intro W hW
                    have HB9 := Lib.hid (HBK.out.trans (hW.mono HBK.out.size))
                    clear hW
                    go_wp2_with fail
                    go_roundw
                    case rel => exact ⟨k + 1, hlk, by go_num, HB9.out⟩
                    case measure => simp [intOf]; omega
                  · have hcb : decide (xk < x) = false := by simpa using hcx
                    clear hfy hcx
                    go_wp2_with fail
                    refine wp_region_flow (fun W => Below wk.heap.size wk W) [0, 1, 2, 3, 4, 5, 6, 7, 8, 9, 10, 11, 12, 13, 14, 15, 16, 17, 18, 19] (by kernel_rfl) (by kernel_rfl) (by kernel_rfl) ((Below.refl _ _).drew) ?_
                    refine flow_val ?_ rfl (by kernel_rfl) (by rfl) (fun W hW => ?_) ?_
                    rotate_left 1
                    · go_simp <;> with_reducible rfl
                    simp only [Act.put, List.setIfInBounds_toArray, List.set_cons_succ, List.set_cons_zero]
                    refine flow_val ?_ rfl (by kernel_rfl) (by rfl) (fun W hW => ?_) ?_
                    rotate_left 1
                    · go_simp <;> with_reducible rfl
                    simp only [Act.put, List.setIfInBounds_toArray, List.set_cons_succ, List.set_cons_zero]
                    refine flow_val ?_ rfl (by kernel_rfl) (by rfl) (fun W hW => ?_) ?_
                    rotate_left 1
                    · go_simp <;> with_reducible rfl
                    simp only [Act.put, List.setIfInBounds_toArray, List.set_cons_succ, List.set_cons_zero]
                    refine flow_val ?_ rfl (by kernel_rfl) (by rfl) (fun W hW => ?_) ?_
                    rotate_left 1
                    · obtain ⟨e0, e1, e2, e3⟩ := CK.out W hW; go_simp <;> with_reducible rfl
                    simp only [Act.put, List.setIfInBounds_toArray, List.set_cons_succ, List.set_cons_zero]
                    refine flow_val ?_ rfl (by kernel_rfl) (by rfl) (fun W hW => ?_) ?_
                    rotate_left 1
                    · go_simp <;> with_reducible rfl
                    simp only [Act.put, List.setIfInBounds_toArray, List.set_cons_succ, List.set_cons_zero]
                    refine flow_val ?_ rfl (by kernel_rfl) (by rfl) (fun W hW => ?_) ?_
                    rotate_left 1
                    · go_simp <;> with_reducible rfl
                    simp only [Act.put, List.setIfInBounds_toArray, List.set_cons_succ, List.set_cons_zero]
                    refine flow_val ?_ rfl (by kernel_rfl) (by rfl) (fun W hW => ?_) ?_
                    rotate_left 1
                    · go_simp <;> with_reducible rfl
                    simp only [Act.put, List.setIfInBounds_toArray, List.set_cons_succ, List.set_cons_zero]
                    refine flow_val ?_ rfl (by kernel_rfl) (by rfl) (fun W hW => ?_) ?_
                    rotate_left 1
                    · obtain ⟨e0, e1, e2, e3⟩ := CK.out W hW; go_simp <;> with_reducible rfl
                    simp only [Act.put, List.setIfInBounds_toArray, List.set_cons_succ, List.set_cons_zero]
                    refine flow_val ?_ rfl (by kernel_rfl) (by rfl) (fun W hW => ?_) ?_
                    rotate_left 1
                    · go_simp <;> with_reducible rfl
                    simp only [Act.put, List.setIfInBounds_toArray, List.set_cons_succ, List.set_cons_zero]
                    refine flow_val ?_ rfl (by kernel_rfl) (by rfl) (fun W hW => ?_) ?_
                    rotate_left 1
                    · go_simp <;> with_reducible rfl
                    simp only [Act.put, List.setIfInBounds_toArray, List.set_cons_succ, List.set_cons_zero]
                    refine flow_off rfl (by kernel_rfl) (by rfl) ?_
                    simp only [Act.put, List.setIfInBounds_toArray, List.set_cons_succ, List.set_cons_zero]
                    refine flow_off rfl (by kernel_rfl) (by rfl) ?_
                    simp only [Act.put, List.setIfInBounds_toArray, List.set_cons_succ, List.set_cons_zero]
                    refine flow_off rfl (by kernel_rfl) (by rfl) ?_
                    simp only [Act.put, List.setIfInBounds_toArray, List.set_cons_succ, List.set_cons_zero]
                    refine flow_off rfl (by kernel_rfl) (by rfl) ?_
                    simp only [Act.put, List.setIfInBounds_toArray, List.set_cons_succ, List.set_cons_zero]
                    refine flow_off rfl (by kernel_rfl) (by rfl) ?_
                    simp only [Act.put, List.setIfInBounds_toArray, List.set_cons_succ, List.set_cons_zero]
                    refine flow_off rfl (by kernel_rfl) (by rfl) ?_
                    simp only [Act.put, List.setIfInBounds_toArray, List.set_cons_succ, List.set_cons_zero]
                    refine flow_off rfl (by kernel_rfl) (by rfl) ?_
                    simp only [Act.put, List.setIfInBounds_toArray, List.set_cons_succ, List.set_cons_zero]
                    refine flow_off rfl (by kernel_rfl) (by rfl) ?_
                    simp only [Act.put, List.setIfInBounds_toArray, List.set_cons_succ, List.set_cons_zero]
                    refine flow_off rfl (by kernel_rfl) (by rfl) ?_
                    simp only [Act.put, List.setIfInBounds_toArray, List.set_cons_succ, List.set_cons_zero]
                    refine flow_val ?_ rfl (by kernel_rfl) (by rfl) (fun W hW => ?_) ?_
                    rotate_left 1
                    · go_simp <;> with_reducible rfl
                    simp only [Act.put, List.setIfInBounds_toArray, List.set_cons_succ, List.set_cons_zero]
                    refine flow_done ?_
                    intro W hW
                    have HB9 := Lib.hid (HBK.out.trans (hW.mono HBK.out.size))
                    clear hW
                    go_wp2_with fail
                    go_roundw
                    case rel => exact ⟨k + 1, hlk, by go_num, HB9.out⟩
                    case measure => simp [intOf]; omega
                · clear hbk
                  go_wp2_with fail
                  go_roundw
                  case rel => exact ⟨i + 1, hlt, by go_num, HBW.out.trans (HBK.out.mono HBW.out.size)⟩
                  case measure => simp [intOf]; omega
            · clear hbl
              go_wp2
              go_ret
              exact ⟨rfl, H5.out.trans (HBL.out.mono HS5.out)⟩
end Go.Proofs.Ytochhjdjfgiaeaa
