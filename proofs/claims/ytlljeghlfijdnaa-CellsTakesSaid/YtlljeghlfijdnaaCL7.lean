/- The law CellsTakes: any bytes, taken apart in any way. The walk. -/
import Derived.Test.YtlljeghlfijdnaaCPair
import Derived.Test.YtlljeghlfijdnaaCOps
namespace Go.Proofs.Ytlljeghlfijdnaa
open Go.RowKit

set_option maxRecDepth 100000 in
set_option maxHeartbeats 16000000 in
theorem takes_any (Ab : Option Addr) (cb : Nat) (bs : List Nat) (A : Option Addr) (c : Nat) (zs : List Op1) (w : World) (hby : IsBy w Ab cb bs) (hz : IsOps w A c zs) :
    Calls Try.prog 8 #[.slice Ab bs.length cb, .slice A zs.length c] w fun e w' => e = .returned (.bool true) ∧ Below w.heap.size w w' := by
  obtain ⟨i0, hi0, hz0, hz1, hz2⟩ := info_parts Try.infoByte
  have HZ := Lib.hid hz
  have HB := Lib.hid hby
  have hcm := hz.2.1
  have hzc := hz.1
  have hzm : c ≤ 9223372036854775807 := by unfold maxLen at hcm; omega
  have hbl := hby.1
  have hbc := hby.2.1
  clear hz hcm hby
  go_enter Try.func8, Try.ntmps8
  go_wp2_with (first
    | (at_builtin
       refine wpList_append_rd _ rfl (.tmp 11) (.tmp 12) 22 rfl w.heap.size 5 i0 (.int .u8 0) 1 1 Try.underlying22 hi0 hz0 hz1 hz2 rfl (by decide) (.slice (some ⟨w.heap.size, 0, none⟩) 0 0) 0 [] rfl (own_of_cells w #[] 0 (Nat.zero_le _) rfl) Ab bs.length cb (bs.map u8v) rfl (HB.out.2.2.1.below ((Below.refl _ _).alloc (Nat.le_refl _) _)) (u8_one' _) (by unfold maxLen; omega) (by omega) (by simp) ?_
       intro v2 w2 hown2 hgrow2 _
       have HO2 := Lib.hid hown2
       have hG2 := Fr.grown (B := w.heap.size) (T := [5]) (S := []) ((Fr.refl w).alloc (.cells #[] 5)) hgrow2 (fun j hj => by
         simp [Value.ownBlock] at hj
         subst hj
         exact ⟨Nat.le_refl _, .inr ⟨_, _, _, block_new _ _, by simp⟩⟩)
       have HB2 := Lib.hid (hG2.below (Nat.le_refl _))
       clear hown2 hgrow2 hG2))
  obtain ⟨A2, c2, rfl, k1, k2, k3, k4⟩ := own_slice HO2.out
  have hbs2 : Rd w2 1 A2 bs.length (bs.map u8v) := by simpa using k3
  have hA2 : ∀ a, A2 = some a → w.heap.size ≤ a.block ∧ a.block < w2.heap.size := fun a ha => by
    obtain ⟨h1, cs, h2⟩ := own_block HO2.out (k4 a ha).1
    exact ⟨h1, lt_of_block h2⟩
  have HR2 := Lib.hid hbs2
  have HA2 := Lib.hid hA2
  have HK2 := Lib.hid k2
  simp only [Nat.zero_add] at k1 ⊢
  clear k2 k3 k4 hbs2 hA2 hi0 hz0 hz1 hz2
  refine (take_any _ bs w2 ⟨A2, c2, rfl, k1, HK2.out, HR2.out⟩ HB.out.2.2.2.1 (by omega)).mono ?_
  rintro e w3 ⟨p, D1, rfl, hp, hT3, hDp, hDr, hb3⟩
  have hp3 := hT3.lt
  have hx := block_new w3 (.cells #[.slice Ab bs.length cb, .bool false] 57)
  have hbx : Below w3.heap.size w3 (w3.alloc (.cells #[.slice Ab bs.length cb, .bool false] 57)) := (Below.refl _ _).alloc (Nat.le_refl _) _
  have b3 : Below w.heap.size w w3 := HB2.out.trans (hb3.mono HB2.out.size)
  have HP : Hid (Pair w p w3.heap.size A2 bs (bs, false) (bs, false) (w3.alloc (.cells #[.slice Ab bs.length cb, .bool false] 57))) := Lib.hid (by
    have hs2 := HB2.out.size
    have hs3 := hb3.size
    have hw3 : w.heap.size ≤ w3.heap.size := b3.size
    refine ⟨D1, if 0 < bs.length then Ab.map (·.block) else none, hT3.below hbx, ⟨Ab, cb, hx, hbl, by unfold maxLen; omega, (HB.out.2.2.1.below b3).below hbx, fun hn a ha => by rw [if_pos hn, ha]; rfl, HB.out.2.2.2.1, HB.out.2.2.2.2⟩, by omega, by omega, hw3, hDp, fun e => ?_, fun e => ?_, fun e => ?_, (HR2.out.below hb3).below hbx, fun _ a ha => ?_, b3.trans (hbx.mono hw3)⟩
    · have := (hDr _ e).2
      omega
    · split at e
      · rename_i hn
        obtain ⟨g, o, rfl, hg, _⟩ := HB.out.2.2.1.2 hn
        simp at e
        omega
      · cases e
    · split at e
      · rename_i hn
        obtain ⟨g, o, rfl, hg, _⟩ := HB.out.2.2.1.2 hn
        simp at e
        omega
      · cases e
    · have := HA2.out a ha
      omega)
  obtain ⟨q, hq⟩ : ∃ q, w3.heap.size = q := ⟨_, rfl⟩
  have HRB := Lib.hid (HB.out.2.2.1)
  clear hp hT3 hDp hDr hb3 hp3 hx hbx b3
  go_wp2_with fail
  rw [hq] at HP
  refine (lives_any _).mono ?_
  rintro e w4 ⟨rfl, hb4⟩
  have HP4 := Lib.hid (HP.out.keep hb4)
  clear hb4 HP hq
  go_wp2_with fail
  go_loopw [8] (fun i wr => ∃ (k : Nat) (s r : List Nat × Bool), k ≤ zs.length ∧ i = .int .i64 k ∧ SameT s r ∧ Pair w p q A2 bs s r wr) (fun i _ => (zs.length - (intOf i).toNat))
  case atStart => exact ⟨0, (bs, false), (bs, false), Nat.zero_le _, rfl, SameT.refl _, HP4.out⟩
  case round =>
    obtain ⟨k, s, r, hk, rfl, hsame, hp⟩ := hrel
    have HP := Lib.hid hp
    have HS := Lib.hid hsame
    clear hp HP4 hsame
    by_cases hlt : k < zs.length
    · obtain ⟨g, o, rfl, hg, hcell⟩ := HZ.out.at_ (by omega)
      obtain ⟨q0, q1, q2, q3, q4⟩ := hcell k hlt
      have hW := HP.out.below
      have r0 := (hW.cell (p := ⟨g, o + k * 5, none⟩) hg).trans q0
      have r1 := (hW.cell (p := ⟨g, o + k * 5 + 1, none⟩) hg).trans q1
      have r2 := (hW.cell (p := ⟨g, o + k * 5 + 2, none⟩) hg).trans q2
      have r3 := (hW.cell (p := ⟨g, o + k * 5 + 3, none⟩) hg).trans q3
      have r4 := (hW.cell (p := ⟨g, o + k * 5 + 4, none⟩) hg).trans q4
      obtain ⟨z, hzk⟩ : ∃ z, zs[k] = z := ⟨_, rfl⟩
      rw [hzk] at r0 r1 r2 r3 r4
      clear hcell q0 q1 q2 q3 q4 hzk hW
      obtain ⟨K, N, t, L, M⟩ := z
      simp only at r0 r1 r2 r3 r4
      have hb0 : Below wr.heap.size wr (wr.alloc (.cells #[.int .i64 K, .int .i64 N, .string t, .int .i64 L, .int .i64 M] 40)) := (Below.refl _ _).alloc (Nat.le_refl _) _
      obtain ⟨W0, hW0⟩ : ∃ W0, wr.alloc (.cells #[.int .i64 K, .int .i64 N, .string t, .int .i64 L, .int .i64 M] 40) = W0 := ⟨_, rfl⟩
      have HP0 := Lib.hid (HP.out.keep hb0)
      have HO0 := Lib.hid (block_new wr (.cells #[.int .i64 K, .int .i64 N, .string t, .int .i64 L, .int .i64 M] 40))
      rw [hW0] at HP0 HO0
      obtain ⟨z0, hz0⟩ : ∃ z0, wr.heap.size = z0 := ⟨_, rfl⟩
      rw [hz0] at HO0
      have p0 : W0.cell? ⟨z0, 0, none⟩ = some (.int .i64 K) := cell_at HO0.out 0
      clear hb0
      by_cases e1 : K = 1
      · subst e1
        obtain ⟨hv, hsm⟩ := HS.out.num L M
        have HV := Lib.hid hv
        have HSm := Lib.hid hsm
        clear hv hsm
        go_wp2_with fail
        refine wp_region_flow2 (fun W => Below w.heap.size w W ∧ W.heap[z0]? = some (.cells #[.int .i64 1, .int .i64 N, .string t, .int .i64 L, .int .i64 M] 40 (0, 0))) (Pair w p q A2 bs s r) [0, 1, 2, 3, 4, 6, 7, 8, 9, 10, 5, 11, 12, 13] (by kernel_rfl) (by kernel_rfl) (by kernel_rfl) ⟨HP0.out.below.drew, HO0.out⟩ (HP0.out.keep (Below.refl _ _).drew) ?_
        refine flow_val ?_ rfl (by kernel_rfl) (by rfl) (fun W hW => ?_) ?_
        rotate_left 1
        · go_simp <;> with_reducible rfl
        simp only [Act.put, List.setIfInBounds_toArray, List.set_cons_succ, List.set_cons_zero]
        refine flow_val ?_ rfl (by kernel_rfl) (by rfl) (fun W hW => ?_) ?_
        rotate_left 1
        · have hc := hW.2; have x3 : W.cell? ⟨z0, 3, none⟩ = some (.int .i64 L) := cell_at hc 3; have x4 : W.cell? ⟨z0, 4, none⟩ = some (.int .i64 M) := cell_at hc 4; clear hc; go_simp <;> with_reducible rfl
        simp only [Act.put, List.setIfInBounds_toArray, List.set_cons_succ, List.set_cons_zero]
        refine flow_val ?_ rfl (by kernel_rfl) (by rfl) (fun W hW => ?_) ?_
        rotate_left 1
        · have hc := hW.2; have x3 : W.cell? ⟨z0, 3, none⟩ = some (.int .i64 L) := cell_at hc 3; have x4 : W.cell? ⟨z0, 4, none⟩ = some (.int .i64 M) := cell_at hc 4; clear hc; go_simp <;> with_reducible rfl
        simp only [Act.put, List.setIfInBounds_toArray, List.set_cons_succ, List.set_cons_zero]
        refine flow_val ?_ rfl (by kernel_rfl) (by rfl) (fun W hW => ?_) ?_
        rotate_left 1
        · have hc := hW.2; have x3 : W.cell? ⟨z0, 3, none⟩ = some (.int .i64 L) := cell_at hc 3; have x4 : W.cell? ⟨z0, 4, none⟩ = some (.int .i64 M) := cell_at hc 4; clear hc; go_simp <;> with_reducible rfl
        simp only [Act.put, List.setIfInBounds_toArray, List.set_cons_succ, List.set_cons_zero]
        refine flow_val ?_ rfl (by kernel_rfl) (by rfl) (fun W hW => ?_) ?_
        rotate_left 1
        · have hc := hW.2; have x3 : W.cell? ⟨z0, 3, none⟩ = some (.int .i64 L) := cell_at hc 3; have x4 : W.cell? ⟨z0, 4, none⟩ = some (.int .i64 M) := cell_at hc 4; clear hc; go_simp <;> with_reducible rfl
        simp only [Act.put, List.setIfInBounds_toArray, List.set_cons_succ, List.set_cons_zero]
        refine flow_val ?_ rfl (by kernel_rfl) (by rfl) (fun W hW => ?_) ?_
        rotate_left 1
        · go_simp <;> with_reducible rfl
        simp only [Act.put, List.setIfInBounds_toArray, List.set_cons_succ, List.set_cons_zero]
        refine flow_val ?_ rfl (by kernel_rfl) (by rfl) (fun W hW => ?_) ?_
        rotate_left 1
        · have hc := hW.2; have x3 : W.cell? ⟨z0, 3, none⟩ = some (.int .i64 L) := cell_at hc 3; have x4 : W.cell? ⟨z0, 4, none⟩ = some (.int .i64 M) := cell_at hc 4; clear hc; go_simp <;> with_reducible rfl
        simp only [Act.put, List.setIfInBounds_toArray, List.set_cons_succ, List.set_cons_zero]
        refine flow_val ?_ rfl (by kernel_rfl) (by rfl) (fun W hW => ?_) ?_
        rotate_left 1
        · have hc := hW.2; have x3 : W.cell? ⟨z0, 3, none⟩ = some (.int .i64 L) := cell_at hc 3; have x4 : W.cell? ⟨z0, 4, none⟩ = some (.int .i64 M) := cell_at hc 4; clear hc; go_simp <;> with_reducible rfl
        simp only [Act.put, List.setIfInBounds_toArray, List.set_cons_succ, List.set_cons_zero]
        refine flow_val ?_ rfl (by kernel_rfl) (by rfl) (fun W hW => ?_) ?_
        rotate_left 1
        · have hc := hW.2; have x3 : W.cell? ⟨z0, 3, none⟩ = some (.int .i64 L) := cell_at hc 3; have x4 : W.cell? ⟨z0, 4, none⟩ = some (.int .i64 M) := cell_at hc 4; clear hc; go_simp <;> with_reducible rfl
        simp only [Act.put, List.setIfInBounds_toArray, List.set_cons_succ, List.set_cons_zero]
        refine flow_val ?_ rfl (by kernel_rfl) (by rfl) (fun W hW => ?_) ?_
        rotate_left 1
        · have hc := hW.2; have x3 : W.cell? ⟨z0, 3, none⟩ = some (.int .i64 L) := cell_at hc 3; have x4 : W.cell? ⟨z0, 4, none⟩ = some (.int .i64 M) := cell_at hc 4; clear hc; go_simp <;> with_reducible rfl
        simp only [Act.put, List.setIfInBounds_toArray, List.set_cons_succ, List.set_cons_zero]
        refine flow_turn (.int .i64 (numT s L M).1) (Pair w p q A2 bs (numT s L M).2 r) rfl (by kernel_rfl) (by rfl) (by kernel_rfl) (fun W hW hC => ⟨_, _, _, by go_simp, (hC.t (fun D hT hD => tnum_any p D s L M _ hT hD)).mono fun e w' ⟨he, hk, hs⟩ => ⟨he, ⟨hk.below, hs _ _ _ hW.2⟩, hk⟩⟩) ?_
        simp only [Act.put, List.setIfInBounds_toArray, List.set_cons_succ, List.set_cons_zero]
        refine flow_turn (.int .i64 (numT s L M).1) (Pair w p q A2 bs (numT s L M).2 (numT r L M).2) rfl (by kernel_rfl) (by rfl) (by kernel_rfl) (fun W hW hC => ⟨_, _, _, by go_simp, (hC.x (fun D hT hD => HV.out ▸ rtnum_any q D r L M _ hT hD)).mono fun e w' ⟨he, hk, hs⟩ => ⟨he, ⟨⟨hk.below, hs _ _ _ hW.1.2⟩, trivial⟩, hk⟩⟩) ?_
        simp only [Act.put, List.setIfInBounds_toArray, List.set_cons_succ, List.set_cons_zero]
        refine flow_val ?_ rfl (by kernel_rfl) (by rfl) (fun W hW => ?_) ?_
        rotate_left 1
        · go_simp <;> with_reducible rfl
        simp only [Act.put, List.setIfInBounds_toArray, List.set_cons_succ, List.set_cons_zero]
        refine flow_val ?_ rfl (by kernel_rfl) (by rfl) (fun W hW => ?_) ?_
        rotate_left 1
        · go_simp <;> with_reducible rfl
        simp only [Act.put, List.setIfInBounds_toArray, List.set_cons_succ, List.set_cons_zero]
        refine flow_done2 ?_
        intro W _ hC
        have HC := Lib.hid hC
        clear hC
        go_wp2_with fail
        refine HC.out.left.mono ?_
        rintro e w7 ⟨rfl, rfl⟩
        go_wp2_with fail
        refine HC.out.xleft.mono ?_
        rintro e w7 ⟨rfl, rfl⟩
        rw [← HSm.out.left]
        go_wp2
        go_roundw
        case rel => exact ⟨k + 1, _, _, hlt, by go_num, HSm.out, HC.out⟩
        case measure => simp [intOf]; omega
      by_cases e2 : K = 2
      · subst e2
        obtain ⟨hv, hsm⟩ := HS.out.text HP.out.lt M
        have HV := Lib.hid hv
        have HSm := Lib.hid hsm
        obtain ⟨S, hS⟩ : ∃ S, strOf (textT s M).1 = S := ⟨_, rfl⟩
        have HStr := Lib.hid hS
        have HStr2 : Hid (strOf (rtextT r M).1 = S) := Lib.hid (by rw [← hv]; exact hS)
        clear hv hsm hS
        go_wp2_with fail
        refine wp_region_flow2 (fun W => Below w.heap.size w W ∧ W.heap[z0]? = some (.cells #[.int .i64 2, .int .i64 N, .string t, .int .i64 L, .int .i64 M] 40 (0, 0))) (Pair w p q A2 bs s r) [0, 1, 2, 4, 5, 6, 3, 7, 8, 9] (by kernel_rfl) (by kernel_rfl) (by kernel_rfl) ⟨HP0.out.below.drew, HO0.out⟩ (HP0.out.keep (Below.refl _ _).drew) ?_
        refine flow_val ?_ rfl (by kernel_rfl) (by rfl) (fun W hW => ?_) ?_
        rotate_left 1
        · go_simp <;> with_reducible rfl
        simp only [Act.put, List.setIfInBounds_toArray, List.set_cons_succ, List.set_cons_zero]
        refine flow_val ?_ rfl (by kernel_rfl) (by rfl) (fun W hW => ?_) ?_
        rotate_left 1
        · have hc := hW.2; have x3 : W.cell? ⟨z0, 3, none⟩ = some (.int .i64 L) := cell_at hc 3; have x4 : W.cell? ⟨z0, 4, none⟩ = some (.int .i64 M) := cell_at hc 4; clear hc; go_simp <;> with_reducible rfl
        simp only [Act.put, List.setIfInBounds_toArray, List.set_cons_succ, List.set_cons_zero]
        refine flow_val ?_ rfl (by kernel_rfl) (by rfl) (fun W hW => ?_) ?_
        rotate_left 1
        · have hc := hW.2; have x3 : W.cell? ⟨z0, 3, none⟩ = some (.int .i64 L) := cell_at hc 3; have x4 : W.cell? ⟨z0, 4, none⟩ = some (.int .i64 M) := cell_at hc 4; clear hc; go_simp <;> with_reducible rfl
        simp only [Act.put, List.setIfInBounds_toArray, List.set_cons_succ, List.set_cons_zero]
        refine flow_val ?_ rfl (by kernel_rfl) (by rfl) (fun W hW => ?_) ?_
        rotate_left 1
        · go_simp <;> with_reducible rfl
        simp only [Act.put, List.setIfInBounds_toArray, List.set_cons_succ, List.set_cons_zero]
        refine flow_val ?_ rfl (by kernel_rfl) (by rfl) (fun W hW => ?_) ?_
        rotate_left 1
        · have hc := hW.2; have x3 : W.cell? ⟨z0, 3, none⟩ = some (.int .i64 L) := cell_at hc 3; have x4 : W.cell? ⟨z0, 4, none⟩ = some (.int .i64 M) := cell_at hc 4; clear hc; go_simp <;> with_reducible rfl
        simp only [Act.put, List.setIfInBounds_toArray, List.set_cons_succ, List.set_cons_zero]
        refine flow_val ?_ rfl (by kernel_rfl) (by rfl) (fun W hW => ?_) ?_
        rotate_left 1
        · have hc := hW.2; have x3 : W.cell? ⟨z0, 3, none⟩ = some (.int .i64 L) := cell_at hc 3; have x4 : W.cell? ⟨z0, 4, none⟩ = some (.int .i64 M) := cell_at hc 4; clear hc; go_simp <;> with_reducible rfl
        simp only [Act.put, List.setIfInBounds_toArray, List.set_cons_succ, List.set_cons_zero]
        refine flow_turn (.string S) (Pair w p q A2 bs (textT s M).2 r) rfl (by kernel_rfl) (by rfl) (by kernel_rfl) (fun W hW hC => ⟨_, _, _, by go_simp, (hC.t (fun D hT hD => HStr.out ▸ ttext_any p D s M _ hT hD)).mono fun e w' ⟨he, hk, hs⟩ => ⟨he, ⟨hk.below, hs _ _ _ hW.2⟩, hk⟩⟩) ?_
        simp only [Act.put, List.setIfInBounds_toArray, List.set_cons_succ, List.set_cons_zero]
        refine flow_turn (.string S) (Pair w p q A2 bs (textT s M).2 (rtextT r M).2) rfl (by kernel_rfl) (by rfl) (by kernel_rfl) (fun W hW hC => ⟨_, _, _, by go_simp, (hC.x (fun D hT hD => HStr2.out ▸ rttext_any q D r M _ hT hD)).mono fun e w' ⟨he, hk, hs⟩ => ⟨he, ⟨⟨hk.below, hs _ _ _ hW.1.2⟩, trivial⟩, hk⟩⟩) ?_
        simp only [Act.put, List.setIfInBounds_toArray, List.set_cons_succ, List.set_cons_zero]
        refine flow_val ?_ rfl (by kernel_rfl) (by rfl) (fun W hW => ?_) ?_
        rotate_left 1
        · go_simp <;> with_reducible rfl
        simp only [Act.put, List.setIfInBounds_toArray, List.set_cons_succ, List.set_cons_zero]
        refine flow_val ?_ rfl (by kernel_rfl) (by rfl) (fun W hW => ?_) ?_
        rotate_left 1
        · go_simp <;> with_reducible rfl
        simp only [Act.put, List.setIfInBounds_toArray, List.set_cons_succ, List.set_cons_zero]
        refine flow_done2 ?_
        intro W _ hC
        have HC := Lib.hid hC
        clear hC
        go_wp2_with fail
        refine HC.out.left.mono ?_
        rintro e w7 ⟨rfl, rfl⟩
        go_wp2_with fail
        refine HC.out.xleft.mono ?_
        rintro e w7 ⟨rfl, rfl⟩
        rw [← HSm.out.left]
        go_wp2
        go_roundw
        case rel => exact ⟨k + 1, _, _, hlt, by go_num, HSm.out, HC.out⟩
        case measure => simp [intOf]; omega
      have f1 : (K == 1) = false := by simpa using e1
      have f2 : (K == 2) = false := by simpa using e2
      clear e1 e2
      by_cases e3 : K = 3
      · subst e3
        obtain ⟨hv, hsm⟩ := HS.out.num 0 1
        have HSm := Lib.hid hsm
        have HV : Hid ((flagT r).1 = (flagT s).1) := Lib.hid (by unfold flagT; rw [hv])
        clear hv hsm f1 f2
        obtain ⟨β, hβ⟩ : ∃ β, (flagT s).1 = β := ⟨_, rfl⟩
        have HBe := Lib.hid hβ
        rw [hβ] at HV
        clear hβ
        go_wp2_with fail
        refine (HP0.out.t (fun D hT hD => tflag_any p D s _ hT hD)).mono ?_
        rintro e w5 ⟨rfl, hp5, _⟩
        rw [HBe.out]
        have HP5 := Lib.hid hp5
        clear hp5 p0
        go_wp2_with fail
        refine (HP5.out.x (fun D hT hD => rtflag_any q D r _ hT hD)).mono ?_
        rintro e w6 ⟨rfl, hp6, _⟩
        rw [HV.out]
        have HC := Lib.hid hp6
        have HLf := Lib.hid HSm.out.left
        clear hp6
        go_wp2_with fail
        refine HC.out.left.mono ?_
        rintro e w7 ⟨rfl, rfl⟩
        go_wp2_with fail
        refine HC.out.xleft.mono ?_
        rintro e w7 ⟨rfl, rfl⟩
        rw [show leftT (flagT r).2 = leftT (flagT s).2 from HLf.out.symm]
        go_wp2
        go_roundw
        case rel => exact ⟨k + 1, _, _, hlt, by go_num, HSm.out, HC.out⟩
        case measure => simp [intOf]; omega
      have f3 : (K == 3) = false := by simpa using e3
      have HLf := Lib.hid HS.out.left
      clear e3
      go_wp2_with fail
      refine HP0.out.left.mono ?_
      rintro e w7 ⟨rfl, rfl⟩
      go_wp2_with fail
      refine HP0.out.xleft.mono ?_
      rintro e w7 ⟨rfl, rfl⟩
      rw [← HLf.out]
      go_wp2
      go_roundw
      case rel => exact ⟨k + 1, _, _, hlt, by go_num, HS.out, HP0.out⟩
      case measure => simp [intOf]; omega
    · obtain ⟨S, hS⟩ : ∃ S, strOf bs = S := ⟨_, rfl⟩
      have HStr := Lib.hid hS
      have HLt := Lib.hid (HB.out.2.2.2.1)
      obtain ⟨Ax, cx, hq0, hqm, hql⟩ := HP.out.cells
      have HQ := Lib.hid hq0
      have hqm' : cx ≤ 9223372036854775807 := by unfold maxLen at hqm; omega
      have HRB2 := Lib.hid (HRB.out.below HP.out.below)
      obtain ⟨s1, s2⟩ := s
      obtain ⟨r1, r2⟩ := r
      have hs12 := HS.out.1
      simp only at hs12
      subst hs12
      simp only at hql HQ
      clear hS hq0 hqm
      cases s2 with
      | true =>
        have HDn := Lib.hid (show doneT (s1, true) = 10 by simp [doneT])
        go_wp2_with fail
        refine wp_region_flow (fun W => Below wr.heap.size wr W) [0, 1, 2, 3, 4, 5, 6, 7, 8, 9, 10, 11, 12, 13, 14, 15, 16, 17, 18, 19, 20, 21, 22, 23, 24, 25, 26, 27, 28, 29, 30, 31, 32, 33, 34] (by kernel_rfl) (by kernel_rfl) (by kernel_rfl) ((Below.refl _ wr).drew) ?_
        refine flow_val ?_ rfl (by kernel_rfl) (by rfl) (fun W hW => ?_) ?_
        rotate_left 1
        · go_simp <;> with_reducible rfl
        simp only [Act.put, List.setIfInBounds_toArray, List.set_cons_succ, List.set_cons_zero]
        refine flow_quiet (.int .i64 10) rfl (by kernel_rfl) (by rfl) (fun W hW => ⟨_, _, by go_simp, HDn.out ▸ ((HP.out.keep hW).done)⟩) ?_
        simp only [Act.put, List.setIfInBounds_toArray, List.set_cons_succ, List.set_cons_zero]
        refine flow_val ?_ rfl (by kernel_rfl) (by rfl) (fun W hW => ?_) ?_
        rotate_left 1
        · go_simp <;> with_reducible rfl
        simp only [Act.put, List.setIfInBounds_toArray, List.set_cons_succ, List.set_cons_zero]
        refine flow_val ?_ rfl (by kernel_rfl) (by rfl) (fun W hW => ?_) ?_
        rotate_left 1
        · go_simp <;> with_reducible rfl
        simp only [Act.put, List.setIfInBounds_toArray, List.set_cons_succ, List.set_cons_zero]
        refine flow_val ?_ rfl (by kernel_rfl) (by rfl) (fun W hW => ?_) ?_
        rotate_left 1
        · go_simp <;> with_reducible rfl
        simp only [Act.put, List.setIfInBounds_toArray, List.set_cons_succ, List.set_cons_zero]
        refine flow_val ?_ rfl (by kernel_rfl) (by rfl) (fun W hW => ?_) ?_
        rotate_left 1
        · go_simp <;> with_reducible rfl
        simp only [Act.put, List.setIfInBounds_toArray, List.set_cons_succ, List.set_cons_zero]
        refine flow_val ?_ rfl (by kernel_rfl) (by rfl) (fun W hW => ?_) ?_
        rotate_left 1
        · have y0 : W.cell? ⟨q, 0, none⟩ = some (.slice Ax r1.length cx) := cell_at ((hW.block q (lt_of_block HQ.out)).trans HQ.out) 0; have y1 : W.cell? ⟨q, 1, none⟩ = some (.bool true) := cell_at ((hW.block q (lt_of_block HQ.out)).trans HQ.out) 1; go_simp <;> with_reducible rfl
        simp only [Act.put, List.setIfInBounds_toArray, List.set_cons_succ, List.set_cons_zero]
        refine flow_val ?_ rfl (by kernel_rfl) (by rfl) (fun W hW => ?_) ?_
        rotate_left 1
        · go_simp <;> with_reducible rfl
        simp only [Act.put, List.setIfInBounds_toArray, List.set_cons_succ, List.set_cons_zero]
        refine flow_val ?_ rfl (by kernel_rfl) (by rfl) (fun W hW => ?_) ?_
        rotate_left 1
        · go_simp <;> with_reducible rfl
        simp only [Act.put, List.setIfInBounds_toArray, List.set_cons_succ, List.set_cons_zero]
        refine flow_off rfl (by kernel_rfl) (by rfl) ?_
        simp only [Act.put, List.setIfInBounds_toArray, List.set_cons_succ, List.set_cons_zero]
        refine flow_off rfl (by kernel_rfl) (by rfl) ?_
        simp only [Act.put, List.setIfInBounds_toArray, List.set_cons_succ, List.set_cons_zero]
        refine flow_off rfl (by kernel_rfl) (by rfl) ?_
        simp only [Act.put, List.setIfInBounds_toArray, List.set_cons_succ, List.set_cons_zero]
        refine flow_off rfl (by kernel_rfl) (by rfl) ?_
        simp only [Act.put, List.setIfInBounds_toArray, List.set_cons_succ, List.set_cons_zero]
        refine flow_off rfl (by kernel_rfl) (by rfl) ?_
        simp only [Act.put, List.setIfInBounds_toArray, List.set_cons_succ, List.set_cons_zero]
        refine flow_off rfl (by kernel_rfl) (by rfl) ?_
        simp only [Act.put, List.setIfInBounds_toArray, List.set_cons_succ, List.set_cons_zero]
        refine flow_val ?_ rfl (by kernel_rfl) (by rfl) (fun W hW => ?_) ?_
        rotate_left 1
        · go_simp <;> with_reducible rfl
        simp only [Act.put, List.setIfInBounds_toArray, List.set_cons_succ, List.set_cons_zero]
        refine flow_val ?_ rfl (by kernel_rfl) (by rfl) (fun W hW => ?_) ?_
        rotate_left 1
        · go_simp <;> with_reducible rfl
        simp only [Act.put, List.setIfInBounds_toArray, List.set_cons_succ, List.set_cons_zero]
        refine flow_val ?_ rfl (by kernel_rfl) (by rfl) (fun W hW => ?_) ?_
        rotate_left 1
        · go_simp <;> with_reducible rfl
        simp only [Act.put, List.setIfInBounds_toArray, List.set_cons_succ, List.set_cons_zero]
        refine flow_val ?_ rfl (by kernel_rfl) (by rfl) (fun W hW => ?_) ?_
        rotate_left 1
        · go_simp <;> with_reducible rfl
        simp only [Act.put, List.setIfInBounds_toArray, List.set_cons_succ, List.set_cons_zero]
        refine flow_quiet (.int .i64 10) rfl (by kernel_rfl) (by rfl) (fun W hW => ⟨_, _, by go_simp, HDn.out ▸ ((HP.out.keep hW).done)⟩) ?_
        simp only [Act.put, List.setIfInBounds_toArray, List.set_cons_succ, List.set_cons_zero]
        refine flow_val ?_ rfl (by kernel_rfl) (by rfl) (fun W hW => ?_) ?_
        rotate_left 1
        · go_simp <;> with_reducible rfl
        simp only [Act.put, List.setIfInBounds_toArray, List.set_cons_succ, List.set_cons_zero]
        refine flow_val ?_ rfl (by kernel_rfl) (by rfl) (fun W hW => ?_) ?_
        rotate_left 1
        · go_simp <;> with_reducible rfl
        simp only [Act.put, List.setIfInBounds_toArray, List.set_cons_succ, List.set_cons_zero]
        refine flow_val ?_ rfl (by kernel_rfl) (by rfl) (fun W hW => ?_) ?_
        rotate_left 1
        · go_simp <;> with_reducible rfl
        simp only [Act.put, List.setIfInBounds_toArray, List.set_cons_succ, List.set_cons_zero]
        refine flow_quiet (.int .i64 10) rfl (by kernel_rfl) (by rfl) (fun W hW => ⟨_, _, by go_simp, HDn.out ▸ ((HP.out.keep hW).done)⟩) ?_
        simp only [Act.put, List.setIfInBounds_toArray, List.set_cons_succ, List.set_cons_zero]
        refine flow_val ?_ rfl (by kernel_rfl) (by rfl) (fun W hW => ?_) ?_
        rotate_left 1
        · go_simp <;> with_reducible rfl
        simp only [Act.put, List.setIfInBounds_toArray, List.set_cons_succ, List.set_cons_zero]
        refine flow_val ?_ rfl (by kernel_rfl) (by rfl) (fun W hW => ?_) ?_
        rotate_left 1
        · go_simp <;> with_reducible rfl
        simp only [Act.put, List.setIfInBounds_toArray, List.set_cons_succ, List.set_cons_zero]
        refine flow_val ?_ rfl (by kernel_rfl) (by rfl) (fun W hW => ?_) ?_
        rotate_left 1
        · go_simp <;> with_reducible rfl
        simp only [Act.put, List.setIfInBounds_toArray, List.set_cons_succ, List.set_cons_zero]
        refine flow_val ?_ rfl (by kernel_rfl) (by rfl) (fun W hW => ?_) ?_
        rotate_left 1
        · go_simp <;> with_reducible rfl
        simp only [Act.put, List.setIfInBounds_toArray, List.set_cons_succ, List.set_cons_zero]
        refine flow_val ?_ rfl (by kernel_rfl) (by rfl) (fun W hW => ?_) ?_
        rotate_left 1
        · go_simp <;> with_reducible rfl
        simp only [Act.put, List.setIfInBounds_toArray, List.set_cons_succ, List.set_cons_zero]
        refine flow_val ?_ rfl (by kernel_rfl) (by rfl) (fun W hW => ?_) ?_
        rotate_left 1
        · have hs := HStr.out ▸ run_str W A2 bs.length c2 bs (HP.out.rd.below hW) HLt.out; go_simp <;> with_reducible rfl
        simp only [Act.put, List.setIfInBounds_toArray, List.set_cons_succ, List.set_cons_zero]
        refine flow_val ?_ rfl (by kernel_rfl) (by rfl) (fun W hW => ?_) ?_
        rotate_left 1
        · go_simp <;> with_reducible rfl
        simp only [Act.put, List.setIfInBounds_toArray, List.set_cons_succ, List.set_cons_zero]
        refine flow_val ?_ rfl (by kernel_rfl) (by rfl) (fun W hW => ?_) ?_
        rotate_left 1
        · have hs := HStr.out ▸ run_str W Ab bs.length cb bs (HRB2.out.below hW) HLt.out; go_simp <;> with_reducible rfl
        simp only [Act.put, List.setIfInBounds_toArray, List.set_cons_succ, List.set_cons_zero]
        refine flow_val ?_ rfl (by kernel_rfl) (by rfl) (fun W hW => ?_) ?_
        rotate_left 1
        · go_simp <;> with_reducible rfl
        simp only [Act.put, List.setIfInBounds_toArray, List.set_cons_succ, List.set_cons_zero]
        refine flow_val ?_ rfl (by kernel_rfl) (by rfl) (fun W hW => ?_) ?_
        rotate_left 1
        · go_simp <;> with_reducible rfl
        simp only [Act.put, List.setIfInBounds_toArray, List.set_cons_succ, List.set_cons_zero]
        refine flow_val ?_ rfl (by kernel_rfl) (by rfl) (fun W hW => ?_) ?_
        rotate_left 1
        · go_simp <;> with_reducible rfl
        simp only [Act.put, List.setIfInBounds_toArray, List.set_cons_succ, List.set_cons_zero]
        refine flow_done ?_
        intro W hW
        go_wp2
        go_ret
        exact ⟨rfl, HP.out.below.trans (hW.mono HP.out.below.size)⟩
      | false =>
        obtain rfl := HS.out.2 rfl
        by_cases h0 : s1.length = 0
        · have h0' : s1 = [] := List.eq_nil_of_length_eq_zero h0
          subst h0'
          have HDn := Lib.hid (show doneT ([], false) = 0 by decide +kernel)
          clear h0
          go_wp2_with fail
          refine wp_region_flow (fun W => Below wr.heap.size wr W) [0, 1, 2, 3, 4, 5, 6, 7, 8, 9, 10, 11, 12, 13, 14, 15, 16, 17, 18, 19, 20, 21, 22, 23, 24, 25, 26, 27, 28, 29, 30, 31, 32, 33, 34] (by kernel_rfl) (by kernel_rfl) (by kernel_rfl) ((Below.refl _ wr).drew) ?_
          refine flow_val ?_ rfl (by kernel_rfl) (by rfl) (fun W hW => ?_) ?_
          rotate_left 1
          · go_simp <;> with_reducible rfl
          simp only [Act.put, List.setIfInBounds_toArray, List.set_cons_succ, List.set_cons_zero]
          refine flow_quiet (.int .i64 0) rfl (by kernel_rfl) (by rfl) (fun W hW => ⟨_, _, by go_simp, HDn.out ▸ ((HP.out.keep hW).done)⟩) ?_
          simp only [Act.put, List.setIfInBounds_toArray, List.set_cons_succ, List.set_cons_zero]
          refine flow_val ?_ rfl (by kernel_rfl) (by rfl) (fun W hW => ?_) ?_
          rotate_left 1
          · go_simp <;> with_reducible rfl
          simp only [Act.put, List.setIfInBounds_toArray, List.set_cons_succ, List.set_cons_zero]
          refine flow_val ?_ rfl (by kernel_rfl) (by rfl) (fun W hW => ?_) ?_
          rotate_left 1
          · go_simp <;> with_reducible rfl
          simp only [Act.put, List.setIfInBounds_toArray, List.set_cons_succ, List.set_cons_zero]
          refine flow_val ?_ rfl (by kernel_rfl) (by rfl) (fun W hW => ?_) ?_
          rotate_left 1
          · go_simp <;> with_reducible rfl
          simp only [Act.put, List.setIfInBounds_toArray, List.set_cons_succ, List.set_cons_zero]
          refine flow_val ?_ rfl (by kernel_rfl) (by rfl) (fun W hW => ?_) ?_
          rotate_left 1
          · go_simp <;> with_reducible rfl
          simp only [Act.put, List.setIfInBounds_toArray, List.set_cons_succ, List.set_cons_zero]
          refine flow_val ?_ rfl (by kernel_rfl) (by rfl) (fun W hW => ?_) ?_
          rotate_left 1
          · have y0 : W.cell? ⟨q, 0, none⟩ = some (.slice Ax 0 cx) := cell_at ((hW.block q (lt_of_block HQ.out)).trans HQ.out) 0; have y1 : W.cell? ⟨q, 1, none⟩ = some (.bool false) := cell_at ((hW.block q (lt_of_block HQ.out)).trans HQ.out) 1; go_simp <;> with_reducible rfl
          simp only [Act.put, List.setIfInBounds_toArray, List.set_cons_succ, List.set_cons_zero]
          refine flow_val ?_ rfl (by kernel_rfl) (by rfl) (fun W hW => ?_) ?_
          rotate_left 1
          · go_simp <;> with_reducible rfl
          simp only [Act.put, List.setIfInBounds_toArray, List.set_cons_succ, List.set_cons_zero]
          refine flow_val ?_ rfl (by kernel_rfl) (by rfl) (fun W hW => ?_) ?_
          rotate_left 1
          · go_simp <;> with_reducible rfl
          simp only [Act.put, List.setIfInBounds_toArray, List.set_cons_succ, List.set_cons_zero]
          refine flow_val ?_ rfl (by kernel_rfl) (by rfl) (fun W hW => ?_) ?_
          rotate_left 1
          · go_simp <;> with_reducible rfl
          simp only [Act.put, List.setIfInBounds_toArray, List.set_cons_succ, List.set_cons_zero]
          refine flow_val ?_ rfl (by kernel_rfl) (by rfl) (fun W hW => ?_) ?_
          rotate_left 1
          · go_simp <;> with_reducible rfl
          simp only [Act.put, List.setIfInBounds_toArray, List.set_cons_succ, List.set_cons_zero]
          refine flow_val ?_ rfl (by kernel_rfl) (by rfl) (fun W hW => ?_) ?_
          rotate_left 1
          · go_simp <;> with_reducible rfl
          simp only [Act.put, List.setIfInBounds_toArray, List.set_cons_succ, List.set_cons_zero]
          refine flow_val ?_ rfl (by kernel_rfl) (by rfl) (fun W hW => ?_) ?_
          rotate_left 1
          · have y0 : W.cell? ⟨q, 0, none⟩ = some (.slice Ax 0 cx) := cell_at ((hW.block q (lt_of_block HQ.out)).trans HQ.out) 0; have y1 : W.cell? ⟨q, 1, none⟩ = some (.bool false) := cell_at ((hW.block q (lt_of_block HQ.out)).trans HQ.out) 1; go_simp <;> with_reducible rfl
          simp only [Act.put, List.setIfInBounds_toArray, List.set_cons_succ, List.set_cons_zero]
          refine flow_val ?_ rfl (by kernel_rfl) (by rfl) (fun W hW => ?_) ?_
          rotate_left 1
          · go_simp <;> with_reducible rfl
          simp only [Act.put, List.setIfInBounds_toArray, List.set_cons_succ, List.set_cons_zero]
          refine flow_val ?_ rfl (by kernel_rfl) (by rfl) (fun W hW => ?_) ?_
          rotate_left 1
          · go_simp <;> with_reducible rfl
          simp only [Act.put, List.setIfInBounds_toArray, List.set_cons_succ, List.set_cons_zero]
          refine flow_val ?_ rfl (by kernel_rfl) (by rfl) (fun W hW => ?_) ?_
          rotate_left 1
          · go_simp <;> with_reducible rfl
          simp only [Act.put, List.setIfInBounds_toArray, List.set_cons_succ, List.set_cons_zero]
          refine flow_val ?_ rfl (by kernel_rfl) (by rfl) (fun W hW => ?_) ?_
          rotate_left 1
          · go_simp <;> with_reducible rfl
          simp only [Act.put, List.setIfInBounds_toArray, List.set_cons_succ, List.set_cons_zero]
          refine flow_val ?_ rfl (by kernel_rfl) (by rfl) (fun W hW => ?_) ?_
          rotate_left 1
          · go_simp <;> with_reducible rfl
          simp only [Act.put, List.setIfInBounds_toArray, List.set_cons_succ, List.set_cons_zero]
          refine flow_val ?_ rfl (by kernel_rfl) (by rfl) (fun W hW => ?_) ?_
          rotate_left 1
          · go_simp <;> with_reducible rfl
          simp only [Act.put, List.setIfInBounds_toArray, List.set_cons_succ, List.set_cons_zero]
          refine flow_quiet (.int .i64 0) rfl (by kernel_rfl) (by rfl) (fun W hW => ⟨_, _, by go_simp, HDn.out ▸ ((HP.out.keep hW).done)⟩) ?_
          simp only [Act.put, List.setIfInBounds_toArray, List.set_cons_succ, List.set_cons_zero]
          refine flow_val ?_ rfl (by kernel_rfl) (by rfl) (fun W hW => ?_) ?_
          rotate_left 1
          · go_simp <;> with_reducible rfl
          simp only [Act.put, List.setIfInBounds_toArray, List.set_cons_succ, List.set_cons_zero]
          refine flow_val ?_ rfl (by kernel_rfl) (by rfl) (fun W hW => ?_) ?_
          rotate_left 1
          · go_simp <;> with_reducible rfl
          simp only [Act.put, List.setIfInBounds_toArray, List.set_cons_succ, List.set_cons_zero]
          refine flow_off rfl (by kernel_rfl) (by rfl) ?_
          simp only [Act.put, List.setIfInBounds_toArray, List.set_cons_succ, List.set_cons_zero]
          refine flow_off rfl (by kernel_rfl) (by rfl) ?_
          simp only [Act.put, List.setIfInBounds_toArray, List.set_cons_succ, List.set_cons_zero]
          refine flow_off rfl (by kernel_rfl) (by rfl) ?_
          simp only [Act.put, List.setIfInBounds_toArray, List.set_cons_succ, List.set_cons_zero]
          refine flow_val ?_ rfl (by kernel_rfl) (by rfl) (fun W hW => ?_) ?_
          rotate_left 1
          · go_simp <;> with_reducible rfl
          simp only [Act.put, List.setIfInBounds_toArray, List.set_cons_succ, List.set_cons_zero]
          refine flow_val ?_ rfl (by kernel_rfl) (by rfl) (fun W hW => ?_) ?_
          rotate_left 1
          · go_simp <;> with_reducible rfl
          simp only [Act.put, List.setIfInBounds_toArray, List.set_cons_succ, List.set_cons_zero]
          refine flow_val ?_ rfl (by kernel_rfl) (by rfl) (fun W hW => ?_) ?_
          rotate_left 1
          · go_simp <;> with_reducible rfl
          simp only [Act.put, List.setIfInBounds_toArray, List.set_cons_succ, List.set_cons_zero]
          refine flow_val ?_ rfl (by kernel_rfl) (by rfl) (fun W hW => ?_) ?_
          rotate_left 1
          · go_simp <;> with_reducible rfl
          simp only [Act.put, List.setIfInBounds_toArray, List.set_cons_succ, List.set_cons_zero]
          refine flow_val ?_ rfl (by kernel_rfl) (by rfl) (fun W hW => ?_) ?_
          rotate_left 1
          · have hs := HStr.out ▸ run_str W A2 bs.length c2 bs (HP.out.rd.below hW) HLt.out; go_simp <;> with_reducible rfl
          simp only [Act.put, List.setIfInBounds_toArray, List.set_cons_succ, List.set_cons_zero]
          refine flow_val ?_ rfl (by kernel_rfl) (by rfl) (fun W hW => ?_) ?_
          rotate_left 1
          · go_simp <;> with_reducible rfl
          simp only [Act.put, List.setIfInBounds_toArray, List.set_cons_succ, List.set_cons_zero]
          refine flow_val ?_ rfl (by kernel_rfl) (by rfl) (fun W hW => ?_) ?_
          rotate_left 1
          · have hs := HStr.out ▸ run_str W Ab bs.length cb bs (HRB2.out.below hW) HLt.out; go_simp <;> with_reducible rfl
          simp only [Act.put, List.setIfInBounds_toArray, List.set_cons_succ, List.set_cons_zero]
          refine flow_val ?_ rfl (by kernel_rfl) (by rfl) (fun W hW => ?_) ?_
          rotate_left 1
          · go_simp <;> with_reducible rfl
          simp only [Act.put, List.setIfInBounds_toArray, List.set_cons_succ, List.set_cons_zero]
          refine flow_val ?_ rfl (by kernel_rfl) (by rfl) (fun W hW => ?_) ?_
          rotate_left 1
          · go_simp <;> with_reducible rfl
          simp only [Act.put, List.setIfInBounds_toArray, List.set_cons_succ, List.set_cons_zero]
          refine flow_val ?_ rfl (by kernel_rfl) (by rfl) (fun W hW => ?_) ?_
          rotate_left 1
          · go_simp <;> with_reducible rfl
          simp only [Act.put, List.setIfInBounds_toArray, List.set_cons_succ, List.set_cons_zero]
          refine flow_done ?_
          intro W hW
          go_wp2
          go_ret
          exact ⟨rfl, HP.out.below.trans (hW.mono HP.out.below.size)⟩
        · have HDn := Lib.hid (show doneT (s1, false) = 10 by unfold doneT; rw [if_pos]; right; simp only; omega)
          have hz1 : ((s1.length : Int) == 0) = false := by rw [beq_eq_false_iff_ne]; omega
          clear h0
          go_wp2_with fail
          refine wp_region_flow (fun W => Below wr.heap.size wr W) [0, 1, 2, 3, 4, 5, 6, 7, 8, 9, 10, 11, 12, 13, 14, 15, 16, 17, 18, 19, 20, 21, 22, 23, 24, 25, 26, 27, 28, 29, 30, 31, 32, 33, 34] (by kernel_rfl) (by kernel_rfl) (by kernel_rfl) ((Below.refl _ wr).drew) ?_
          refine flow_val ?_ rfl (by kernel_rfl) (by rfl) (fun W hW => ?_) ?_
          rotate_left 1
          · go_simp <;> with_reducible rfl
          simp only [Act.put, List.setIfInBounds_toArray, List.set_cons_succ, List.set_cons_zero]
          refine flow_quiet (.int .i64 10) rfl (by kernel_rfl) (by rfl) (fun W hW => ⟨_, _, by go_simp, HDn.out ▸ ((HP.out.keep hW).done)⟩) ?_
          simp only [Act.put, List.setIfInBounds_toArray, List.set_cons_succ, List.set_cons_zero]
          refine flow_val ?_ rfl (by kernel_rfl) (by rfl) (fun W hW => ?_) ?_
          rotate_left 1
          · go_simp <;> with_reducible rfl
          simp only [Act.put, List.setIfInBounds_toArray, List.set_cons_succ, List.set_cons_zero]
          refine flow_val ?_ rfl (by kernel_rfl) (by rfl) (fun W hW => ?_) ?_
          rotate_left 1
          · go_simp <;> with_reducible rfl
          simp only [Act.put, List.setIfInBounds_toArray, List.set_cons_succ, List.set_cons_zero]
          refine flow_val ?_ rfl (by kernel_rfl) (by rfl) (fun W hW => ?_) ?_
          rotate_left 1
          · go_simp <;> with_reducible rfl
          simp only [Act.put, List.setIfInBounds_toArray, List.set_cons_succ, List.set_cons_zero]
          refine flow_val ?_ rfl (by kernel_rfl) (by rfl) (fun W hW => ?_) ?_
          rotate_left 1
          · go_simp <;> with_reducible rfl
          simp only [Act.put, List.setIfInBounds_toArray, List.set_cons_succ, List.set_cons_zero]
          refine flow_val ?_ rfl (by kernel_rfl) (by rfl) (fun W hW => ?_) ?_
          rotate_left 1
          · have y0 : W.cell? ⟨q, 0, none⟩ = some (.slice Ax s1.length cx) := cell_at ((hW.block q (lt_of_block HQ.out)).trans HQ.out) 0; have y1 : W.cell? ⟨q, 1, none⟩ = some (.bool false) := cell_at ((hW.block q (lt_of_block HQ.out)).trans HQ.out) 1; go_simp <;> with_reducible rfl
          simp only [Act.put, List.setIfInBounds_toArray, List.set_cons_succ, List.set_cons_zero]
          refine flow_val ?_ rfl (by kernel_rfl) (by rfl) (fun W hW => ?_) ?_
          rotate_left 1
          · go_simp <;> with_reducible rfl
          simp only [Act.put, List.setIfInBounds_toArray, List.set_cons_succ, List.set_cons_zero]
          refine flow_val ?_ rfl (by kernel_rfl) (by rfl) (fun W hW => ?_) ?_
          rotate_left 1
          · go_simp <;> with_reducible rfl
          simp only [Act.put, List.setIfInBounds_toArray, List.set_cons_succ, List.set_cons_zero]
          refine flow_val ?_ rfl (by kernel_rfl) (by rfl) (fun W hW => ?_) ?_
          rotate_left 1
          · go_simp <;> with_reducible rfl
          simp only [Act.put, List.setIfInBounds_toArray, List.set_cons_succ, List.set_cons_zero]
          refine flow_val ?_ rfl (by kernel_rfl) (by rfl) (fun W hW => ?_) ?_
          rotate_left 1
          · go_simp <;> with_reducible rfl
          simp only [Act.put, List.setIfInBounds_toArray, List.set_cons_succ, List.set_cons_zero]
          refine flow_val ?_ rfl (by kernel_rfl) (by rfl) (fun W hW => ?_) ?_
          rotate_left 1
          · go_simp <;> with_reducible rfl
          simp only [Act.put, List.setIfInBounds_toArray, List.set_cons_succ, List.set_cons_zero]
          refine flow_val ?_ rfl (by kernel_rfl) (by rfl) (fun W hW => ?_) ?_
          rotate_left 1
          · have y0 : W.cell? ⟨q, 0, none⟩ = some (.slice Ax s1.length cx) := cell_at ((hW.block q (lt_of_block HQ.out)).trans HQ.out) 0; have y1 : W.cell? ⟨q, 1, none⟩ = some (.bool false) := cell_at ((hW.block q (lt_of_block HQ.out)).trans HQ.out) 1; go_simp <;> with_reducible rfl
          simp only [Act.put, List.setIfInBounds_toArray, List.set_cons_succ, List.set_cons_zero]
          refine flow_val ?_ rfl (by kernel_rfl) (by rfl) (fun W hW => ?_) ?_
          rotate_left 1
          · go_simp <;> with_reducible rfl
          simp only [Act.put, List.setIfInBounds_toArray, List.set_cons_succ, List.set_cons_zero]
          refine flow_val ?_ rfl (by kernel_rfl) (by rfl) (fun W hW => ?_) ?_
          rotate_left 1
          · go_simp <;> with_reducible rfl
          simp only [Act.put, List.setIfInBounds_toArray, List.set_cons_succ, List.set_cons_zero]
          refine flow_val ?_ rfl (by kernel_rfl) (by rfl) (fun W hW => ?_) ?_
          rotate_left 1
          · go_simp <;> with_reducible rfl
          simp only [Act.put, List.setIfInBounds_toArray, List.set_cons_succ, List.set_cons_zero]
          refine flow_val ?_ rfl (by kernel_rfl) (by rfl) (fun W hW => ?_) ?_
          rotate_left 1
          · go_simp <;> with_reducible rfl
          simp only [Act.put, List.setIfInBounds_toArray, List.set_cons_succ, List.set_cons_zero]
          refine flow_val ?_ rfl (by kernel_rfl) (by rfl) (fun W hW => ?_) ?_
          rotate_left 1
          · go_simp <;> with_reducible rfl
          simp only [Act.put, List.setIfInBounds_toArray, List.set_cons_succ, List.set_cons_zero]
          refine flow_val ?_ rfl (by kernel_rfl) (by rfl) (fun W hW => ?_) ?_
          rotate_left 1
          · go_simp <;> with_reducible rfl
          simp only [Act.put, List.setIfInBounds_toArray, List.set_cons_succ, List.set_cons_zero]
          refine flow_quiet (.int .i64 10) rfl (by kernel_rfl) (by rfl) (fun W hW => ⟨_, _, by go_simp, HDn.out ▸ ((HP.out.keep hW).done)⟩) ?_
          simp only [Act.put, List.setIfInBounds_toArray, List.set_cons_succ, List.set_cons_zero]
          refine flow_val ?_ rfl (by kernel_rfl) (by rfl) (fun W hW => ?_) ?_
          rotate_left 1
          · go_simp <;> with_reducible rfl
          simp only [Act.put, List.setIfInBounds_toArray, List.set_cons_succ, List.set_cons_zero]
          refine flow_val ?_ rfl (by kernel_rfl) (by rfl) (fun W hW => ?_) ?_
          rotate_left 1
          · go_simp <;> with_reducible rfl
          simp only [Act.put, List.setIfInBounds_toArray, List.set_cons_succ, List.set_cons_zero]
          refine flow_val ?_ rfl (by kernel_rfl) (by rfl) (fun W hW => ?_) ?_
          rotate_left 1
          · go_simp <;> with_reducible rfl
          simp only [Act.put, List.setIfInBounds_toArray, List.set_cons_succ, List.set_cons_zero]
          refine flow_quiet (.int .i64 10) rfl (by kernel_rfl) (by rfl) (fun W hW => ⟨_, _, by go_simp, HDn.out ▸ ((HP.out.keep hW).done)⟩) ?_
          simp only [Act.put, List.setIfInBounds_toArray, List.set_cons_succ, List.set_cons_zero]
          refine flow_val ?_ rfl (by kernel_rfl) (by rfl) (fun W hW => ?_) ?_
          rotate_left 1
          · go_simp <;> with_reducible rfl
          simp only [Act.put, List.setIfInBounds_toArray, List.set_cons_succ, List.set_cons_zero]
          refine flow_val ?_ rfl (by kernel_rfl) (by rfl) (fun W hW => ?_) ?_
          rotate_left 1
          · go_simp <;> with_reducible rfl
          simp only [Act.put, List.setIfInBounds_toArray, List.set_cons_succ, List.set_cons_zero]
          refine flow_val ?_ rfl (by kernel_rfl) (by rfl) (fun W hW => ?_) ?_
          rotate_left 1
          · go_simp <;> with_reducible rfl
          simp only [Act.put, List.setIfInBounds_toArray, List.set_cons_succ, List.set_cons_zero]
          refine flow_val ?_ rfl (by kernel_rfl) (by rfl) (fun W hW => ?_) ?_
          rotate_left 1
          · go_simp <;> with_reducible rfl
          simp only [Act.put, List.setIfInBounds_toArray, List.set_cons_succ, List.set_cons_zero]
          refine flow_val ?_ rfl (by kernel_rfl) (by rfl) (fun W hW => ?_) ?_
          rotate_left 1
          · go_simp <;> with_reducible rfl
          simp only [Act.put, List.setIfInBounds_toArray, List.set_cons_succ, List.set_cons_zero]
          refine flow_val ?_ rfl (by kernel_rfl) (by rfl) (fun W hW => ?_) ?_
          rotate_left 1
          · have hs := HStr.out ▸ run_str W A2 bs.length c2 bs (HP.out.rd.below hW) HLt.out; go_simp <;> with_reducible rfl
          simp only [Act.put, List.setIfInBounds_toArray, List.set_cons_succ, List.set_cons_zero]
          refine flow_val ?_ rfl (by kernel_rfl) (by rfl) (fun W hW => ?_) ?_
          rotate_left 1
          · go_simp <;> with_reducible rfl
          simp only [Act.put, List.setIfInBounds_toArray, List.set_cons_succ, List.set_cons_zero]
          refine flow_val ?_ rfl (by kernel_rfl) (by rfl) (fun W hW => ?_) ?_
          rotate_left 1
          · have hs := HStr.out ▸ run_str W Ab bs.length cb bs (HRB2.out.below hW) HLt.out; go_simp <;> with_reducible rfl
          simp only [Act.put, List.setIfInBounds_toArray, List.set_cons_succ, List.set_cons_zero]
          refine flow_val ?_ rfl (by kernel_rfl) (by rfl) (fun W hW => ?_) ?_
          rotate_left 1
          · go_simp <;> with_reducible rfl
          simp only [Act.put, List.setIfInBounds_toArray, List.set_cons_succ, List.set_cons_zero]
          refine flow_val ?_ rfl (by kernel_rfl) (by rfl) (fun W hW => ?_) ?_
          rotate_left 1
          · go_simp <;> with_reducible rfl
          simp only [Act.put, List.setIfInBounds_toArray, List.set_cons_succ, List.set_cons_zero]
          refine flow_val ?_ rfl (by kernel_rfl) (by rfl) (fun W hW => ?_) ?_
          rotate_left 1
          · go_simp <;> with_reducible rfl
          simp only [Act.put, List.setIfInBounds_toArray, List.set_cons_succ, List.set_cons_zero]
          refine flow_done ?_
          intro W hW
          go_wp2
          go_ret
          exact ⟨rfl, HP.out.below.trans (hW.mono HP.out.below.size)⟩
end Go.Proofs.Ytlljeghlfijdnaa
