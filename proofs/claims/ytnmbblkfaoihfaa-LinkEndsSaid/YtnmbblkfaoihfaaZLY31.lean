/- How a play begins; and that it stands right. -/
import Derived.Test.YtnmbblkfaoihfaaZLY30
namespace Go.Proofs.Ytnmbblkfaoihfaa
open Go.RowKit

/-- A play that begins. -/
def zeroY : Play := ⟨fun _ => ⟨[], 0, 0⟩, fun _ => [], fun _ => [], fun _ => [], 0⟩
theorem zero_good : GoodY zeroY ∧ FewY zeroY 0 :=
  ⟨⟨⟨fun _ => rfl, fun _ => ⟨[], rfl⟩, fun _ => rfl, fun _ x hx => by simp [zeroY] at hx, fun _ x hx => by simp [zeroY] at hx⟩, fun _ => ⟨0, Int.le_refl _, rfl⟩, fun _ x hx => by simp [zeroY] at hx, fun _ x hx => by simp [zeroY] at hx, fun _ => by simp [zeroY], Int.le_refl _, fun _ => by simp [zeroY], fun _ x hx => by simp [zeroY] at hx, fun _ x hx => by simp [zeroY] at hx⟩, fun _ => Nat.le_refl _, Int.le_refl _⟩
def sl0 : Bool → Value := fun _ => .slice none 0 0
def ze0 : Bool → List (LPk × Value) := fun _ => []
theorem isy_zero {w W : World} {y p q : Nat} (h1 : W.heap[y]? = some (.cells #[.pointer (some ⟨p, 0, none⟩), .pointer (some ⟨q, 0, none⟩), .slice none 0 0, .slice none 0 0, .slice none 0 0, .slice none 0 0, .slice none 0 0, .slice none 0 0, .int .i64 0] 37 (0, 0))) (h2 : En2 w p ⟨[], 0, 0⟩ q ⟨[], 0, 0⟩ W) (hl : w.heap.size ≤ y) :
    IsY w y (fun a => if a then q else p) zeroY sl0 sl0 sl0 ze0 W := by
  refine ⟨h1, h2, hl, fun _ => rfl, fun a z hz => by simp [ze0] at hz, fun r hr => ?_, ?_⟩
  · simp only [rowsY, List.mem_cons, List.not_mem_nil, or_false] at hr
    rcases hr with rfl | rfl | rfl | rfl | rfl | rfl <;> exact World.ownsRow_nil _ _ _ _
  · have hn : ∀ r ∈ rowsY zeroY sl0 sl0 sl0 ze0, r.v.ownBlock = none := fun r hr => by
      simp only [rowsY, List.mem_cons, List.not_mem_nil, or_false] at hr
      rcases hr with rfl | rfl | rfl | rfl | rfl | rfl <;> rfl
    exact List.pairwise_of_forall_mem_list fun a ha b hb g hg => by rw [hn a ha] at hg; cases hg

set_option maxRecDepth 100000 in
set_option maxHeartbeats 2000000 in
theorem begin_any (w : World) : Calls Try.prog 11 #[] w fun e W' => ∃ y pe, e = .returned (.pointer (some ⟨y, 0, none⟩)) ∧ IsY w y pe zeroY sl0 sl0 sl0 ze0 W' := by
  go_enter Try.func11, Try.ntmps11
  go_wp2_with fail
  have hbA := (Below.refl _ w).alloc (Nat.le_refl _) (.cells #[.pointer none, .pointer none, .slice none 0 0, .slice none 0 0, .slice none 0 0, .slice none 0 0, .slice none 0 0, .slice none 0 0, .int .i64 0] 37)
  have hq0 := block_new w (.cells #[.pointer none, .pointer none, .slice none 0 0, .slice none 0 0, .slice none 0 0, .slice none 0 0, .slice none 0 0, .slice none 0 0, .int .i64 0] 37)
  obtain ⟨W0, hW0⟩ : ∃ W0, w.alloc (.cells #[.pointer none, .pointer none, .slice none 0 0, .slice none 0 0, .slice none 0 0, .slice none 0 0, .slice none 0 0, .slice none 0 0, .int .i64 0] 37) = W0 := ⟨_, rfl⟩
  obtain ⟨y, hy⟩ : ∃ y, w.heap.size = y := ⟨_, rfl⟩
  have HYL : Hid (w.heap.size ≤ y) := Lib.hid (by omega)
  rw [hW0] at hbA hq0 ⊢
  rw [hy] at hq0 ⊢
  have HB0 := Lib.hid hbA
  have HQ0 := Lib.hid hq0
  clear hbA hq0 hW0 hy
  refine wp_region_flow2 (fun W => Below w.heap.size w W) (fun W => W.heap[y]? = some (.cells #[.pointer none, .pointer none, .slice none 0 0, .slice none 0 0, .slice none 0 0, .slice none 0 0, .slice none 0 0, .slice none 0 0, .int .i64 0] 37 (0, 0))) [0, 1, 4, 5, 8, 9, 2, 3, 6, 7, 10, 11] (by kernel_rfl) (by kernel_rfl) (by kernel_rfl) (HB0.out.drew) (HQ0.out) ?_
  refine flow_val ?_ rfl (by kernel_rfl) (by rfl) (fun W hW => ?_) ?_
  rotate_left 1
  · go_simp <;> with_reducible rfl
  simp only [Act.put, List.setIfInBounds_toArray, List.set_cons_succ, List.set_cons_zero]
  refine flow_val ?_ rfl (by kernel_rfl) (by rfl) (fun W hW => ?_) ?_
  rotate_left 1
  · go_simp <;> with_reducible rfl
  simp only [Act.put, List.setIfInBounds_toArray, List.set_cons_succ, List.set_cons_zero]
  refine flow_val ?_ rfl (by kernel_rfl) (by rfl) (fun W hW => ?_) ?_
  rotate_left 1
  · go_simp <;> with_reducible rfl
  simp only [Act.put, List.setIfInBounds_toArray, List.set_cons_succ, List.set_cons_zero]
  refine flow_val ?_ rfl (by kernel_rfl) (by rfl) (fun W hW => ?_) ?_
  rotate_left 1
  · go_simp <;> with_reducible rfl
  simp only [Act.put, List.setIfInBounds_toArray, List.set_cons_succ, List.set_cons_zero]
  refine flow_val ?_ rfl (by kernel_rfl) (by rfl) (fun W hW => ?_) ?_
  rotate_left 1
  · go_simp <;> with_reducible rfl
  simp only [Act.put, List.setIfInBounds_toArray, List.set_cons_succ, List.set_cons_zero]
  refine flow_val ?_ rfl (by kernel_rfl) (by rfl) (fun W hW => ?_) ?_
  rotate_left 1
  · go_simp <;> with_reducible rfl
  simp only [Act.put, List.setIfInBounds_toArray, List.set_cons_succ, List.set_cons_zero]
  refine flow_gcall (fun v W => ∃ p, v = .pointer (some ⟨p, 0, none⟩) ∧ IsE W 84 80 p none ⟨[], 0, 0⟩ ∧ w.heap.size ≤ p ∧ W.heap[y]? = some (.cells #[.pointer none, .pointer none, .slice none 0 0, .slice none 0 0, .slice none 0 0, .slice none 0 0, .slice none 0 0, .slice none 0 0, .int .i64 0] 37 (0, 0))) rfl (by kernel_rfl) (by rfl) (by kernel_rfl) (fun W hW hC => ⟨_, _, _, by go_simp, (lnew_any W).mono fun e w1 ⟨he, hE, hb⟩ => ⟨_, he, hW.trans (hb.mono hW.size), _, rfl, hE, hW.size, (hb.block _ (lt_of_block hC)).trans hC⟩⟩) ?_
  rintro v6 ⟨_, _, p, rfl, _⟩
  simp only [Act.put, List.setIfInBounds_toArray, List.set_cons_succ, List.set_cons_zero]
  refine flow_gcall (fun v W => ∃ q, v = .pointer (some ⟨q, 0, none⟩) ∧ En2 w p ⟨[], 0, 0⟩ q ⟨[], 0, 0⟩ W ∧ W.heap[y]? = some (.cells #[.pointer none, .pointer none, .slice none 0 0, .slice none 0 0, .slice none 0 0, .slice none 0 0, .slice none 0 0, .slice none 0 0, .int .i64 0] 37 (0, 0))) rfl (by kernel_rfl) (by rfl) (by kernel_rfl) (fun W hW hC => ?_) ?_
  · obtain ⟨p2, e2, hE, hp, hyc⟩ := hC
    injection e2 with e2
    injection e2 with e2
    injection e2 with e2 _ _
    subst e2
    refine ⟨_, _, _, by go_simp, (lnew_any W).mono fun e w1 ⟨he, hE2, hb⟩ => ⟨_, he, ⟨hW.1.trans (hb.mono hW.1.size), trivial⟩, _, rfl, ⟨none, none, hE.below hb, hE2, ?_, by simp, hp, hW.1.size, by simp, by simp, hW.1.trans (hb.mono hW.1.size)⟩, (hb.block _ (lt_of_block hyc)).trans hyc⟩⟩
    have := hE.lt
    omega
  rintro v7 ⟨_, _, q, rfl, _⟩
  simp only [Act.put, List.setIfInBounds_toArray, List.set_cons_succ, List.set_cons_zero]
  refine flow_val ?_ rfl (by kernel_rfl) (by rfl) (fun W hW => ?_) ?_
  rotate_left 1
  · go_simp <;> with_reducible rfl
  simp only [Act.put, List.setIfInBounds_toArray, List.set_cons_succ, List.set_cons_zero]
  refine flow_store (fun W => En2 w p ⟨[], 0, 0⟩ q ⟨[], 0, 0⟩ W ∧ W.heap[y]? = some (.cells #[.pointer (some ⟨p, 0, none⟩), .pointer none, .slice none 0 0, .slice none 0 0, .slice none 0 0, .slice none 0 0, .slice none 0 0, .slice none 0 0, .int .i64 0] 37 (0, 0))) rfl (by kernel_rfl) (by rfl) (by kernel_rfl) (fun W hW hC => ?_) ?_
  · obtain ⟨q2, e2, hen, hyc⟩ := hC
    injection e2 with e2
    injection e2 with e2
    injection e2 with e2 _ _
    subst e2
    have q1 := cell_at hyc 0
    have q2 := frozen_at hyc 0
    have HYC := Lib.hid hyc
    have HEN := Lib.hid hen
    have HBW := Lib.hid hW.1.1
    clear hyc hen hW
    have fs : Fr 0 [] [y] W (W.setCell ⟨y, 0, none⟩ (.pointer (some ⟨p, 0, none⟩))) := (Fr.refl W).setCell (p := ⟨y, 0, none⟩) _ (Nat.zero_le _) (.inl (by simp))
    refine ⟨_, by go_simp <;> with_reducible rfl, ⟨⟨?_, trivial⟩, trivial⟩, ?_, ?_⟩
    · exact HBW.out.trans ((Below.refl _ W).setCell (p := ⟨y, 0, none⟩) HYL.out _)
    · exact HEN.out.farN fs HYC.out HYL.out (by decide) (by decide) (by decide)
    · simpa using block_set HYC.out 0 (.pointer (some ⟨p, 0, none⟩))
  simp only [Act.put]
  refine flow_val ?_ rfl (by kernel_rfl) (by rfl) (fun W hW => ?_) ?_
  rotate_left 1
  · go_simp <;> with_reducible rfl
  simp only [Act.put, List.setIfInBounds_toArray, List.set_cons_succ, List.set_cons_zero]
  refine flow_store (fun W => En2 w p ⟨[], 0, 0⟩ q ⟨[], 0, 0⟩ W ∧ W.heap[y]? = some (.cells #[.pointer (some ⟨p, 0, none⟩), .pointer (some ⟨q, 0, none⟩), .slice none 0 0, .slice none 0 0, .slice none 0 0, .slice none 0 0, .slice none 0 0, .slice none 0 0, .int .i64 0] 37 (0, 0))) rfl (by kernel_rfl) (by rfl) (by kernel_rfl) (fun W hW hC => ?_) ?_
  · obtain ⟨hen, hyc⟩ := hC
    have q1 := cell_at hyc 1
    have q2 := frozen_at hyc 1
    have HYC := Lib.hid hyc
    have HEN := Lib.hid hen
    have HBW := Lib.hid hW.1.1.1
    clear hyc hen hW
    have fs : Fr 0 [] [y] W (W.setCell ⟨y, 1, none⟩ (.pointer (some ⟨q, 0, none⟩))) := (Fr.refl W).setCell (p := ⟨y, 1, none⟩) _ (Nat.zero_le _) (.inl (by simp))
    refine ⟨_, by go_simp <;> with_reducible rfl, ⟨⟨⟨?_, trivial⟩, trivial⟩, trivial⟩, ?_, ?_⟩
    · exact HBW.out.trans ((Below.refl _ W).setCell (p := ⟨y, 1, none⟩) HYL.out _)
    · exact HEN.out.farN fs HYC.out HYL.out (by decide) (by decide) (by decide)
    · simpa using block_set HYC.out 1 (.pointer (some ⟨q, 0, none⟩))
  simp only [Act.put]
  refine flow_done2 ?_
  rintro W1 _ ⟨hen, hyc⟩
  have x0 := cell_at hyc 0
  have x1 := cell_at hyc 1
  have HI := Lib.hid (isy_zero hyc hen HYL.out)
  clear hyc hen
  go_wp2
  go_ret
  exact ⟨y, _, rfl, HI.out⟩

set_option maxRecDepth 100000 in
set_option maxHeartbeats 2000000 in
theorem right_any (w : World) (y : Nat) (pe : Bool → Nat) (P : Play) (W : World) (vs vc vw : Bool → Value) (zs : Bool → List (LPk × Value)) (hY : IsY w y pe P vs vc vw zs W) (hR : RightY P) :
    Calls Try.prog 14 #[.pointer (some ⟨y, 0, none⟩)] W fun e W' => e = .returned (.bool true) ∧ Below W.heap.size W W' := by
  have HY := Lib.hid hY
  have HR := Lib.hid hR
  clear hY hR
  go_enter Try.func14, Try.ntmps14
  go_wp2_with fail
  go_loopw [3] (fun av wr => ∃ k : Nat, k ≤ 2 ∧ av = .int .i64 k ∧ Below W.heap.size W wr) (fun av _ => 2 - (intOf av).toNat)
  case atStart => exact ⟨0, by omega, rfl, Below.refl _ _⟩
  case round =>
    obtain ⟨k, hk, rfl, hbw⟩ := hrel
    have HB := Lib.hid (HY.out.below hbw)
    have HBW := Lib.hid hbw
    clear hbw
    match k, hk with
    | 0, _ =>
      rw [show ((0 : Nat) : Int) = 0 from rfl]
      obtain ⟨hmk, hcm⟩ : (P.e false).mark = ((P.came false).length : Int) ∧ ∃ r, P.sent true = P.came false ++ r := ⟨HR.out.mark false, HR.out.came false⟩
      obtain ⟨ex, hex⟩ := hcm
      obtain ⟨Ac, cc, hvc, kc1, kc2, hrc, _⟩ := own_slice (HB.out.rows.1 ⟨9, 1, vc false, (P.came false).length, (P.came false).map strY⟩ (by simp [rowsY]))
      obtain ⟨As, cs, hvs, ks1, ks2, hrs, _⟩ := own_slice (HB.out.rows.1 ⟨9, 1, vs true, (P.sent true).length, (P.sent true).map strY⟩ (by simp [rowsY]))
      simp only at hvc hvs hrc hrs
      have hlen : (P.came false).length ≤ (P.sent true).length := by rw [hex]; simp
      have hsame : ∀ i (h1 : i < (P.came false).length) (h2 : i < (P.sent true).length), (P.sent true)[i] = (P.came false)[i] := fun i h1 h2 => by
        simp only [hex]
        rw [List.getElem_append_left h1]
      have hb0 := HB.out.b
      rw [hvc, hvs] at hb0
      obtain ⟨Nc, hNc⟩ : ∃ n, (P.came false).length = n := ⟨_, rfl⟩
      obtain ⟨Ns, hNs⟩ : ∃ n, (P.sent true).length = n := ⟨_, rfl⟩
      have HNC := Lib.hid hNc
      have HNS := Lib.hid hNs
      have HSM := Lib.hid hsame
      have HRC := Lib.hid hrc
      have HRS := Lib.hid hrs
      have HMKK : Hid ((P.e false).mark = (Nc : Int)) := Lib.hid (by rw [hmk, hNc])
      rw [hNc, hNs] at hb0 hlen
      rw [hNc] at kc1
      rw [hNs] at ks1
      have hw1 : IntKind.i64.wrap (1 : Int) = 1 := IntWalk.i64_in _ (by omega)
      have hB0 := Lib.hid hb0
      have p1 : wr.cell? ⟨y, 4, none⟩ = some (.slice Ac Nc cc) := cell_at hb0 4
      have p2 : wr.cell? ⟨y, 3, none⟩ = some (.slice As Ns cs) := cell_at hb0 3
      have p3 : wr.cell? ⟨y, 0, none⟩ = some (.pointer (some ⟨pe false, 0, none⟩)) := cell_at hb0 0
      have hle : decide (Ns < Nc) = false := by simp; omega
      unfold maxLen at kc2 ks2
      clear hex hmk hsame hrc hrs hvc hvs hNc hNs hb0
      go_wp2_with fail
      refine wp_region_flow (fun W => W = wr.drew) [0, 1, 2, 3, 4, 5, 6, 7, 8, 9, 10, 11, 12, 13, 14, 15, 16, 17, 18, 19, 20, 21, 22, 23, 24, 25, 26, 27, 28, 29, 30, 31, 32] (by kernel_rfl) (by kernel_rfl) (by kernel_rfl) (rfl) ?_
      refine flow_val ?_ rfl (by kernel_rfl) (by rfl) (fun W hW => ?_) ?_
      rotate_left 1
      · go_simp <;> with_reducible rfl
      simp only [Act.put, List.setIfInBounds_toArray, List.set_cons_succ, List.set_cons_zero]
      refine flow_val ?_ rfl (by kernel_rfl) (by rfl) (fun W hW => ?_) ?_
      rotate_left 1
      · go_simp <;> with_reducible rfl
      simp only [Act.put, List.setIfInBounds_toArray, List.set_cons_succ, List.set_cons_zero]
      refine flow_val ?_ rfl (by kernel_rfl) (by rfl) (fun W hW => ?_) ?_
      rotate_left 1
      · go_simp <;> with_reducible rfl
      simp only [Act.put, List.setIfInBounds_toArray, List.set_cons_succ, List.set_cons_zero]
      refine flow_val ?_ rfl (by kernel_rfl) (by rfl) (fun W hW => ?_) ?_
      rotate_left 1
      · go_simp <;> with_reducible rfl
      simp only [Act.put, List.setIfInBounds_toArray, List.set_cons_succ, List.set_cons_zero]
      refine flow_val ?_ rfl (by kernel_rfl) (by rfl) (fun W hW => ?_) ?_
      rotate_left 1
      · go_simp <;> with_reducible rfl
      simp only [Act.put, List.setIfInBounds_toArray, List.set_cons_succ, List.set_cons_zero]
      refine flow_val ?_ rfl (by kernel_rfl) (by rfl) (fun W hW => ?_) ?_
      rotate_left 1
      · go_simp <;> with_reducible rfl
      simp only [Act.put, List.setIfInBounds_toArray, List.set_cons_succ, List.set_cons_zero]
      refine flow_val ?_ rfl (by kernel_rfl) (by rfl) (fun W hW => ?_) ?_
      rotate_left 1
      · go_simp <;> with_reducible rfl
      simp only [Act.put, List.setIfInBounds_toArray, List.set_cons_succ, List.set_cons_zero]
      refine flow_val ?_ rfl (by kernel_rfl) (by rfl) (fun W hW => ?_) ?_
      rotate_left 1
      · go_simp <;> with_reducible rfl
      simp only [Act.put, List.setIfInBounds_toArray, List.set_cons_succ, List.set_cons_zero]
      refine flow_val ?_ rfl (by kernel_rfl) (by rfl) (fun W hW => ?_) ?_
      rotate_left 1
      · go_simp <;> with_reducible rfl
      simp only [Act.put, List.setIfInBounds_toArray, List.set_cons_succ, List.set_cons_zero]
      refine flow_val ?_ rfl (by kernel_rfl) (by rfl) (fun W hW => ?_) ?_
      rotate_left 1
      · go_simp <;> with_reducible rfl
      simp only [Act.put, List.setIfInBounds_toArray, List.set_cons_succ, List.set_cons_zero]
      refine flow_val ?_ rfl (by kernel_rfl) (by rfl) (fun W hW => ?_) ?_
      rotate_left 1
      · go_simp <;> with_reducible rfl
      simp only [Act.put, List.setIfInBounds_toArray, List.set_cons_succ, List.set_cons_zero]
      refine flow_val ?_ rfl (by kernel_rfl) (by rfl) (fun W hW => ?_) ?_
      rotate_left 1
      · go_simp <;> with_reducible rfl
      simp only [Act.put, List.setIfInBounds_toArray, List.set_cons_succ, List.set_cons_zero]
      refine flow_val ?_ rfl (by kernel_rfl) (by rfl) (fun W hW => ?_) ?_
      rotate_left 1
      · go_simp <;> with_reducible rfl
      simp only [Act.put, List.setIfInBounds_toArray, List.set_cons_succ, List.set_cons_zero]
      refine flow_val ?_ rfl (by kernel_rfl) (by rfl) (fun W hW => ?_) ?_
      rotate_left 1
      · go_simp <;> with_reducible rfl
      simp only [Act.put, List.setIfInBounds_toArray, List.set_cons_succ, List.set_cons_zero]
      refine flow_val ?_ rfl (by kernel_rfl) (by rfl) (fun W hW => ?_) ?_
      rotate_left 1
      · go_simp <;> with_reducible rfl
      simp only [Act.put, List.setIfInBounds_toArray, List.set_cons_succ, List.set_cons_zero]
      refine flow_val ?_ rfl (by kernel_rfl) (by rfl) (fun W hW => ?_) ?_
      rotate_left 1
      · go_simp <;> with_reducible rfl
      simp only [Act.put, List.setIfInBounds_toArray, List.set_cons_succ, List.set_cons_zero]
      refine flow_val ?_ rfl (by kernel_rfl) (by rfl) (fun W hW => ?_) ?_
      rotate_left 1
      · go_simp <;> with_reducible rfl
      simp only [Act.put, List.setIfInBounds_toArray, List.set_cons_succ, List.set_cons_zero]
      refine flow_val ?_ rfl (by kernel_rfl) (by rfl) (fun W hW => ?_) ?_
      rotate_left 1
      · go_simp <;> with_reducible rfl
      simp only [Act.put, List.setIfInBounds_toArray, List.set_cons_succ, List.set_cons_zero]
      refine flow_val ?_ rfl (by kernel_rfl) (by rfl) (fun W hW => ?_) ?_
      rotate_left 1
      · go_simp <;> with_reducible rfl
      simp only [Act.put, List.setIfInBounds_toArray, List.set_cons_succ, List.set_cons_zero]
      refine flow_val ?_ rfl (by kernel_rfl) (by rfl) (fun W hW => ?_) ?_
      rotate_left 1
      · go_simp <;> with_reducible rfl
      simp only [Act.put, List.setIfInBounds_toArray, List.set_cons_succ, List.set_cons_zero]
      refine flow_val ?_ rfl (by kernel_rfl) (by rfl) (fun W hW => ?_) ?_
      rotate_left 1
      · go_simp <;> with_reducible rfl
      simp only [Act.put, List.setIfInBounds_toArray, List.set_cons_succ, List.set_cons_zero]
      refine flow_val ?_ rfl (by kernel_rfl) (by rfl) (fun W hW => ?_) ?_
      rotate_left 1
      · go_simp <;> with_reducible rfl
      simp only [Act.put, List.setIfInBounds_toArray, List.set_cons_succ, List.set_cons_zero]
      refine flow_val ?_ rfl (by kernel_rfl) (by rfl) (fun W hW => ?_) ?_
      rotate_left 1
      · go_simp <;> with_reducible rfl
      simp only [Act.put, List.setIfInBounds_toArray, List.set_cons_succ, List.set_cons_zero]
      refine flow_quiet (.int .i64 Nc) rfl (by kernel_rfl) (by rfl) (fun W hW => ⟨_, _, by go_simp, ((by subst hW; exact HMKK.out ▸ ((HB.out.below (Below.refl _ wr).drew).ts false).mark : Calls Try.prog 26 #[.pointer (some ⟨pe false, 0, none⟩)] W fun e W' => e = .returned (.int .i64 Nc) ∧ W = W'))⟩) ?_
      simp only [Act.put, List.setIfInBounds_toArray, List.set_cons_succ, List.set_cons_zero]
      refine flow_val ?_ rfl (by kernel_rfl) (by rfl) (fun W hW => ?_) ?_
      rotate_left 1
      · go_simp <;> with_reducible rfl
      simp only [Act.put, List.setIfInBounds_toArray, List.set_cons_succ, List.set_cons_zero]
      refine flow_val ?_ rfl (by kernel_rfl) (by rfl) (fun W hW => ?_) ?_
      rotate_left 1
      · go_simp <;> with_reducible rfl
      simp only [Act.put, List.setIfInBounds_toArray, List.set_cons_succ, List.set_cons_zero]
      refine flow_val ?_ rfl (by kernel_rfl) (by rfl) (fun W hW => ?_) ?_
      rotate_left 1
      · go_simp <;> with_reducible rfl
      simp only [Act.put, List.setIfInBounds_toArray, List.set_cons_succ, List.set_cons_zero]
      refine flow_val ?_ rfl (by kernel_rfl) (by rfl) (fun W hW => ?_) ?_
      rotate_left 1
      · go_simp <;> with_reducible rfl
      simp only [Act.put, List.setIfInBounds_toArray, List.set_cons_succ, List.set_cons_zero]
      refine flow_val ?_ rfl (by kernel_rfl) (by rfl) (fun W hW => ?_) ?_
      rotate_left 1
      · go_simp <;> with_reducible rfl
      simp only [Act.put, List.setIfInBounds_toArray, List.set_cons_succ, List.set_cons_zero]
      refine flow_val ?_ rfl (by kernel_rfl) (by rfl) (fun W hW => ?_) ?_
      rotate_left 1
      · go_simp <;> with_reducible rfl
      simp only [Act.put, List.setIfInBounds_toArray, List.set_cons_succ, List.set_cons_zero]
      refine flow_val ?_ rfl (by kernel_rfl) (by rfl) (fun W hW => ?_) ?_
      rotate_left 1
      · go_simp <;> with_reducible rfl
      simp only [Act.put, List.setIfInBounds_toArray, List.set_cons_succ, List.set_cons_zero]
      refine flow_val ?_ rfl (by kernel_rfl) (by rfl) (fun W hW => ?_) ?_
      rotate_left 1
      · go_simp <;> with_reducible rfl
      simp only [Act.put, List.setIfInBounds_toArray, List.set_cons_succ, List.set_cons_zero]
      refine flow_val ?_ rfl (by kernel_rfl) (by rfl) (fun W hW => ?_) ?_
      rotate_left 1
      · go_simp <;> with_reducible rfl
      simp only [Act.put, List.setIfInBounds_toArray, List.set_cons_succ, List.set_cons_zero]
      refine flow_done ?_
      rintro W hW
      subst hW
      have HBD := Lib.hid (HB.out.below (Below.refl _ wr).drew)
      have HWD : Hid (Below W.heap.size W wr.drew) := Lib.hid HBW.out.drew
      obtain ⟨W5, hW5⟩ : ∃ W5, wr.drew = W5 := ⟨_, rfl⟩
      have hB5 : W5.heap[y]? = wr.heap[y]? := by rw [← hW5]; rfl
      have HB5 := Lib.hid (hB5.trans hB0.out)
      have HS5 : Hid (W5.heap.size = wr.heap.size ∧ ∀ g : Nat, W5.heap[g]? = wr.heap[g]?) := Lib.hid (by rw [← hW5]; exact ⟨rfl, fun _ => rfl⟩)
      rw [hW5] at HBD HWD
      rw [hW5]
      clear hW5 hB5 hB0 hle p1 p2 p3
      go_wp2_with fail
      go_loopw [4] (fun iv wx => ∃ i : Nat, i ≤ Nc ∧ iv = .int .i64 i ∧ Below W5.heap.size W5 wx) (fun iv _ => Nc - (intOf iv).toNat)
      case atStart => exact ⟨0, Nat.zero_le _, rfl, Below.refl _ _⟩
      case round =>
        obtain ⟨i, hi, rfl, hbx⟩ := hrel
        have hyx := (hbx.block y (lt_of_block HB5.out)).trans HB5.out
        have HYX := Lib.hid hyx
        have HBX := Lib.hid hbx
        have z1 : wr.cell? ⟨y, 4, none⟩ = some (.slice Ac Nc cc) := cell_at hyx 4
        have z2 : wr.cell? ⟨y, 3, none⟩ = some (.slice As Ns cs) := cell_at hyx 3
        clear hyx hbx
        by_cases hlt : i < Nc
        · obtain ⟨gc, oc, rfl, hgc, hcc⟩ := HRC.out.2 (by have := HNC.out; omega)
          obtain ⟨gs, os, rfl, hgs, hcs⟩ := HRS.out.2 (by have := HNS.out; omega)
          have hi1 : i < (P.came false).length := by have := HNC.out; omega
          have hi2 : i < (P.sent true).length := by have := HNS.out; omega
          obtain ⟨S, hS⟩ : ∃ S, strOf (P.came false)[i] = S := ⟨_, rfl⟩
          have e1 := hcc i (.string S) (by simp [hi1, strY, hS])
          have e2 := hcs i (.string S) (by simp [hi2, strY, HSM.out i hi1 hi2, hS])
          have hgc5 : gc < W5.heap.size := by rw [HS5.out.1]; exact hgc
          have hgs5 : gs < W5.heap.size := by rw [HS5.out.1]; exact hgs
          have k1 : wr.cell? ⟨gc, oc + i, none⟩ = some (.string S) := (HBX.out.cell (p := ⟨gc, oc + i, none⟩) hgc5).trans (by rw [← e1]; simp only [World.cell?, HS5.out.2])
          have k2 : wr.cell? ⟨gs, os + i, none⟩ = some (.string S) := (HBX.out.cell (p := ⟨gs, os + i, none⟩) hgs5).trans (by rw [← e2]; simp only [World.cell?, HS5.out.2])
          have his : i < Ns := by omega
          clear hcc hcs e1 e2 hS
          go_wp2_with fail
          refine wp_region_flow (fun W => W = wr.drew) [0, 1, 2, 3, 4, 5, 6, 7, 8, 9, 10, 11, 12, 13, 14, 15, 16, 17, 18, 19] (by kernel_rfl) (by kernel_rfl) (by kernel_rfl) (rfl) ?_
          refine flow_val ?_ rfl (by kernel_rfl) (by rfl) (fun W hW => ?_) ?_
          rotate_left 1
          · go_simp <;> with_reducible rfl
          simp only [Act.put, List.setIfInBounds_toArray, List.set_cons_succ, List.set_cons_zero]
          refine flow_val ?_ rfl (by kernel_rfl) (by rfl) (fun W hW => ?_) ?_
          rotate_left 1
          · go_simp <;> with_reducible rfl
          simp only [Act.put, List.setIfInBounds_toArray, List.set_cons_succ, List.set_cons_zero]
          refine flow_val ?_ rfl (by kernel_rfl) (by rfl) (fun W hW => ?_) ?_
          rotate_left 1
          · go_simp <;> with_reducible rfl
          simp only [Act.put, List.setIfInBounds_toArray, List.set_cons_succ, List.set_cons_zero]
          refine flow_val ?_ rfl (by kernel_rfl) (by rfl) (fun W hW => ?_) ?_
          rotate_left 1
          · go_simp <;> with_reducible rfl
          simp only [Act.put, List.setIfInBounds_toArray, List.set_cons_succ, List.set_cons_zero]
          refine flow_val ?_ rfl (by kernel_rfl) (by rfl) (fun W hW => ?_) ?_
          rotate_left 1
          · go_simp <;> with_reducible rfl
          simp only [Act.put, List.setIfInBounds_toArray, List.set_cons_succ, List.set_cons_zero]
          refine flow_val ?_ rfl (by kernel_rfl) (by rfl) (fun W hW => ?_) ?_
          rotate_left 1
          · go_simp <;> with_reducible rfl
          simp only [Act.put, List.setIfInBounds_toArray, List.set_cons_succ, List.set_cons_zero]
          refine flow_val ?_ rfl (by kernel_rfl) (by rfl) (fun W hW => ?_) ?_
          rotate_left 1
          · go_simp <;> with_reducible rfl
          simp only [Act.put, List.setIfInBounds_toArray, List.set_cons_succ, List.set_cons_zero]
          refine flow_val ?_ rfl (by kernel_rfl) (by rfl) (fun W hW => ?_) ?_
          rotate_left 1
          · go_simp <;> with_reducible rfl
          simp only [Act.put, List.setIfInBounds_toArray, List.set_cons_succ, List.set_cons_zero]
          refine flow_val ?_ rfl (by kernel_rfl) (by rfl) (fun W hW => ?_) ?_
          rotate_left 1
          · go_simp <;> with_reducible rfl
          simp only [Act.put, List.setIfInBounds_toArray, List.set_cons_succ, List.set_cons_zero]
          refine flow_val ?_ rfl (by kernel_rfl) (by rfl) (fun W hW => ?_) ?_
          rotate_left 1
          · go_simp <;> with_reducible rfl
          simp only [Act.put, List.setIfInBounds_toArray, List.set_cons_succ, List.set_cons_zero]
          refine flow_val ?_ rfl (by kernel_rfl) (by rfl) (fun W hW => ?_) ?_
          rotate_left 1
          · go_simp <;> with_reducible rfl
          simp only [Act.put, List.setIfInBounds_toArray, List.set_cons_succ, List.set_cons_zero]
          refine flow_val ?_ rfl (by kernel_rfl) (by rfl) (fun W hW => ?_) ?_
          rotate_left 1
          · go_simp <;> with_reducible rfl
          simp only [Act.put, List.setIfInBounds_toArray, List.set_cons_succ, List.set_cons_zero]
          refine flow_val ?_ rfl (by kernel_rfl) (by rfl) (fun W hW => ?_) ?_
          rotate_left 1
          · go_simp <;> with_reducible rfl
          simp only [Act.put, List.setIfInBounds_toArray, List.set_cons_succ, List.set_cons_zero]
          refine flow_val ?_ rfl (by kernel_rfl) (by rfl) (fun W hW => ?_) ?_
          rotate_left 1
          · go_simp <;> with_reducible rfl
          simp only [Act.put, List.setIfInBounds_toArray, List.set_cons_succ, List.set_cons_zero]
          refine flow_val ?_ rfl (by kernel_rfl) (by rfl) (fun W hW => ?_) ?_
          rotate_left 1
          · go_simp <;> with_reducible rfl
          simp only [Act.put, List.setIfInBounds_toArray, List.set_cons_succ, List.set_cons_zero]
          refine flow_val ?_ rfl (by kernel_rfl) (by rfl) (fun W hW => ?_) ?_
          rotate_left 1
          · go_simp <;> with_reducible rfl
          simp only [Act.put, List.setIfInBounds_toArray, List.set_cons_succ, List.set_cons_zero]
          refine flow_val ?_ rfl (by kernel_rfl) (by rfl) (fun W hW => ?_) ?_
          rotate_left 1
          · go_simp <;> with_reducible rfl
          simp only [Act.put, List.setIfInBounds_toArray, List.set_cons_succ, List.set_cons_zero]
          refine flow_val ?_ rfl (by kernel_rfl) (by rfl) (fun W hW => ?_) ?_
          rotate_left 1
          · go_simp <;> with_reducible rfl
          simp only [Act.put, List.setIfInBounds_toArray, List.set_cons_succ, List.set_cons_zero]
          refine flow_val ?_ rfl (by kernel_rfl) (by rfl) (fun W hW => ?_) ?_
          rotate_left 1
          · go_simp <;> with_reducible rfl
          simp only [Act.put, List.setIfInBounds_toArray, List.set_cons_succ, List.set_cons_zero]
          refine flow_val ?_ rfl (by kernel_rfl) (by rfl) (fun W hW => ?_) ?_
          rotate_left 1
          · go_simp <;> with_reducible rfl
          simp only [Act.put, List.setIfInBounds_toArray, List.set_cons_succ, List.set_cons_zero]
          refine flow_done ?_
          rintro W hW
          subst hW
          clear k1 k2 z1 z2
          go_wp2_with fail
          go_roundw
          case rel => exact ⟨i + 1, hlt, by go_num, HBX.out.drew⟩
          case measure => simp [intOf]; omega
        · clear z2
          go_wp2_with fail
          go_roundw
          case rel => exact ⟨1, by omega, by go_num, HWD.out.trans (HBX.out.mono HWD.out.size)⟩
          case measure => simp [intOf]
    | 1, _ =>
      rw [show ((1 : Nat) : Int) = 1 from rfl]
      obtain ⟨hmk, hcm⟩ : (P.e true).mark = ((P.came true).length : Int) ∧ ∃ r, P.sent false = P.came true ++ r := ⟨HR.out.mark true, HR.out.came true⟩
      obtain ⟨ex, hex⟩ := hcm
      obtain ⟨Ac, cc, hvc, kc1, kc2, hrc, _⟩ := own_slice (HB.out.rows.1 ⟨9, 1, vc true, (P.came true).length, (P.came true).map strY⟩ (by simp [rowsY]))
      obtain ⟨As, cs, hvs, ks1, ks2, hrs, _⟩ := own_slice (HB.out.rows.1 ⟨9, 1, vs false, (P.sent false).length, (P.sent false).map strY⟩ (by simp [rowsY]))
      simp only at hvc hvs hrc hrs
      have hlen : (P.came true).length ≤ (P.sent false).length := by rw [hex]; simp
      have hsame : ∀ i (h1 : i < (P.came true).length) (h2 : i < (P.sent false).length), (P.sent false)[i] = (P.came true)[i] := fun i h1 h2 => by
        simp only [hex]
        rw [List.getElem_append_left h1]
      have hb0 := HB.out.b
      rw [hvc, hvs] at hb0
      obtain ⟨Nc, hNc⟩ : ∃ n, (P.came true).length = n := ⟨_, rfl⟩
      obtain ⟨Ns, hNs⟩ : ∃ n, (P.sent false).length = n := ⟨_, rfl⟩
      have HNC := Lib.hid hNc
      have HNS := Lib.hid hNs
      have HSM := Lib.hid hsame
      have HRC := Lib.hid hrc
      have HRS := Lib.hid hrs
      have HMKK : Hid ((P.e true).mark = (Nc : Int)) := Lib.hid (by rw [hmk, hNc])
      rw [hNc, hNs] at hb0 hlen
      rw [hNc] at kc1
      rw [hNs] at ks1
      have hw1 : IntKind.i64.wrap (0 : Int) = 0 := IntWalk.i64_in _ (by omega)
      have hB0 := Lib.hid hb0
      have p1 : wr.cell? ⟨y, 5, none⟩ = some (.slice Ac Nc cc) := cell_at hb0 5
      have p2 : wr.cell? ⟨y, 2, none⟩ = some (.slice As Ns cs) := cell_at hb0 2
      have p3 : wr.cell? ⟨y, 1, none⟩ = some (.pointer (some ⟨pe true, 0, none⟩)) := cell_at hb0 1
      have hle : decide (Ns < Nc) = false := by simp; omega
      unfold maxLen at kc2 ks2
      clear hex hmk hsame hrc hrs hvc hvs hNc hNs hb0
      go_wp2_with fail
      refine wp_region_flow (fun W => W = wr.drew) [0, 1, 2, 3, 4, 5, 6, 7, 8, 9, 10, 11, 12, 13, 14, 15, 16, 17, 18, 19, 20, 21, 22, 23, 24, 25, 26, 27, 28, 29, 30, 31, 32] (by kernel_rfl) (by kernel_rfl) (by kernel_rfl) (rfl) ?_
      refine flow_val ?_ rfl (by kernel_rfl) (by rfl) (fun W hW => ?_) ?_
      rotate_left 1
      · go_simp <;> with_reducible rfl
      simp only [Act.put, List.setIfInBounds_toArray, List.set_cons_succ, List.set_cons_zero]
      refine flow_val ?_ rfl (by kernel_rfl) (by rfl) (fun W hW => ?_) ?_
      rotate_left 1
      · go_simp <;> with_reducible rfl
      simp only [Act.put, List.setIfInBounds_toArray, List.set_cons_succ, List.set_cons_zero]
      refine flow_val ?_ rfl (by kernel_rfl) (by rfl) (fun W hW => ?_) ?_
      rotate_left 1
      · go_simp <;> with_reducible rfl
      simp only [Act.put, List.setIfInBounds_toArray, List.set_cons_succ, List.set_cons_zero]
      refine flow_val ?_ rfl (by kernel_rfl) (by rfl) (fun W hW => ?_) ?_
      rotate_left 1
      · go_simp <;> with_reducible rfl
      simp only [Act.put, List.setIfInBounds_toArray, List.set_cons_succ, List.set_cons_zero]
      refine flow_val ?_ rfl (by kernel_rfl) (by rfl) (fun W hW => ?_) ?_
      rotate_left 1
      · go_simp <;> with_reducible rfl
      simp only [Act.put, List.setIfInBounds_toArray, List.set_cons_succ, List.set_cons_zero]
      refine flow_val ?_ rfl (by kernel_rfl) (by rfl) (fun W hW => ?_) ?_
      rotate_left 1
      · go_simp <;> with_reducible rfl
      simp only [Act.put, List.setIfInBounds_toArray, List.set_cons_succ, List.set_cons_zero]
      refine flow_val ?_ rfl (by kernel_rfl) (by rfl) (fun W hW => ?_) ?_
      rotate_left 1
      · go_simp <;> with_reducible rfl
      simp only [Act.put, List.setIfInBounds_toArray, List.set_cons_succ, List.set_cons_zero]
      refine flow_val ?_ rfl (by kernel_rfl) (by rfl) (fun W hW => ?_) ?_
      rotate_left 1
      · go_simp <;> with_reducible rfl
      simp only [Act.put, List.setIfInBounds_toArray, List.set_cons_succ, List.set_cons_zero]
      refine flow_val ?_ rfl (by kernel_rfl) (by rfl) (fun W hW => ?_) ?_
      rotate_left 1
      · go_simp <;> with_reducible rfl
      simp only [Act.put, List.setIfInBounds_toArray, List.set_cons_succ, List.set_cons_zero]
      refine flow_val ?_ rfl (by kernel_rfl) (by rfl) (fun W hW => ?_) ?_
      rotate_left 1
      · go_simp <;> with_reducible rfl
      simp only [Act.put, List.setIfInBounds_toArray, List.set_cons_succ, List.set_cons_zero]
      refine flow_val ?_ rfl (by kernel_rfl) (by rfl) (fun W hW => ?_) ?_
      rotate_left 1
      · go_simp <;> with_reducible rfl
      simp only [Act.put, List.setIfInBounds_toArray, List.set_cons_succ, List.set_cons_zero]
      refine flow_val ?_ rfl (by kernel_rfl) (by rfl) (fun W hW => ?_) ?_
      rotate_left 1
      · go_simp <;> with_reducible rfl
      simp only [Act.put, List.setIfInBounds_toArray, List.set_cons_succ, List.set_cons_zero]
      refine flow_val ?_ rfl (by kernel_rfl) (by rfl) (fun W hW => ?_) ?_
      rotate_left 1
      · go_simp <;> with_reducible rfl
      simp only [Act.put, List.setIfInBounds_toArray, List.set_cons_succ, List.set_cons_zero]
      refine flow_val ?_ rfl (by kernel_rfl) (by rfl) (fun W hW => ?_) ?_
      rotate_left 1
      · go_simp <;> with_reducible rfl
      simp only [Act.put, List.setIfInBounds_toArray, List.set_cons_succ, List.set_cons_zero]
      refine flow_val ?_ rfl (by kernel_rfl) (by rfl) (fun W hW => ?_) ?_
      rotate_left 1
      · go_simp <;> with_reducible rfl
      simp only [Act.put, List.setIfInBounds_toArray, List.set_cons_succ, List.set_cons_zero]
      refine flow_val ?_ rfl (by kernel_rfl) (by rfl) (fun W hW => ?_) ?_
      rotate_left 1
      · go_simp <;> with_reducible rfl
      simp only [Act.put, List.setIfInBounds_toArray, List.set_cons_succ, List.set_cons_zero]
      refine flow_val ?_ rfl (by kernel_rfl) (by rfl) (fun W hW => ?_) ?_
      rotate_left 1
      · go_simp <;> with_reducible rfl
      simp only [Act.put, List.setIfInBounds_toArray, List.set_cons_succ, List.set_cons_zero]
      refine flow_val ?_ rfl (by kernel_rfl) (by rfl) (fun W hW => ?_) ?_
      rotate_left 1
      · go_simp <;> with_reducible rfl
      simp only [Act.put, List.setIfInBounds_toArray, List.set_cons_succ, List.set_cons_zero]
      refine flow_val ?_ rfl (by kernel_rfl) (by rfl) (fun W hW => ?_) ?_
      rotate_left 1
      · go_simp <;> with_reducible rfl
      simp only [Act.put, List.setIfInBounds_toArray, List.set_cons_succ, List.set_cons_zero]
      refine flow_val ?_ rfl (by kernel_rfl) (by rfl) (fun W hW => ?_) ?_
      rotate_left 1
      · go_simp <;> with_reducible rfl
      simp only [Act.put, List.setIfInBounds_toArray, List.set_cons_succ, List.set_cons_zero]
      refine flow_val ?_ rfl (by kernel_rfl) (by rfl) (fun W hW => ?_) ?_
      rotate_left 1
      · go_simp <;> with_reducible rfl
      simp only [Act.put, List.setIfInBounds_toArray, List.set_cons_succ, List.set_cons_zero]
      refine flow_val ?_ rfl (by kernel_rfl) (by rfl) (fun W hW => ?_) ?_
      rotate_left 1
      · go_simp <;> with_reducible rfl
      simp only [Act.put, List.setIfInBounds_toArray, List.set_cons_succ, List.set_cons_zero]
      refine flow_val ?_ rfl (by kernel_rfl) (by rfl) (fun W hW => ?_) ?_
      rotate_left 1
      · go_simp <;> with_reducible rfl
      simp only [Act.put, List.setIfInBounds_toArray, List.set_cons_succ, List.set_cons_zero]
      refine flow_quiet (.int .i64 Nc) rfl (by kernel_rfl) (by rfl) (fun W hW => ⟨_, _, by go_simp, ((by subst hW; exact HMKK.out ▸ ((HB.out.below (Below.refl _ wr).drew).ts true).mark : Calls Try.prog 26 #[.pointer (some ⟨pe true, 0, none⟩)] W fun e W' => e = .returned (.int .i64 Nc) ∧ W = W'))⟩) ?_
      simp only [Act.put, List.setIfInBounds_toArray, List.set_cons_succ, List.set_cons_zero]
      refine flow_val ?_ rfl (by kernel_rfl) (by rfl) (fun W hW => ?_) ?_
      rotate_left 1
      · go_simp <;> with_reducible rfl
      simp only [Act.put, List.setIfInBounds_toArray, List.set_cons_succ, List.set_cons_zero]
      refine flow_val ?_ rfl (by kernel_rfl) (by rfl) (fun W hW => ?_) ?_
      rotate_left 1
      · go_simp <;> with_reducible rfl
      simp only [Act.put, List.setIfInBounds_toArray, List.set_cons_succ, List.set_cons_zero]
      refine flow_val ?_ rfl (by kernel_rfl) (by rfl) (fun W hW => ?_) ?_
      rotate_left 1
      · go_simp <;> with_reducible rfl
      simp only [Act.put, List.setIfInBounds_toArray, List.set_cons_succ, List.set_cons_zero]
      refine flow_val ?_ rfl (by kernel_rfl) (by rfl) (fun W hW => ?_) ?_
      rotate_left 1
      · go_simp <;> with_reducible rfl
      simp only [Act.put, List.setIfInBounds_toArray, List.set_cons_succ, List.set_cons_zero]
      refine flow_val ?_ rfl (by kernel_rfl) (by rfl) (fun W hW => ?_) ?_
      rotate_left 1
      · go_simp <;> with_reducible rfl
      simp only [Act.put, List.setIfInBounds_toArray, List.set_cons_succ, List.set_cons_zero]
      refine flow_val ?_ rfl (by kernel_rfl) (by rfl) (fun W hW => ?_) ?_
      rotate_left 1
      · go_simp <;> with_reducible rfl
      simp only [Act.put, List.setIfInBounds_toArray, List.set_cons_succ, List.set_cons_zero]
      refine flow_val ?_ rfl (by kernel_rfl) (by rfl) (fun W hW => ?_) ?_
      rotate_left 1
      · go_simp <;> with_reducible rfl
      simp only [Act.put, List.setIfInBounds_toArray, List.set_cons_succ, List.set_cons_zero]
      refine flow_val ?_ rfl (by kernel_rfl) (by rfl) (fun W hW => ?_) ?_
      rotate_left 1
      · go_simp <;> with_reducible rfl
      simp only [Act.put, List.setIfInBounds_toArray, List.set_cons_succ, List.set_cons_zero]
      refine flow_val ?_ rfl (by kernel_rfl) (by rfl) (fun W hW => ?_) ?_
      rotate_left 1
      · go_simp <;> with_reducible rfl
      simp only [Act.put, List.setIfInBounds_toArray, List.set_cons_succ, List.set_cons_zero]
      refine flow_done ?_
      rintro W hW
      subst hW
      have HBD := Lib.hid (HB.out.below (Below.refl _ wr).drew)
      have HWD : Hid (Below W.heap.size W wr.drew) := Lib.hid HBW.out.drew
      obtain ⟨W5, hW5⟩ : ∃ W5, wr.drew = W5 := ⟨_, rfl⟩
      have hB5 : W5.heap[y]? = wr.heap[y]? := by rw [← hW5]; rfl
      have HB5 := Lib.hid (hB5.trans hB0.out)
      have HS5 : Hid (W5.heap.size = wr.heap.size ∧ ∀ g : Nat, W5.heap[g]? = wr.heap[g]?) := Lib.hid (by rw [← hW5]; exact ⟨rfl, fun _ => rfl⟩)
      rw [hW5] at HBD HWD
      rw [hW5]
      clear hW5 hB5 hB0 hle p1 p2 p3
      go_wp2_with fail
      go_loopw [4] (fun iv wx => ∃ i : Nat, i ≤ Nc ∧ iv = .int .i64 i ∧ Below W5.heap.size W5 wx) (fun iv _ => Nc - (intOf iv).toNat)
      case atStart => exact ⟨0, Nat.zero_le _, rfl, Below.refl _ _⟩
      case round =>
        obtain ⟨i, hi, rfl, hbx⟩ := hrel
        have hyx := (hbx.block y (lt_of_block HB5.out)).trans HB5.out
        have HYX := Lib.hid hyx
        have HBX := Lib.hid hbx
        have z1 : wr.cell? ⟨y, 5, none⟩ = some (.slice Ac Nc cc) := cell_at hyx 5
        have z2 : wr.cell? ⟨y, 2, none⟩ = some (.slice As Ns cs) := cell_at hyx 2
        clear hyx hbx
        by_cases hlt : i < Nc
        · obtain ⟨gc, oc, rfl, hgc, hcc⟩ := HRC.out.2 (by have := HNC.out; omega)
          obtain ⟨gs, os, rfl, hgs, hcs⟩ := HRS.out.2 (by have := HNS.out; omega)
          have hi1 : i < (P.came true).length := by have := HNC.out; omega
          have hi2 : i < (P.sent false).length := by have := HNS.out; omega
          obtain ⟨S, hS⟩ : ∃ S, strOf (P.came true)[i] = S := ⟨_, rfl⟩
          have e1 := hcc i (.string S) (by simp [hi1, strY, hS])
          have e2 := hcs i (.string S) (by simp [hi2, strY, HSM.out i hi1 hi2, hS])
          have hgc5 : gc < W5.heap.size := by rw [HS5.out.1]; exact hgc
          have hgs5 : gs < W5.heap.size := by rw [HS5.out.1]; exact hgs
          have k1 : wr.cell? ⟨gc, oc + i, none⟩ = some (.string S) := (HBX.out.cell (p := ⟨gc, oc + i, none⟩) hgc5).trans (by rw [← e1]; simp only [World.cell?, HS5.out.2])
          have k2 : wr.cell? ⟨gs, os + i, none⟩ = some (.string S) := (HBX.out.cell (p := ⟨gs, os + i, none⟩) hgs5).trans (by rw [← e2]; simp only [World.cell?, HS5.out.2])
          have his : i < Ns := by omega
          clear hcc hcs e1 e2 hS
          go_wp2_with fail
          refine wp_region_flow (fun W => W = wr.drew) [0, 1, 2, 3, 4, 5, 6, 7, 8, 9, 10, 11, 12, 13, 14, 15, 16, 17, 18, 19] (by kernel_rfl) (by kernel_rfl) (by kernel_rfl) (rfl) ?_
          refine flow_val ?_ rfl (by kernel_rfl) (by rfl) (fun W hW => ?_) ?_
          rotate_left 1
          · go_simp <;> with_reducible rfl
          simp only [Act.put, List.setIfInBounds_toArray, List.set_cons_succ, List.set_cons_zero]
          refine flow_val ?_ rfl (by kernel_rfl) (by rfl) (fun W hW => ?_) ?_
          rotate_left 1
          · go_simp <;> with_reducible rfl
          simp only [Act.put, List.setIfInBounds_toArray, List.set_cons_succ, List.set_cons_zero]
          refine flow_val ?_ rfl (by kernel_rfl) (by rfl) (fun W hW => ?_) ?_
          rotate_left 1
          · go_simp <;> with_reducible rfl
          simp only [Act.put, List.setIfInBounds_toArray, List.set_cons_succ, List.set_cons_zero]
          refine flow_val ?_ rfl (by kernel_rfl) (by rfl) (fun W hW => ?_) ?_
          rotate_left 1
          · go_simp <;> with_reducible rfl
          simp only [Act.put, List.setIfInBounds_toArray, List.set_cons_succ, List.set_cons_zero]
          refine flow_val ?_ rfl (by kernel_rfl) (by rfl) (fun W hW => ?_) ?_
          rotate_left 1
          · go_simp <;> with_reducible rfl
          simp only [Act.put, List.setIfInBounds_toArray, List.set_cons_succ, List.set_cons_zero]
          refine flow_val ?_ rfl (by kernel_rfl) (by rfl) (fun W hW => ?_) ?_
          rotate_left 1
          · go_simp <;> with_reducible rfl
          simp only [Act.put, List.setIfInBounds_toArray, List.set_cons_succ, List.set_cons_zero]
          refine flow_val ?_ rfl (by kernel_rfl) (by rfl) (fun W hW => ?_) ?_
          rotate_left 1
          · go_simp <;> with_reducible rfl
          simp only [Act.put, List.setIfInBounds_toArray, List.set_cons_succ, List.set_cons_zero]
          refine flow_val ?_ rfl (by kernel_rfl) (by rfl) (fun W hW => ?_) ?_
          rotate_left 1
          · go_simp <;> with_reducible rfl
          simp only [Act.put, List.setIfInBounds_toArray, List.set_cons_succ, List.set_cons_zero]
          refine flow_val ?_ rfl (by kernel_rfl) (by rfl) (fun W hW => ?_) ?_
          rotate_left 1
          · go_simp <;> with_reducible rfl
          simp only [Act.put, List.setIfInBounds_toArray, List.set_cons_succ, List.set_cons_zero]
          refine flow_val ?_ rfl (by kernel_rfl) (by rfl) (fun W hW => ?_) ?_
          rotate_left 1
          · go_simp <;> with_reducible rfl
          simp only [Act.put, List.setIfInBounds_toArray, List.set_cons_succ, List.set_cons_zero]
          refine flow_val ?_ rfl (by kernel_rfl) (by rfl) (fun W hW => ?_) ?_
          rotate_left 1
          · go_simp <;> with_reducible rfl
          simp only [Act.put, List.setIfInBounds_toArray, List.set_cons_succ, List.set_cons_zero]
          refine flow_val ?_ rfl (by kernel_rfl) (by rfl) (fun W hW => ?_) ?_
          rotate_left 1
          · go_simp <;> with_reducible rfl
          simp only [Act.put, List.setIfInBounds_toArray, List.set_cons_succ, List.set_cons_zero]
          refine flow_val ?_ rfl (by kernel_rfl) (by rfl) (fun W hW => ?_) ?_
          rotate_left 1
          · go_simp <;> with_reducible rfl
          simp only [Act.put, List.setIfInBounds_toArray, List.set_cons_succ, List.set_cons_zero]
          refine flow_val ?_ rfl (by kernel_rfl) (by rfl) (fun W hW => ?_) ?_
          rotate_left 1
          · go_simp <;> with_reducible rfl
          simp only [Act.put, List.setIfInBounds_toArray, List.set_cons_succ, List.set_cons_zero]
          refine flow_val ?_ rfl (by kernel_rfl) (by rfl) (fun W hW => ?_) ?_
          rotate_left 1
          · go_simp <;> with_reducible rfl
          simp only [Act.put, List.setIfInBounds_toArray, List.set_cons_succ, List.set_cons_zero]
          refine flow_val ?_ rfl (by kernel_rfl) (by rfl) (fun W hW => ?_) ?_
          rotate_left 1
          · go_simp <;> with_reducible rfl
          simp only [Act.put, List.setIfInBounds_toArray, List.set_cons_succ, List.set_cons_zero]
          refine flow_val ?_ rfl (by kernel_rfl) (by rfl) (fun W hW => ?_) ?_
          rotate_left 1
          · go_simp <;> with_reducible rfl
          simp only [Act.put, List.setIfInBounds_toArray, List.set_cons_succ, List.set_cons_zero]
          refine flow_val ?_ rfl (by kernel_rfl) (by rfl) (fun W hW => ?_) ?_
          rotate_left 1
          · go_simp <;> with_reducible rfl
          simp only [Act.put, List.setIfInBounds_toArray, List.set_cons_succ, List.set_cons_zero]
          refine flow_val ?_ rfl (by kernel_rfl) (by rfl) (fun W hW => ?_) ?_
          rotate_left 1
          · go_simp <;> with_reducible rfl
          simp only [Act.put, List.setIfInBounds_toArray, List.set_cons_succ, List.set_cons_zero]
          refine flow_val ?_ rfl (by kernel_rfl) (by rfl) (fun W hW => ?_) ?_
          rotate_left 1
          · go_simp <;> with_reducible rfl
          simp only [Act.put, List.setIfInBounds_toArray, List.set_cons_succ, List.set_cons_zero]
          refine flow_done ?_
          rintro W hW
          subst hW
          clear k1 k2 z1 z2
          go_wp2_with fail
          go_roundw
          case rel => exact ⟨i + 1, hlt, by go_num, HBX.out.drew⟩
          case measure => simp [intOf]; omega
        · clear z2
          go_wp2_with fail
          go_roundw
          case rel => exact ⟨2, by omega, by go_num, HWD.out.trans (HBX.out.mono HWD.out.size)⟩
          case measure => simp [intOf]
    | 2, _ =>
      go_wp2
      go_ret
      exact ⟨rfl, HBW.out⟩
end Go.Proofs.Ytnmbblkfaoihfaa
