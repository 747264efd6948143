/- The reference's Same, of two lists that are equal. -/
import Derived.Test.YtlcnkicmepcppaaXBoth
import Derived.Laws.StructEq
namespace Go.Proofs.Ytlcnkicmepcppaa
open Go.RowKit

theorem neq_item (x y : Operand) (g : ByteArray) (n : Int) (w : World) :
    (eqGuard .neq 40 x y (.agg #[.string g, .int .i64 n]) (.agg #[.string g, .int .i64 n])).run Try.prog w = .ok () w ∧ (binOp .neq 40 (.agg #[.string g, .int .i64 n]) (.agg #[.string g, .int .i64 n])).run Try.prog w = .ok (.bool false) w := by
  refine ⟨run_eqGuard_agg _ _ _ _ _ _ _ (by kernel_rfl), ?_⟩
  rw [run_neq_struct, run_equalIn_struct _ 9999 _ _ _ (by kernel_rfl) (by kernel_rfl)]
  simp only [Program.fieldsOf, Try.underlying40]
  go_simp
set_option maxRecDepth 100000 in
set_option maxHeartbeats 2000000 in
theorem xsame_any (A : Option Addr) (c : Nat) (B : Option Addr) (d : Nat) (l : List It) (w : World) (hr : Rd w 2 A l.length (l.flatMap encI)) (hs : Rd w 2 B l.length (l.flatMap encI)) (hm : l.length ≤ 4611686018427387903) :
    Calls Try.prog 15 #[.slice A l.length c, .slice B l.length d] w fun e W => e = .returned (.bool true) ∧ Below w.heap.size w W := by
  obtain ⟨m, hm2⟩ : ∃ m, l.length = m := ⟨_, rfl⟩
  have HM := Lib.hid hm2
  have HR := Lib.hid hr
  have HS := Lib.hid hs
  rw [hm2] at hm ⊢
  clear hr hs hm2
  go_enter Try.func15, Try.ntmps15
  go_wp2_with fail
  go_loopw [5] (fun iv wr => ∃ k : Nat, k ≤ m ∧ iv = .int .i64 k ∧ Below w.heap.size w wr) (fun iv => fun _ => m - (intOf iv).toNat)
  case atStart => exact ⟨0, Nat.zero_le _, rfl, Below.refl _ _⟩
  case round =>
    obtain ⟨k, hk, rfl, hbw⟩ := hrel
    have HBW := Lib.hid hbw
    clear hbw
    by_cases hlt : k < m
    · have hkl : k < l.length := by have := HM.out; omega
      obtain ⟨g, o, rfl, hg, c0, c1⟩ := rdi_at HR.out hkl
      obtain ⟨g2, o2, rfl, hg2, e0, e1⟩ := rdi_at HS.out hkl
      have HC0 := Lib.hid ((HBW.out.cell (p := ⟨g, o + k * 2, none⟩) hg).trans c0)
      have HC1 := Lib.hid ((HBW.out.cell (p := ⟨g, o + k * 2 + 1, none⟩) hg).trans c1)
      have HE0 := Lib.hid ((HBW.out.cell (p := ⟨g2, o2 + k * 2, none⟩) hg2).trans e0)
      have HE1 := Lib.hid ((HBW.out.cell (p := ⟨g2, o2 + k * 2 + 1, none⟩) hg2).trans e1)
      have HG := Lib.hid (Nat.lt_of_lt_of_le hg HBW.out.size)
      have HG2 := Lib.hid (Nat.lt_of_lt_of_le hg2 HBW.out.size)
      have HNE := Lib.hid (fun W => neq_item (.tmp 20) (.tmp 24) l[k].good l[k].n W)
      obtain ⟨gd, hgd⟩ : ∃ gd, l[k].good = gd := ⟨_, rfl⟩
      obtain ⟨n, hn⟩ : ∃ n, l[k].n = n := ⟨_, rfl⟩
      rw [hgd] at HC0 HE0 HNE
      rw [hn] at HC1 HE1 HNE
      have hkm : (k : Int) < (m : Int) := by omega
      have hkm' : decide ((k : Int) < (m : Int)) = true := by simp; omega
      clear c0 c1 e0 e1 hg hg2 hgd hn
      go_wp2_with fail
      refine wp_region_flow (fun W => Below wr.heap.size wr W) [0, 1, 2, 3, 4, 5, 6, 7, 8] (by kernel_rfl) (by kernel_rfl) (by kernel_rfl) ((Below.refl _ _).drew) ?_
      refine flow_val ?_ rfl (by kernel_rfl) (by rfl) (fun W hW => ?_) ?_
      rotate_left 1
      · go_simp <;> with_reducible rfl
      simp only [Act.put, List.setIfInBounds_toArray, List.set_cons_succ, List.set_cons_zero]
      refine flow_val ?_ rfl (by kernel_rfl) (by rfl) (fun W hW => ?_) ?_
      rotate_left 1
      · go_simp <;> with_reducible rfl
      simp only [Act.put, List.setIfInBounds_toArray, List.set_cons_succ, List.set_cons_zero]
      refine flow_val ?_ rfl (by kernel_rfl) (by rfl) (fun W hW => ?_) ?_
      rotate_left 1
      · go_simp <;> with_reducible rfl
      simp only [Act.put, List.setIfInBounds_toArray, List.set_cons_succ, List.set_cons_zero]
      refine flow_val ?_ rfl (by kernel_rfl) (by rfl) (fun W hW => ?_) ?_
      rotate_left 1
      · have d0 : W.cell? ⟨g, o + k * 2, none⟩ = some (.string gd) := (hW.cell (p := ⟨g, o + k * 2, none⟩) HG.out).trans HC0.out; have d1 : W.cell? ⟨g, o + k * 2 + 1, none⟩ = some (.int .i64 n) := (hW.cell (p := ⟨g, o + k * 2 + 1, none⟩) HG.out).trans HC1.out; go_simp <;> with_reducible rfl
      simp only [Act.put, List.setIfInBounds_toArray, List.set_cons_succ, List.set_cons_zero]
      refine flow_val ?_ rfl (by kernel_rfl) (by rfl) (fun W hW => ?_) ?_
      rotate_left 1
      · go_simp <;> with_reducible rfl
      simp only [Act.put, List.setIfInBounds_toArray, List.set_cons_succ, List.set_cons_zero]
      refine flow_val ?_ rfl (by kernel_rfl) (by rfl) (fun W hW => ?_) ?_
      rotate_left 1
      · go_simp <;> with_reducible rfl
      simp only [Act.put, List.setIfInBounds_toArray, List.set_cons_succ, List.set_cons_zero]
      refine flow_val ?_ rfl (by kernel_rfl) (by rfl) (fun W hW => ?_) ?_
      rotate_left 1
      · go_simp <;> with_reducible rfl
      simp only [Act.put, List.setIfInBounds_toArray, List.set_cons_succ, List.set_cons_zero]
      refine flow_val ?_ rfl (by kernel_rfl) (by rfl) (fun W hW => ?_) ?_
      rotate_left 1
      · have d0 : W.cell? ⟨g2, o2 + k * 2, none⟩ = some (.string gd) := (hW.cell (p := ⟨g2, o2 + k * 2, none⟩) HG2.out).trans HE0.out; have d1 : W.cell? ⟨g2, o2 + k * 2 + 1, none⟩ = some (.int .i64 n) := (hW.cell (p := ⟨g2, o2 + k * 2 + 1, none⟩) HG2.out).trans HE1.out; go_simp <;> with_reducible rfl
      simp only [Act.put, List.setIfInBounds_toArray, List.set_cons_succ, List.set_cons_zero]
      refine flow_val ?_ rfl (by kernel_rfl) (by rfl) (fun W hW => ?_) ?_
      rotate_left 1
      · obtain ⟨q1, q2⟩ := HNE.out W; go_simp <;> with_reducible rfl
      simp only [Act.put, List.setIfInBounds_toArray, List.set_cons_succ, List.set_cons_zero]
      refine flow_done ?_
      intro W hW
      have HB2 := Lib.hid (HBW.out.trans (hW.mono HBW.out.size))
      clear hW
      go_wp2_with fail
      go_roundw
      case rel => exact ⟨k + 1, hlt, by go_num, HB2.out⟩
      case measure => simp [intOf]; omega
    · have ekm : k = m := by omega
      have hkm' : decide ((k : Int) < (m : Int)) = false := by simp; omega
      subst ekm
      go_wp2
      go_ret
      exact ⟨rfl, HBW.out⟩
end Go.Proofs.Ytlcnkicmepcppaa
