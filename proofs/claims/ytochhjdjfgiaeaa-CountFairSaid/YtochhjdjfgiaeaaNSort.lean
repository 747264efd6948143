/- slices.insertionSortCmpFunc on parts. -/
import Derived.Test.YtochhjdjfgiaeaaNCmp
import Derived.BigRegion
namespace Go.Proofs.Ytochhjdjfgiaeaa
open Go.RowKit

/-- Two neighbours, exchanged. -/
def swapL (l : List (Nat × Nat)) (j : Nat) : List (Nat × Nat) := (l.set j (l.getD (j - 1) (0, 0))).set (j - 1) (l.getD j (0, 0))
/-- One, moved down to its place. -/
def insD (a : Nat) : Nat → List (Nat × Nat) → List (Nat × Nat)
  | 0, l => l
  | j + 1, l => if a < j + 1 ∧ (l.getD j (0, 0)).2 < (l.getD (j + 1) (0, 0)).2 then insD a j (swapL l (j + 1)) else l
/-- k of them, moved down. -/
def insN (a : Nat) : Nat → List (Nat × Nat) → List (Nat × Nat)
  | 0, l => l
  | k + 1, l => insD a (a + 1 + k) (insN a k l)
theorem swapL_len (l : List (Nat × Nat)) (j : Nat) : (swapL l j).length = l.length := by simp [swapL]
theorem insD_len (a : Nat) : ∀ (j : Nat) (l : List (Nat × Nat)), (insD a j l).length = l.length
  | 0, l => rfl
  | j + 1, l => by
    unfold insD
    split
    · rw [insD_len a j, swapL_len]
    · rfl
theorem insN_len (a : Nat) : ∀ (k : Nat) (l : List (Nat × Nat)), (insN a k l).length = l.length
  | 0, l => rfl
  | k + 1, l => by unfold insN; rw [insD_len, insN_len a k]
theorem insD_stop (a : Nat) (j : Nat) (l : List (Nat × Nat)) (h : j ≤ a) : insD a j l = l := by
  cases j with
  | zero => rfl
  | succ j => rw [insD, if_neg (by omega)]
theorem own_set_fr {a w : World} {base : Nat} {e : TypeId} {size n c g : Nat} {xs : List Value} (h : w.ownsRow base e size (.slice (some ⟨g, 0, none⟩) n c) n xs) (f : Fr base [e] [] a w) (i : Nat) (u : Value) : Fr base [e] [] a (w.setCell ⟨g, i, none⟩ u) := by
  obtain ⟨hb, cs, hc⟩ := own_block h (k := g) rfl
  exact f.setCell (p := ⟨g, i, none⟩) u hb (.inr ⟨cs, e, (0, 0), hc, by simp⟩)
theorem flatQ_len (l : List (Nat × Nat)) : (l.flatMap encQ).length = l.length * 2 := by
  induction l with
  | nil => rfl
  | cons z l ih => rw [List.flatMap_cons, List.length_append, ih]; simp [encQ]; omega
theorem flatQ_set (l : List (Nat × Nat)) (k : Nat) (p : Nat × Nat) (hk : k < l.length) : ((l.flatMap encQ).set (k * 2) (.int .i64 (p.1 : Int))).set (k * 2 + 1) (.int .u64 (p.2 : Int)) = (l.set k p).flatMap encQ := by
  induction l generalizing k with
  | nil => simp at hk
  | cons z l ih =>
    cases k with
    | zero => simp [encQ]
    | succ k =>
      have := ih k (by simpa using hk)
      simp only [List.set_cons_succ, List.flatMap_cons, ← this]
      have e1 : (k + 1) * 2 = k * 2 + 2 := by omega
      rw [e1]
      simp [encQ]

set_option maxRecDepth 100000 in
set_option maxHeartbeats 4000000 in
theorem ins_any (a b base g c : Nat) (rs : List (Nat × Nat)) (w : World) (hb : b ≤ rs.length) (hm : rs.length ≤ 1048576) (ha : a ≤ 1048576)
    (hown : w.ownsRow base 56 2 (.slice (some ⟨g, 0, none⟩) rs.length c) rs.length (rs.flatMap encQ)) :
    Calls Try.prog 53 #[.slice (some ⟨g, 0, none⟩) rs.length c, .int .i64 (a : Int), .int .i64 (b : Int), .func (.func 31) #[] #[]] w fun e w' => e = .returned (.tuple #[]) ∧ w'.ownsRow base 56 2 (.slice (some ⟨g, 0, none⟩) rs.length c) rs.length ((insN a (b - a - 1) rs).flatMap encQ) ∧ Fr base [56] [] w w' := by
  have HOWN := Lib.hid hown
  have hcm : c ≤ 9223372036854775807 := by
    obtain ⟨_, _, hv, _, hcm, _, _⟩ := own_slice hown
    cases hv
    unfold maxLen at hcm; omega
  clear hown
  go_enter Try.func53, Try.ntmps53
  go_wp2_with fail
  go_loopw [8] (fun i wr => ∃ k : Nat, (k = 0 ∨ a + 1 + k ≤ b) ∧ i = .int .i64 ((a + 1 + k : Nat) : Int) ∧ wr.ownsRow base 56 2 (.slice (some ⟨g, 0, none⟩) rs.length c) rs.length ((insN a k rs).flatMap encQ) ∧ Fr base [56] [] w wr) (fun i _ => b - (intOf i).toNat)
  case atStart => exact ⟨0, .inl rfl, by simp, HOWN.out, Fr.refl w⟩
  case round =>
    obtain ⟨k, hk, rfl, hown, hfr⟩ := hrel
    obtain ⟨i, hi⟩ : ∃ i, a + 1 + k = i := ⟨_, rfl⟩
    rw [hi]
    have hil : i ≤ 2097152 := by omega
    by_cases hlt : i < b
    · have HOW := Lib.hid hown
      have HFR := Lib.hid hfr
      obtain ⟨L0, hL0⟩ : ∃ L0, insN a k rs = L0 := ⟨_, rfl⟩
      rw [hL0] at HOW
      have hl0 : L0.length = rs.length := by rw [← hL0]; exact insN_len a k rs
      have HL0 := Lib.hid hl0
      have HLE := Lib.hid hL0
      have HI := Lib.hid hi
      clear hown hfr hL0 hl0 hi hk
      go_wp2_with fail
      go_loopw [9] (fun jv wr => ∃ (j : Nat) (l : List (Nat × Nat)), j ≤ i ∧ jv = .int .i64 (j : Int) ∧ l.length = rs.length ∧ insD a j l = insD a i L0 ∧ wr.ownsRow base 56 2 (.slice (some ⟨g, 0, none⟩) rs.length c) rs.length (l.flatMap encQ) ∧ Fr base [56] [] w wr) (fun jv _ => (intOf jv).toNat)
      case atStart => exact ⟨i, L0, Nat.le_refl _, rfl, HL0.out, rfl, HOW.out, HFR.out⟩
      case round =>
        obtain ⟨j, l, hj, rfl, hll, hins, hown, hfr⟩ := hrel
        have HLL := Lib.hid hll
        have HINS := Lib.hid hins
        have HOW := Lib.hid hown
        have HFR := Lib.hid hfr
        by_cases hja : a < j
        · have hjl : j < l.length := by rw [hll]; omega
          have hj1 : (a : Int) < (j : Int) := by omega
          have hjr : j < rs.length := by omega
          have hji : (j : Int) < (rs.length : Int) := by omega
          obtain ⟨_, _, hv, _, _, hrd, _⟩ := own_slice hown
          cases hv
          obtain ⟨g', o', e', hg', hcell⟩ := hrd.2 (by omega)
          cases e'
          obtain ⟨m, hm1⟩ : ∃ m, j = m + 1 := ⟨j - 1, by omega⟩
          have hml : m < l.length := by omega
          have hmr : (m : Int) < (rs.length : Int) := by omega
          have hsub : IntKind.i64.wrap (m : Int) = (m : Int) := IntWalk.i64_in _ (by omega)
          have hsub2 : (j : Int) - 1 = (m : Int) := by omega
          obtain ⟨p, hp⟩ : ∃ p, l[j] = p := ⟨_, rfl⟩
          obtain ⟨q, hq⟩ : ∃ q, l[m] = q := ⟨_, rfl⟩
          have hc : ∀ W, Below wr.heap.size wr W → W.cell? ⟨g, j * 2, none⟩ = some (.int .i64 (p.1 : Int)) ∧ W.cell? ⟨g, j * 2 + 1, none⟩ = some (.int .u64 (p.2 : Int)) ∧ W.cell? ⟨g, m * 2, none⟩ = some (.int .i64 (q.1 : Int)) ∧ W.cell? ⟨g, m * 2 + 1, none⟩ = some (.int .u64 (q.2 : Int)) := fun W hW => by
            have e0 := hcell (j * 2 + 0) _ (by rw [flatQ_at l j 0 hjl (by omega)]; rfl)
            have e1 := hcell (j * 2 + 1) _ (by rw [flatQ_at l j 1 hjl (by omega)]; rfl)
            have e2 := hcell (m * 2 + 0) _ (by rw [flatQ_at l m 0 hml (by omega)]; rfl)
            have e3 := hcell (m * 2 + 1) _ (by rw [flatQ_at l m 1 hml (by omega)]; rfl)
            rw [hp] at e0 e1
            rw [hq] at e2 e3
            exact ⟨(hW.cell (p := ⟨g, _, none⟩) hg').trans (by simpa using e0), (hW.cell (p := ⟨g, _, none⟩) hg').trans (by simpa using e1), (hW.cell (p := ⟨g, _, none⟩) hg').trans (by simpa using e2), (hW.cell (p := ⟨g, _, none⟩) hg').trans (by simpa using e3)⟩
          have HC := Lib.hid hc
          have hstep : insD a j l = if q.2 < p.2 then insD a m (swapL l j) else l := by
            have g1 : l.getD m (0, 0) = q := by rw [← hq]; simp [hml]
            have g2 : l.getD j (0, 0) = p := by rw [← hp]; simp [hjl]
            rw [hm1] at g2 hja ⊢
            rw [insD, g1, g2]
            simp only [hja, true_and]
          have HST := Lib.hid hstep
          have HP := Lib.hid hp
          have HQ_ := Lib.hid hq
          have HM1 := Lib.hid hm1
          obtain ⟨C, hC⟩ : ∃ C, cmpN (q.2 : Int) (p.2 : Int) = C := ⟨_, rfl⟩
          have HCm := Lib.hid hC
          clear hrd hcell hc hstep hown hfr hll hins hp hq hm1
          by_cases hqp : q.2 < p.2
          · obtain rfl : C = -1 := by rw [← hC]; unfold cmpN; rw [if_pos (by omega)]
            clear hC
            go_wp2_with fail
            refine wp_region_flow (fun W => Below wr.heap.size wr W) [0, 1, 2, 3, 4, 5, 6, 7, 8, 9, 10, 11, 12, 13, 14, 15, 16] (by kernel_rfl) (by kernel_rfl) (by kernel_rfl) ((Below.refl _ _).drew) ?_
            refine flow_val ?_ rfl (by kernel_rfl) (by rfl) (fun W hW => ?_) ?_
            rotate_left 1
            · go_simp <;> with_reducible rfl
            simp only [Act.put, List.setIfInBounds_toArray, List.set_cons_succ, List.set_cons_zero]
            refine flow_val ?_ rfl (by kernel_rfl) (by rfl) (fun W hW => ?_) ?_
            rotate_left 1
            · go_simp <;> with_reducible rfl
            simp only [Act.put, List.setIfInBounds_toArray, List.set_cons_succ, List.set_cons_zero]
            refine flow_val ?_ rfl (by kernel_rfl) (by rfl) (fun W hW => ?_) ?_
            rotate_left 1
            · go_simp <;> with_reducible rfl
            simp only [Act.put, List.setIfInBounds_toArray, List.set_cons_succ, List.set_cons_zero]
            refine flow_val ?_ rfl (by kernel_rfl) (by rfl) (fun W hW => ?_) ?_
            rotate_left 1
            · go_simp <;> with_reducible rfl
            simp only [Act.put, List.setIfInBounds_toArray, List.set_cons_succ, List.set_cons_zero]
            refine flow_val ?_ rfl (by kernel_rfl) (by rfl) (fun W hW => ?_) ?_
            rotate_left 1
            · go_simp <;> with_reducible rfl
            simp only [Act.put, List.setIfInBounds_toArray, List.set_cons_succ, List.set_cons_zero]
            refine flow_val ?_ rfl (by kernel_rfl) (by rfl) (fun W hW => ?_) ?_
            rotate_left 1
            · go_simp <;> with_reducible rfl
            simp only [Act.put, List.setIfInBounds_toArray, List.set_cons_succ, List.set_cons_zero]
            refine flow_val ?_ rfl (by kernel_rfl) (by rfl) (fun W hW => ?_) ?_
            rotate_left 1
            · go_simp <;> with_reducible rfl
            simp only [Act.put, List.setIfInBounds_toArray, List.set_cons_succ, List.set_cons_zero]
            refine flow_val ?_ rfl (by kernel_rfl) (by rfl) (fun W hW => ?_) ?_
            rotate_left 1
            · go_simp <;> with_reducible rfl
            simp only [Act.put, List.setIfInBounds_toArray, List.set_cons_succ, List.set_cons_zero]
            refine flow_val ?_ rfl (by kernel_rfl) (by rfl) (fun W hW => ?_) ?_
            rotate_left 1
            · obtain ⟨q0, q1, q2, q3⟩ := HC.out W hW; go_simp <;> with_reducible rfl
            simp only [Act.put, List.setIfInBounds_toArray, List.set_cons_succ, List.set_cons_zero]
            refine flow_val ?_ rfl (by kernel_rfl) (by rfl) (fun W hW => ?_) ?_
            rotate_left 1
            · go_simp <;> with_reducible rfl
            simp only [Act.put, List.setIfInBounds_toArray, List.set_cons_succ, List.set_cons_zero]
            refine flow_val ?_ rfl (by kernel_rfl) (by rfl) (fun W hW => ?_) ?_
            rotate_left 1
            · go_simp <;> with_reducible rfl
            simp only [Act.put, List.setIfInBounds_toArray, List.set_cons_succ, List.set_cons_zero]
            refine flow_val ?_ rfl (by kernel_rfl) (by rfl) (fun W hW => ?_) ?_
            rotate_left 1
            · go_simp <;> with_reducible rfl
            simp only [Act.put, List.setIfInBounds_toArray, List.set_cons_succ, List.set_cons_zero]
            refine flow_val ?_ rfl (by kernel_rfl) (by rfl) (fun W hW => ?_) ?_
            rotate_left 1
            · go_simp <;> with_reducible rfl
            simp only [Act.put, List.setIfInBounds_toArray, List.set_cons_succ, List.set_cons_zero]
            refine flow_val ?_ rfl (by kernel_rfl) (by rfl) (fun W hW => ?_) ?_
            rotate_left 1
            · obtain ⟨q0, q1, q2, q3⟩ := HC.out W hW; go_simp <;> with_reducible rfl
            simp only [Act.put, List.setIfInBounds_toArray, List.set_cons_succ, List.set_cons_zero]
            refine flow_call (.int .i64 (-1)) rfl (by kernel_rfl) (by rfl) (by kernel_rfl) (fun W hW => ⟨_, _, _, by go_simp, (share1_any p q W).mono fun e w1 ⟨he, h⟩ => ⟨by rw [HCm.out] at he; exact he, hW.trans (h.mono hW.size)⟩⟩) ?_
            simp only [Act.put, List.setIfInBounds_toArray, List.set_cons_succ, List.set_cons_zero]
            refine flow_val ?_ rfl (by kernel_rfl) (by rfl) (fun W hW => ?_) ?_
            rotate_left 1
            · go_simp <;> with_reducible rfl
            simp only [Act.put, List.setIfInBounds_toArray, List.set_cons_succ, List.set_cons_zero]
            refine flow_val ?_ rfl (by kernel_rfl) (by rfl) (fun W hW => ?_) ?_
            rotate_left 1
            · go_simp <;> with_reducible rfl
            simp only [Act.put, List.setIfInBounds_toArray, List.set_cons_succ, List.set_cons_zero]
            refine flow_done ?_
            intro W hW
            replace hW := hW.1
            have howW := (Fr.of_below (B := 0) (T := []) (S := []) hW).own HOW.out (by simp) (by simp)
            obtain ⟨_, cs, hgb⟩ := own_block howW (k := g) rfl
            obtain ⟨q0, q1, q2, q3⟩ := HC.out W hW
            have f0 := frozen_at hgb (j * 2)
            have f1 := frozen_at hgb (j * 2 + 1)
            have f2 := frozen_at hgb (m * 2)
            have f3 := frozen_at hgb (m * 2 + 1)
            have HHW := Lib.hid hW
            have HOWW := Lib.hid howW
            have hjm : ¬ j * 2 = m * 2 := by have := HM1.out; omega
            have hmj : ¬ m * 2 = j * 2 := by have := HM1.out; omega
            clear hW howW hgb
            go_wp2_with fail
            go_region
            have w1 := own_set HOWW.out (i := j * 2) (by omega) (.int .i64 (q.1 : Int))
            have g1 := own_set_fr HOWW.out (HFR.out.trans (Fr.of_below HHW.out)) (j * 2) (.int .i64 (q.1 : Int))
            have g2 := own_set_fr w1 g1 (j * 2 + 1) (.int .u64 (q.2 : Int))
            have w2 := own_set w1 (i := j * 2 + 1) (by omega) (.int .u64 (q.2 : Int))
            rw [flatQ_set l j q hjl] at w2
            have g3 := own_set_fr w2 g2 (m * 2) (.int .i64 (p.1 : Int))
            have w3 := own_set w2 (i := m * 2) (by omega) (.int .i64 (p.1 : Int))
            have g4 := own_set_fr w3 g3 (m * 2 + 1) (.int .u64 (p.2 : Int))
            have w4 := own_set w3 (i := m * 2 + 1) (by omega) (.int .u64 (p.2 : Int))
            rw [flatQ_set (l.set j q) m p (by simpa using hml)] at w4
            have hsw : swapL l j = (l.set j q).set m p := by
              have e1 : j - 1 = m := by have := HM1.out; omega
              unfold swapL
              rw [e1, ← HP.out, ← HQ_.out]
              simp [hml, hjl]
            rw [← hsw] at w4
            have HW4 := Lib.hid ((Fr.of_below (B := 0) (T := []) (S := []) (Below.refl _ _).drew).own w4 (by simp) (by simp))
            have HG4 := Lib.hid (g4.trans (Fr.of_below (Below.refl _ _).drew))
            have HSL : Hid ((swapL l j).length = rs.length) := Lib.hid (by rw [swapL_len]; exact HLL.out)
            have HIN : Hid (insD a m (swapL l j) = insD a i L0) := Lib.hid (by rw [← HINS.out, HST.out, if_pos hqp])
            have hmi : m ≤ i := by have := HM1.out; omega
            clear w1 w2 w3 w4 g1 g2 g3 g4 hsw f0 f1 f2 f3 q0 q1 q2 q3
            go_wp2_with fail
            go_roundw
            case rel => exact ⟨m, swapL l j, hmi, by go_num, HSL.out, HIN.out, HW4.out, HG4.out⟩
            case measure => have := HM1.out; simp [intOf]; omega
          · have hC0 : decide (C < 0) = false := by
              rw [← hC]; unfold cmpN; rw [if_neg (by omega)]; split <;> simp
            clear hC
            go_wp2_with fail
            refine wp_region_flow (fun W => Below wr.heap.size wr W) [0, 1, 2, 3, 4, 5, 6, 7, 8, 9, 10, 11, 12, 13, 14, 15, 16] (by kernel_rfl) (by kernel_rfl) (by kernel_rfl) ((Below.refl _ _).drew) ?_
            refine flow_val ?_ rfl (by kernel_rfl) (by rfl) (fun W hW => ?_) ?_
            rotate_left 1
            · go_simp <;> with_reducible rfl
            simp only [Act.put, List.setIfInBounds_toArray, List.set_cons_succ, List.set_cons_zero]
            refine flow_val ?_ rfl (by kernel_rfl) (by rfl) (fun W hW => ?_) ?_
            rotate_left 1
            · go_simp <;> with_reducible rfl
            simp only [Act.put, List.setIfInBounds_toArray, List.set_cons_succ, List.set_cons_zero]
            refine flow_val ?_ rfl (by kernel_rfl) (by rfl) (fun W hW => ?_) ?_
            rotate_left 1
            · go_simp <;> with_reducible rfl
            simp only [Act.put, List.setIfInBounds_toArray, List.set_cons_succ, List.set_cons_zero]
            refine flow_val ?_ rfl (by kernel_rfl) (by rfl) (fun W hW => ?_) ?_
            rotate_left 1
            · go_simp <;> with_reducible rfl
            simp only [Act.put, List.setIfInBounds_toArray, List.set_cons_succ, List.set_cons_zero]
            refine flow_val ?_ rfl (by kernel_rfl) (by rfl) (fun W hW => ?_) ?_
            rotate_left 1
            · go_simp <;> with_reducible rfl
            simp only [Act.put, List.setIfInBounds_toArray, List.set_cons_succ, List.set_cons_zero]
            refine flow_val ?_ rfl (by kernel_rfl) (by rfl) (fun W hW => ?_) ?_
            rotate_left 1
            · go_simp <;> with_reducible rfl
            simp only [Act.put, List.setIfInBounds_toArray, List.set_cons_succ, List.set_cons_zero]
            refine flow_val ?_ rfl (by kernel_rfl) (by rfl) (fun W hW => ?_) ?_
            rotate_left 1
            · go_simp <;> with_reducible rfl
            simp only [Act.put, List.setIfInBounds_toArray, List.set_cons_succ, List.set_cons_zero]
            refine flow_val ?_ rfl (by kernel_rfl) (by rfl) (fun W hW => ?_) ?_
            rotate_left 1
            · go_simp <;> with_reducible rfl
            simp only [Act.put, List.setIfInBounds_toArray, List.set_cons_succ, List.set_cons_zero]
            refine flow_val ?_ rfl (by kernel_rfl) (by rfl) (fun W hW => ?_) ?_
            rotate_left 1
            · obtain ⟨q0, q1, q2, q3⟩ := HC.out W hW; go_simp <;> with_reducible rfl
            simp only [Act.put, List.setIfInBounds_toArray, List.set_cons_succ, List.set_cons_zero]
            refine flow_val ?_ rfl (by kernel_rfl) (by rfl) (fun W hW => ?_) ?_
            rotate_left 1
            · go_simp <;> with_reducible rfl
            simp only [Act.put, List.setIfInBounds_toArray, List.set_cons_succ, List.set_cons_zero]
            refine flow_val ?_ rfl (by kernel_rfl) (by rfl) (fun W hW => ?_) ?_
            rotate_left 1
            · go_simp <;> with_reducible rfl
            simp only [Act.put, List.setIfInBounds_toArray, List.set_cons_succ, List.set_cons_zero]
            refine flow_val ?_ rfl (by kernel_rfl) (by rfl) (fun W hW => ?_) ?_
            rotate_left 1
            · go_simp <;> with_reducible rfl
            simp only [Act.put, List.setIfInBounds_toArray, List.set_cons_succ, List.set_cons_zero]
            refine flow_val ?_ rfl (by kernel_rfl) (by rfl) (fun W hW => ?_) ?_
            rotate_left 1
            · go_simp <;> with_reducible rfl
            simp only [Act.put, List.setIfInBounds_toArray, List.set_cons_succ, List.set_cons_zero]
            refine flow_val ?_ rfl (by kernel_rfl) (by rfl) (fun W hW => ?_) ?_
            rotate_left 1
            · obtain ⟨q0, q1, q2, q3⟩ := HC.out W hW; go_simp <;> with_reducible rfl
            simp only [Act.put, List.setIfInBounds_toArray, List.set_cons_succ, List.set_cons_zero]
            refine flow_call (.int .i64 C) rfl (by kernel_rfl) (by rfl) (by kernel_rfl) (fun W hW => ⟨_, _, _, by go_simp, (share1_any p q W).mono fun e w1 ⟨he, h⟩ => ⟨by rw [HCm.out] at he; exact he, hW.trans (h.mono hW.size)⟩⟩) ?_
            simp only [Act.put, List.setIfInBounds_toArray, List.set_cons_succ, List.set_cons_zero]
            refine flow_val ?_ rfl (by kernel_rfl) (by rfl) (fun W hW => ?_) ?_
            rotate_left 1
            · go_simp <;> with_reducible rfl
            simp only [Act.put, List.setIfInBounds_toArray, List.set_cons_succ, List.set_cons_zero]
            refine flow_val ?_ rfl (by kernel_rfl) (by rfl) (fun W hW => ?_) ?_
            rotate_left 1
            · go_simp <;> with_reducible rfl
            simp only [Act.put, List.setIfInBounds_toArray, List.set_cons_succ, List.set_cons_zero]
            refine flow_done ?_
            intro W hW
            replace hW := hW.1
            have hfin : insN a (k + 1) rs = l := by rw [insN, HI.out, HLE.out, ← HINS.out, HST.out, if_neg hqp]
            have HX := Lib.hid (hfin.symm ▸ (Fr.of_below (B := 0) (T := []) (S := []) hW).own HOW.out (by simp) (by simp))
            have HFX := Lib.hid (HFR.out.trans (Fr.of_below hW))
            clear hW hfin
            go_wp2_with fail
            go_roundw
            case rel => exact ⟨k + 1, .inr (by have := HI.out; omega), by have := HI.out; go_num, HX.out, HFX.out⟩
            case measure => simp [intOf]; omega
        · have hja' : j ≤ a := by omega
          have hgt : decide ((a : Int) < (j : Int)) = false := by simp; omega
          have hst := insD_stop a j l hja'
          have HST := Lib.hid hst
          clear hst hown hfr hll hins
          go_wp2_with fail
          refine wp_region_flow (fun W => W = wr.drew) [0, 1, 2, 3, 4, 5, 6, 7, 8, 9, 10, 11, 12, 13, 14, 15, 16] (by kernel_rfl) (by kernel_rfl) (by kernel_rfl) (rfl) ?_
          refine flow_val ?_ rfl (by kernel_rfl) (by rfl) (fun W hW => ?_) ?_
          rotate_left 1
          · go_simp <;> with_reducible rfl
          simp only [Act.put, List.setIfInBounds_toArray, List.set_cons_succ, List.set_cons_zero]
          refine flow_val ?_ rfl (by kernel_rfl) (by rfl) (fun W hW => ?_) ?_
          rotate_left 1
          · go_simp <;> with_reducible rfl
          simp only [Act.put, List.setIfInBounds_toArray, List.set_cons_succ, List.set_cons_zero]
          refine flow_val ?_ rfl (by kernel_rfl) (by rfl) (fun W hW => ?_) ?_
          rotate_left 1
          · go_simp <;> with_reducible rfl
          simp only [Act.put, List.setIfInBounds_toArray, List.set_cons_succ, List.set_cons_zero]
          refine flow_val ?_ rfl (by kernel_rfl) (by rfl) (fun W hW => ?_) ?_
          rotate_left 1
          · go_simp <;> with_reducible rfl
          simp only [Act.put, List.setIfInBounds_toArray, List.set_cons_succ, List.set_cons_zero]
          refine flow_off rfl (by kernel_rfl) (by rfl) ?_
          simp only [Act.put, List.setIfInBounds_toArray, List.set_cons_succ, List.set_cons_zero]
          refine flow_off rfl (by kernel_rfl) (by rfl) ?_
          simp only [Act.put, List.setIfInBounds_toArray, List.set_cons_succ, List.set_cons_zero]
          refine flow_off rfl (by kernel_rfl) (by rfl) ?_
          simp only [Act.put, List.setIfInBounds_toArray, List.set_cons_succ, List.set_cons_zero]
          refine flow_off rfl (by kernel_rfl) (by rfl) ?_
          simp only [Act.put, List.setIfInBounds_toArray, List.set_cons_succ, List.set_cons_zero]
          refine flow_off rfl (by kernel_rfl) (by rfl) ?_
          simp only [Act.put, List.setIfInBounds_toArray, List.set_cons_succ, List.set_cons_zero]
          refine flow_off rfl (by kernel_rfl) (by rfl) ?_
          simp only [Act.put, List.setIfInBounds_toArray, List.set_cons_succ, List.set_cons_zero]
          refine flow_off rfl (by kernel_rfl) (by rfl) ?_
          simp only [Act.put, List.setIfInBounds_toArray, List.set_cons_succ, List.set_cons_zero]
          refine flow_off rfl (by kernel_rfl) (by rfl) ?_
          simp only [Act.put, List.setIfInBounds_toArray, List.set_cons_succ, List.set_cons_zero]
          refine flow_off rfl (by kernel_rfl) (by rfl) ?_
          simp only [Act.put, List.setIfInBounds_toArray, List.set_cons_succ, List.set_cons_zero]
          refine flow_off rfl (by kernel_rfl) (by rfl) ?_
          simp only [Act.put, List.setIfInBounds_toArray, List.set_cons_succ, List.set_cons_zero]
          refine flow_off rfl (by kernel_rfl) (by rfl) ?_
          simp only [Act.put, List.setIfInBounds_toArray, List.set_cons_succ, List.set_cons_zero]
          refine flow_off rfl (by kernel_rfl) (by rfl) ?_
          simp only [Act.put, List.setIfInBounds_toArray, List.set_cons_succ, List.set_cons_zero]
          refine flow_val ?_ rfl (by kernel_rfl) (by rfl) (fun W hW => ?_) ?_
          rotate_left 1
          · go_simp <;> with_reducible rfl
          simp only [Act.put, List.setIfInBounds_toArray, List.set_cons_succ, List.set_cons_zero]
          refine flow_done ?_
          intro W hW
          subst hW
          have hfin : insN a (k + 1) rs = l := by rw [insN, HI.out, HLE.out, ← HINS.out, HST.out]
          have HX := Lib.hid (hfin.symm ▸ (Fr.of_below (B := 0) (T := []) (S := []) (Below.refl wr.heap.size wr).drew).own HOW.out (by simp) (by simp))
          have HFX := Lib.hid (HFR.out.trans (Fr.of_below (Below.refl wr.heap.size wr).drew))
          clear hfin
          go_wp2_with fail
          go_roundw
          case rel => exact ⟨k + 1, .inr (by have := HI.out; omega), by have := HI.out; go_num, HX.out, HFX.out⟩
          case measure => simp [intOf]; omega
    · have hfin : b - a - 1 = k := by omega
      have HF := Lib.hid (hfin ▸ hown)
      have HFR := Lib.hid hfr
      clear hown hfr hfin hk
      go_wp2_with fail
      go_end0
      exact ⟨rfl, HF.out, HFR.out⟩
end Go.Proofs.Ytochhjdjfgiaeaa
