/- slices.swapRangeCmpFunc and rotateCmpFunc on parts. -/
import Derived.Test.YtochhjdjfgiaeaaNSym
namespace Go.Proofs.Ytochhjdjfgiaeaa
open Go.RowKit

theorem sw_flat {l : List (Nat × Nat)} {i j : Nat} (hi : i < l.length) (hj : j < l.length) : SymP.sw l i j = (l.set i l[j]).set j l[i] := by
  unfold SymP.sw
  simp [List.getD_eq_getElem?_getD, hi, hj]

set_option maxRecDepth 100000 in
set_option maxHeartbeats 4000000 in
theorem swr_any (a b n base g c : Nat) (rs : List (Nat × Nat)) (w : World) (ha : a + n ≤ b) (hb : b + n ≤ rs.length) (hm : rs.length ≤ 1048576)
    (hown : w.ownsRow base 56 2 (.slice (some ⟨g, 0, none⟩) rs.length c) rs.length (rs.flatMap encQ)) :
    Calls Try.prog 65 #[.slice (some ⟨g, 0, none⟩) rs.length c, .int .i64 (a : Int), .int .i64 (b : Int), .int .i64 (n : Int), .func (.func 31) #[] #[]] w fun e w' => e = .returned (.tuple #[]) ∧ w'.ownsRow base 56 2 (.slice (some ⟨g, 0, none⟩) rs.length c) rs.length ((SymP.swR a b n rs).flatMap encQ) ∧ Fr base [56] [] w w' := by
  have HOWN := Lib.hid hown
  have hcm : c ≤ 9223372036854775807 := by
    obtain ⟨_, _, hv, _, hcm, _, _⟩ := own_slice hown
    cases hv
    unfold maxLen at hcm; omega
  clear hown
  go_enter Try.func65, Try.ntmps65
  go_wp2_with fail
  go_loopw [10] (fun i wr => ∃ k : Nat, k ≤ n ∧ i = .int .i64 (k : Int) ∧ wr.ownsRow base 56 2 (.slice (some ⟨g, 0, none⟩) rs.length c) rs.length ((SymP.swR a b k rs).flatMap encQ) ∧ Fr base [56] [] w wr) (fun i _ => n - (intOf i).toNat)
  case atStart => exact ⟨0, Nat.zero_le _, rfl, HOWN.out, Fr.refl w⟩
  case round =>
    obtain ⟨k, hk, rfl, hown, hfr⟩ := hrel
    by_cases hlt : k < n
    · have HOW := Lib.hid hown
      have HFR := Lib.hid hfr
      obtain ⟨l, hl⟩ : ∃ l, SymP.swR a b k rs = l := ⟨_, rfl⟩
      have hll : l.length = rs.length := by rw [← hl]; exact SymP.swR_len a b k rs
      have hnx : SymP.swR a b (k + 1) rs = SymP.sw l (a + k) (b + k) := by rw [← hl]; rfl
      rw [hl] at HOW hown
      obtain ⟨x, hx⟩ : ∃ x, a + k = x := ⟨_, rfl⟩
      obtain ⟨y, hy⟩ : ∃ y, b + k = y := ⟨_, rfl⟩
      have hxr : (x : Int) < (rs.length : Int) := by omega
      have hyr : (y : Int) < (rs.length : Int) := by omega
      have hxl : x < l.length := by omega
      have hyl : y < l.length := by omega
      have hxy : ¬ x * 2 = y * 2 := by omega
      have hyx : ¬ y * 2 = x * 2 := by omega
      rw [hx, hy] at hnx
      obtain ⟨_, _, hv, _, _, hrd, _⟩ := own_slice hown
      cases hv
      obtain ⟨g', o', e', hg', hcell⟩ := hrd.2 (by omega)
      cases e'
      obtain ⟨p, hp⟩ : ∃ p, l[x] = p := ⟨_, rfl⟩
      obtain ⟨q, hq⟩ : ∃ q, l[y] = q := ⟨_, rfl⟩
      have e0 := hcell (x * 2 + 0) _ (by rw [flatQ_at l x 0 hxl (by omega)]; rfl)
      have e1 := hcell (x * 2 + 1) _ (by rw [flatQ_at l x 1 hxl (by omega)]; rfl)
      have e2 := hcell (y * 2 + 0) _ (by rw [flatQ_at l y 0 hyl (by omega)]; rfl)
      have e3 := hcell (y * 2 + 1) _ (by rw [flatQ_at l y 1 hyl (by omega)]; rfl)
      rw [hp] at e0 e1
      rw [hq] at e2 e3
      have q0 : wr.cell? ⟨g, x * 2, none⟩ = some (.int .i64 (p.1 : Int)) := by simpa using e0
      have q1 : wr.cell? ⟨g, x * 2 + 1, none⟩ = some (.int .u64 (p.2 : Int)) := by simpa using e1
      have q2 : wr.cell? ⟨g, y * 2, none⟩ = some (.int .i64 (q.1 : Int)) := by simpa using e2
      have q3 : wr.cell? ⟨g, y * 2 + 1, none⟩ = some (.int .u64 (q.2 : Int)) := by simpa using e3
      obtain ⟨_, cs, hgb⟩ := own_block hown (k := g) rfl
      have f0 := frozen_at hgb (x * 2)
      have f1 := frozen_at hgb (x * 2 + 1)
      have f2 := frozen_at hgb (y * 2)
      have f3 := frozen_at hgb (y * 2 + 1)
      have hsx : (a : Int) + (k : Int) = (x : Int) := by omega
      have hsy : (b : Int) + (k : Int) = (y : Int) := by omega
      have hwx : IntKind.i64.wrap (x : Int) = (x : Int) := IntWalk.i64_in _ (by omega)
      have hwy : IntKind.i64.wrap (y : Int) = (y : Int) := IntWalk.i64_in _ (by omega)
      have hkn : (k : Int) < (n : Int) := by omega
      have HP := Lib.hid hp
      have HQ_ := Lib.hid hq
      have HNX := Lib.hid hnx
      have HLL := Lib.hid hll
      clear hrd hcell e0 e1 e2 e3 hgb hp hq hnx hown hfr hl hx hy hll
      go_wp2_with fail
      go_region
      have w1 := own_set HOW.out (i := x * 2) (by omega) (.int .i64 (q.1 : Int))
      have g1 := own_set_fr HOW.out HFR.out (x * 2) (.int .i64 (q.1 : Int))
      have g2 := own_set_fr w1 g1 (x * 2 + 1) (.int .u64 (q.2 : Int))
      have w2 := own_set w1 (i := x * 2 + 1) (by omega) (.int .u64 (q.2 : Int))
      rw [flatQ_set l x q hxl] at w2
      have g3 := own_set_fr w2 g2 (y * 2) (.int .i64 (p.1 : Int))
      have w3 := own_set w2 (i := y * 2) (by omega) (.int .i64 (p.1 : Int))
      have g4 := own_set_fr w3 g3 (y * 2 + 1) (.int .u64 (p.2 : Int))
      have w4 := own_set w3 (i := y * 2 + 1) (by omega) (.int .u64 (p.2 : Int))
      rw [flatQ_set (l.set x q) y p (by simpa using hyl)] at w4
      have hsw : SymP.swR a b (k + 1) rs = (l.set x q).set y p := by
        rw [HNX.out, sw_flat hxl hyl, HP.out, HQ_.out]
      rw [← hsw] at w4
      have HW4 := Lib.hid ((Fr.of_below (B := 0) (T := []) (S := []) (Below.refl _ _).drew).own w4 (by simp) (by simp))
      have HG4 := Lib.hid (g4.trans (Fr.of_below (Below.refl _ _).drew))
      clear w1 w2 w3 w4 g1 g2 g3 g4 hsw f0 f1 f2 f3 q0 q1 q2 q3
      go_wp2_with fail
      go_roundw
      case rel => exact ⟨k + 1, hlt, by go_num, HW4.out, HG4.out⟩
      case measure => simp [intOf]; omega
    · have hkn : k = n := by omega
      subst hkn
      have HF := Lib.hid hown
      have HFR := Lib.hid hfr
      clear hown hfr
      go_wp2_with fail
      go_end0
      exact ⟨rfl, HF.out, HFR.out⟩
end Go.Proofs.Ytochhjdjfgiaeaa
