/- The law CellsNumbers: the cell of any number, taken again with whatever stands behind. The walk. -/
import Derived.Test.YtlljeghlfijdnaaCLives
import Derived.Test.YtlljeghlfijdnaaCRFst2
import Derived.Test.YtlljeghlfijdnaaOpen
import Derived.Deep.DrawnRows
namespace Go.Proofs.Ytlljeghlfijdnaa
open Go.RowKit
attribute [local go_sem ↓] Go.wp_at_zero Go.wp_at_succ

theorem run_eql_self (w : World) (n : Int) : (binOp .eql 3 (.int .i64 n) (.int .i64 n)).run Try.prog w = .ok (.bool true) w := by
  have hu := Try.underlying3
  go_simp
theorem run_guard_int (w : World) (a b : Operand) (n m : Int) : (eqGuard .eql 3 a b (.int .i64 n) (.int .i64 m)).run Try.prog w = .ok () w := rfl
theorem run_guardE_int (w : World) (a b : Operand) (n m : Int) : (eqGuard .eql 24 a b (.int .i64 n) (.int .i64 m)).run Try.prog w = .ok () w := rfl
theorem run_eqlE_self (w : World) (n : Int) : (binOp .eql 24 (.int .i64 n) (.int .i64 n)).run Try.prog w = .ok (.bool true) w := by
  have hu := Try.underlying24
  go_simp
theorem Bs.rd {w : World} {A : Option Addr} {n c : Nat} {bs : List Nat} (h : Bs w (.slice A n c) bs) : Rd w 1 A n (bs.map u8v) := by
  obtain ⟨A', c', h1, _, _, h4⟩ := h
  injection h1 with e1 e2 e3
  subst e1; subst e2
  exact h4

set_option maxRecDepth 100000 in
set_option maxHeartbeats 4000000 in
theorem numbers_any (n : Int) (A : Option Addr) (c : Nat) (bs : List Nat) (w : World) (hn : I64 n) (hb : IsBy w A c bs) :
    Calls Try.prog 3 #[.int .i64 n, .slice A bs.length c] w fun e w' => e = .returned (.bool true) ∧ Below w.heap.size w w' := by
  obtain ⟨i0, hi0, hz0, hz1, hz2⟩ := info_parts Try.infoByte
  obtain ⟨N, hN⟩ : ∃ N, numB n = N := ⟨_, rfl⟩
  have HNum : Hid (∀ w, Calls Try.prog 13 #[.int .i64 n] w (RetB N w)) := Lib.hid (fun w => hN ▸ num_any n w hn)
  have HRnum : Hid (∀ w, Calls Try.prog 16 #[.int .i64 n] w (RetB N w)) := Lib.hid (fun w => hN ▸ rnum_any n w hn)
  have hFst := fstV_some (firstN_num n hn bs)
  rw [hN] at hFst
  obtain ⟨X, hX⟩ : ∃ X : Value, .int .i64 n = X := ⟨_, rfl⟩
  obtain ⟨Z, hZ⟩ : ∃ Z : Value, .int .i64 (N.length : Int) = Z := ⟨_, rfl⟩
  obtain ⟨E, hE⟩ : ∃ E : Value, .int .i64 0 = E := ⟨_, rfl⟩
  have HXg := Lib.hid (fun w a b => (hX ▸ run_guard_int w a b n n : (eqGuard .eql 3 a b X (.int .i64 n)).run Try.prog w = .ok () w))
  have HZg := Lib.hid (fun w a b => (hZ ▸ run_guard_int w a b N.length N.length : (eqGuard .eql 3 a b Z (.int .i64 N.length)).run Try.prog w = .ok () w))
  have HEg := Lib.hid (fun w a b => (hE ▸ run_guardE_int w a b 0 0 : (eqGuard .eql 24 a b E (.int .i64 0)).run Try.prog w = .ok () w))
  have HX := Lib.hid (fun w => (hX ▸ run_eql_self w n : (binOp .eql 3 X (.int .i64 n)).run Try.prog w = .ok (.bool true) w))
  have HZ := Lib.hid (fun w => (hZ ▸ run_eql_self w N.length : (binOp .eql 3 Z (.int .i64 N.length)).run Try.prog w = .ok (.bool true) w))
  have HE := Lib.hid (fun w => (hE ▸ run_eqlE_self w 0 : (binOp .eql 24 E (.int .i64 0)).run Try.prog w = .ok (.bool true) w))
  have HFst : Hid (fstV (N ++ bs) = .tuple #[X, Z, E]) := Lib.hid (by rw [hFst, hX, hZ, hE])
  clear hFst hX hZ hE
  have HLt := Lib.hid (numB_lt n)
  rw [hN] at HLt
  have hl := numB_length n
  rw [hN] at hl
  obtain ⟨S, hS⟩ : ∃ S, strOf N = S := ⟨_, rfl⟩
  have HS := Lib.hid hS
  clear hN hS
  have HB := Lib.hid hb
  obtain ⟨h1, h2, _, _, _⟩ := hb
  go_enter Try.func3, Try.ntmps3
  go_wp2_with fail
  refine (HNum.out _).mono ?_
  rintro e w1 ⟨v, rfl, hv, hb1⟩
  have HV := Lib.hid hv
  have HB1 := Lib.hid hb1
  obtain ⟨A1, c1, rfl, g1, g2, _⟩ := hv
  clear hb1
  have hown := own_of_cells w1 #[] 0 (Nat.zero_le _) rfl
  have HOwn := Lib.hid hown
  obtain ⟨g1', g2', g3⟩ : N.length ≤ 9 ∧ bs.length ≤ 140737488351232 ∧ c1 ≤ 9223372036854775807 := ⟨hl.2, by omega, by unfold maxLen at g2; omega⟩
  clear hown g2
  go_wp2_with (first
    | (at_builtin
       refine wpList_append_rd _ rfl (.tmp 12) (.tmp 13) 22 rfl w1.heap.size 5 i0 (.int .u8 0) 1 1 Try.underlying22 hi0 hz0 hz1 hz2 rfl (by decide) (.slice (some ⟨w1.heap.size, 0, none⟩) 0 0) 0 [] rfl HOwn.out A1 N.length c1 (N.map u8v) rfl (HV.out.rd.below ((Below.refl _ _).alloc (Nat.le_refl _) _)) (u8_one' _) (by unfold maxLen; omega) (by omega) (by simp) ?_
       intro v2 w2 hown2 hgrow2 _
       have HO2 := Lib.hid hown2
       have hG2 := Fr.grown (B := w1.heap.size) (T := [5]) (S := []) ((Fr.refl w1).alloc (.cells #[] 5)) hgrow2 (fun j hj => by
         simp [Value.ownBlock] at hj
         subst hj
         exact ⟨Nat.le_refl _, .inr ⟨_, _, _, block_new _ _, by simp⟩⟩)
       have HB2 := Lib.hid (HB1.out.trans ((hG2.below (Nat.le_refl _)).mono HB1.out.size) : Below w.heap.size w w2)
       have hs2 : w1.heap.size ≤ w2.heap.size := hG2.size
       have HB12 := Lib.hid (hG2.below (Nat.le_refl _))
       clear hown2 hgrow2 hG2)
    | (at_builtin
       refine wpList_append_rd _ rfl (.tmp 14) (.tmp 15) 22 rfl w1.heap.size 5 i0 (.int .u8 0) 1 1 Try.underlying22 hi0 hz0 hz1 hz2 rfl (by decide) _ _ _ rfl HO2.out A bs.length c (bs.map u8v) rfl ((HB.out.below HB2.out).2.2.1) (u8_one' _) (by unfold maxLen; omega) (by omega) hs2 ?_
       intro v3 w3 hown3 hgrow3 _
       have HO3 := Lib.hid hown3
       have HG3 := Lib.hid hgrow3
       clear hown3 hgrow3))
  have f3 : Fr w1.heap.size [5] [] w2 w3 := (Fr.refl w2).grown HG3.out (fun j hj => by
    obtain ⟨hb, cs, hc⟩ := own_block HO2.out hj
    exact ⟨hb, .inr ⟨cs, _, _, hc, by simp⟩⟩)
  have HB3 := Lib.hid (HB2.out.trans ((f3.below hs2).mono HB1.out.size) : Below w.heap.size w w3)
  have hV3 : Rd w3 1 A1 N.length (N.map u8v) := (HV.out.rd.below (HB12.out.trans (f3.below hs2)))
  obtain ⟨A3, c3, rfl, k1, k2, k3, _⟩ := own_slice HO3.out
  have hbs3 : Rd w3 1 A3 (N ++ bs).length ((N ++ bs).map u8v) := by
    have := k3
    simp only [Nat.zero_add, List.nil_append] at this
    rw [List.length_append, List.map_append]
    exact this
  have HBS := Lib.hid hbs3
  have HK := Lib.hid k2
  have e3 : 0 + N.length + bs.length = (N ++ bs).length := by simp
  rw [e3] at k1 ⊢
  have HV3 := Lib.hid hV3
  clear k2 k3 hbs3 e3 hV3 f3
  refine (first_any A3 c3 (N ++ bs) w3 HBS.out (fun x hx => by
    rcases List.mem_append.1 hx with hx | hx
    · exact HLt.out x hx
    · exact HB.out.2.2.2.1 x hx) k1 HK.out).mono ?_
  rintro e w4 ⟨rfl, hb4⟩
  rw [HFst.out]
  have HB4 := Lib.hid (HB3.out.trans (hb4.mono HB3.out.size))
  have HV4 := Lib.hid (HV3.out.below hb4)
  clear hb4
  have hs4 := HS.out ▸ run_str w4.drew A1 N.length c1 N HV4.out HLt.out
  go_wp2_with fail
  clear HBS HK HB2 HO2 HO3 HG3 HB12 HOwn HB3 HV3 hi0 hz0 hz1 hz2 hs2
  go_region_with (first
    | (go_at_call 15
       refine (lives_any _).mono ?_
       rintro e w5 ⟨rfl, hb5⟩
       have hs5 := HS.out ▸ run_str w5 A1 N.length c1 N ((HV4.out.below (Below.refl _ _).drew).below hb5) HLt.out
       have HB5 := Lib.hid hb5
       clear hb5 hs4)
    | (go_at_call 16
       refine (HRnum.out _).mono ?_
       rintro e w6 ⟨v, rfl, ⟨A6, c6, rfl, hl6, hm6, hr6⟩, hb6⟩
       have hs6 := HS.out ▸ run_str w6 A6 _ c6 N hr6 HLt.out
       have hs7 := HS.out ▸ run_str w6 A1 N.length c1 N (((HV4.out.below (Below.refl _ _).drew).below HB5.out).below hb6) HLt.out
       have HB6 := Lib.hid hb6
       have hg1 := HXg.out w6
       have hg2 := HZg.out w6
       have hg3 := HEg.out w6
       have he1 := HX.out w6
       have he2 := HZ.out w6
       have he3 := HE.out w6
       clear hl6 hm6 hr6 hb6))
  all_goals
    go_wp2
    go_ret
    exact ⟨rfl, (HB4.out.drew).trans ((HB5.out.trans (HB6.out.mono HB5.out.size)).mono HB4.out.size)⟩
end Go.Proofs.Ytlljeghlfijdnaa
