/- lives of chapter 12's laws answers true. -/
import Derived.Test.YtnmbblkfaoihfaaZLY11
import Derived.Lib.SlBytesConst
namespace Go.Proofs.Ytnmbblkfaoihfaa
open Go.RowKit

set_option maxRecDepth 100000 in
set_option maxHeartbeats 1000000 in
theorem lives_any (w : World) : Calls Try.prog 12 #[] w fun e w' => e = .returned (.bool true) ∧ Below w.heap.size w w' := by
  have kc := fun (w : World) (C : Array Value) (n c : Nat) => Lib.run_convert_bytes_const (P := Try.prog) w 41 5 C n c Try.underlying41 Try.underlying5
  go_enter Try.func12, Try.ntmps12
  go_wp2_with fail
  refine (lnew_any w).mono ?_
  rintro e w1 ⟨rfl, hE1, hb1⟩
  go_wp2_with fail
  refine (lnew_any w1).mono ?_
  rintro e w2 ⟨rfl, hE2, hb2⟩
  have hen := en2_new (Below.refl _ w) hE1 hb1 hE2 hb2
  obtain ⟨p, hp⟩ : ∃ p, w.heap.size = p := ⟨_, rfl⟩
  obtain ⟨q, hq⟩ : ∃ q, w1.heap.size = q := ⟨_, rfl⟩
  have HEN : Hid (En2 w p ⟨[], 0, 0⟩ q ⟨[], 0, 0⟩ w2) := Lib.hid (hp ▸ hq ▸ hen)
  rw [hp, hq]
  clear hE1 hb1 hE2 hb2 hen hp hq
  go_wp2_with fail
  have e1 : sendE ⟨[], 0, 0⟩ [120] = 0 := by decide
  have e2 : sendP ⟨[], 0, 0⟩ [120] = ⟨1, 0, [120]⟩ := rfl
  have e3 : sendS ⟨[], 0, 0⟩ [120] 0 = ⟨[⟨1, [120], 1, 2⟩], 1, 0⟩ := rfl
  have h3 := (HEN.out.keep ((Below.refl _ w2).alloc (Nat.le_refl _) (.cells #[.int .u8 120] 5 (1, 2)))).sendL w2.heap.size 120 (1, 2) 0 (by omega) (by simp) (by omega) (block_new _ _)
  rw [e1, e2, e3] at h3
  clear e1 e2 e3
  refine h3.mono ?_
  rintro e w3 ⟨⟨v3, rfl, bv3, rfl, hb3⟩, hen3, _⟩
  obtain ⟨A3, c3, rfl, _, _, _, _⟩ := byo_slice hb3
  have EN3 := Lib.hid hen3
  have B3 := Lib.hid hb3
  clear h3 hb3 hen3 HEN
  have kc2 : (convert 41 41 (.slice (some ⟨w3.heap.size + 1, 0, none⟩) 1 1)).run Try.prog ((w3.alloc (.cells #[.int .i64 1, .int .i64 0, .slice A3 1 c3] 43)).alloc (.cells #[.int .u8 121] 5)) = .ok (.slice (some ⟨w3.heap.size + 1, 0, none⟩) 1 1) ((w3.alloc (.cells #[.int .i64 1, .int .i64 0, .slice A3 1 c3] 43)).alloc (.cells #[.int .u8 121] 5 (1, 2))) := by
    have := kc (w3.alloc (.cells #[.int .i64 1, .int .i64 0, .slice A3 1 c3] 43)) #[.int .u8 121] 1 1
    simpa using this
  go_wp2_with fail
  clear kc kc2
  have hA := (Below.refl _ w3).alloc (Nat.le_refl _) (.cells #[.int .i64 1, .int .i64 0, .slice A3 1 c3] 43)
  have hA2 := hA.alloc (by simp) (.cells #[.int .u8 121] 5 (1, 2))
  have n3 := block_alloc (block_new w3 (.cells #[.int .i64 1, .int .i64 0, .slice A3 1 c3] 43)) (.cells #[.int .u8 121] 5 (1, 2))
  have nl := block_new (w3.alloc (.cells #[.int .i64 1, .int .i64 0, .slice A3 1 c3] 43)) (.cells #[.int .u8 121] 5 (1, 2))
  simp only [World.size_alloc] at nl
  have b3 := B3.out.below hA2
  have en3 := EN3.out.keep hA2
  obtain ⟨k3, hk3⟩ : ∃ k, w3.heap.size = k := ⟨_, rfl⟩
  obtain ⟨w4, hw4⟩ : ∃ w4, (w3.alloc (.cells #[.int .i64 1, .int .i64 0, .slice A3 1 c3] 43)).alloc (.cells #[.int .u8 121] 5 (1, 2)) = w4 := ⟨_, rfl⟩
  rw [hw4] at n3 b3 en3 nl ⊢
  rw [hk3] at n3 nl ⊢
  clear hA hA2 hw4 EN3 B3 hk3
  have e1 : sendE ⟨[⟨1, [120], 1, 2⟩], 1, 0⟩ [121] = 0 := by decide
  have e2 : sendP ⟨[⟨1, [120], 1, 2⟩], 1, 0⟩ [121] = ⟨2, 0, [121]⟩ := rfl
  have e3 : sendS ⟨[⟨1, [120], 1, 2⟩], 1, 0⟩ [121] 0 = ⟨[⟨1, [120], 1, 2⟩, ⟨2, [121], 1, 2⟩], 2, 0⟩ := rfl
  have h3 := en3.sendL (k3 + 1) 121 (1, 2) 0 (by omega) (by simp) (by omega) nl
  rw [e1, e2, e3] at h3
  clear e1 e2 e3
  refine h3.mono ?_
  rintro e w5 ⟨⟨v5, rfl, bv5, rfl, hb5⟩, hen5, hk5⟩
  obtain ⟨A5, c5, rfl, _, _, _, _⟩ := byo_slice hb5
  have N3 := Lib.hid (hk5.2 _ _ _ _ n3 (by decide) (by decide))
  have B3 := Lib.hid (hk5.1 _ _ b3)
  have B5 := Lib.hid hb5
  have EN5 := Lib.hid hen5
  clear h3 hb5 hen5 hk5 n3 nl b3 en3
  have n0 := cell_at N3.out 0
  go_wp2_with fail
  have hA := (Below.refl _ w5).alloc (Nat.le_refl _) (.cells #[.int .i64 2, .int .i64 0, .slice A5 1 c5] 43)
  have h6 := (EN5.out.keep hA).symm.on ⟨2, 0, [121]⟩ A5 c5 (B5.out.below hA) (by simp) (by simp)
  have e1 : onI ⟨[], 0, 0⟩ ⟨2, 0, [121]⟩ = false := by decide
  have e2 : onB ⟨[], 0, 0⟩ ⟨2, 0, [121]⟩ = [] := rfl
  have e3 : onP ⟨[], 0, 0⟩ ⟨2, 0, [121]⟩ = ⟨0, 0, []⟩ := rfl
  have e4 : onS ⟨[], 0, 0⟩ ⟨2, 0, [121]⟩ = ⟨[], 0, 0⟩ := rfl
  rw [e1, e2, e3, e4] at h6
  clear e1 e2 e3 e4
  refine h6.mono ?_
  rintro e w6 ⟨⟨bv6, v6, rfl, hb6, bx6, rfl, hx6⟩, hen6, hk6⟩
  obtain ⟨A6, c6, rfl, _, _, _, _⟩ := byo_slice hb6
  obtain ⟨X6, d6, rfl, _, _, _, _⟩ := byo_slice hx6
  have hk56 := (Keeps.below hA).trans hk6
  have hB := (Below.refl _ w6).alloc (Nat.le_refl _) (.cells #[.int .i64 0, .int .i64 0, .slice X6 0 d6] 43)
  have n3' := (hB.block _ (lt_of_block (hk56.2 _ _ _ _ N3.out (by decide) (by decide)))).trans (hk56.2 _ _ _ _ N3.out (by decide) (by decide))
  have m0 := cell_at n3' 0
  have m1 := cell_at n3' 1
  have m2 := cell_at n3' 2
  have N6 := Lib.hid n3'
  have B6 := Lib.hid ((hk56.1 _ _ B3.out).below hB)
  have EN6 := Lib.hid (hen6.symm.keep hB)
  clear h6 hb6 hx6 hen6 hk6 hk56 hA hB n3' n0
  go_wp2_with fail
  have h7 := EN6.out.symm.on ⟨1, 0, [120]⟩ A3 c3 B6.out (by simp) (by simp)
  have e1 : onI ⟨[], 0, 0⟩ ⟨1, 0, [120]⟩ = true := by decide
  have e2 : onB ⟨[], 0, 0⟩ ⟨1, 0, [120]⟩ = [120] := rfl
  have e3 : onP ⟨[], 0, 0⟩ ⟨1, 0, [120]⟩ = ⟨0, 1, []⟩ := rfl
  have e4 : onS ⟨[], 0, 0⟩ ⟨1, 0, [120]⟩ = ⟨[], 0, 1⟩ := rfl
  rw [e1, e2, e3, e4] at h7
  clear e1 e2 e3 e4
  refine h7.mono ?_
  rintro e w7 ⟨⟨bv7, v7, rfl, hb7, bx7, rfl, hx7⟩, hen7, hk7⟩
  obtain ⟨A7, c7, rfl, _, _, _, _⟩ := byo_slice hb7
  obtain ⟨X7, d7, rfl, _, _, _, _⟩ := byo_slice hx7
  have hB := (Below.refl _ w7).alloc (Nat.le_refl _) (.cells #[.int .i64 0, .int .i64 1, .slice X7 0 d7] 43)
  have EN7 := Lib.hid (hen7.symm.keep hB)
  have B7 := Lib.hid (hb7.below hB)
  have X7' := Lib.hid (hx7.below hB)
  clear h7 hb7 hx7 hen7 hk7 hB m0 m1 m2 N6 B6 EN6
  go_wp2_with fail
  have h8 := EN7.out.on ⟨0, 1, []⟩ X7 d7 X7'.out (by simp) (by simp)
  have e1 : onI ⟨[⟨1, [120], 1, 2⟩, ⟨2, [121], 1, 2⟩], 2, 0⟩ ⟨0, 1, []⟩ = false := by decide
  have e2 : onB ⟨[⟨1, [120], 1, 2⟩, ⟨2, [121], 1, 2⟩], 2, 0⟩ ⟨0, 1, []⟩ = [] := rfl
  have e3 : onP ⟨[⟨1, [120], 1, 2⟩, ⟨2, [121], 1, 2⟩], 2, 0⟩ ⟨0, 1, []⟩ = ⟨0, 0, []⟩ := rfl
  have e4 : onS ⟨[⟨1, [120], 1, 2⟩, ⟨2, [121], 1, 2⟩], 2, 0⟩ ⟨0, 1, []⟩ = ⟨[⟨2, [121], 1, 2⟩], 2, 0⟩ := rfl
  rw [e1, e2, e3, e4] at h8
  clear e1 e2 e3 e4
  refine h8.mono ?_
  rintro e w8 ⟨⟨bv8, v8, rfl, hb8, bx8, rfl, hx8⟩, hen8, hk8⟩
  obtain ⟨A8, c8, rfl, _, _, _, _⟩ := byo_slice hb8
  obtain ⟨X8, d8, rfl, _, _, _, _⟩ := byo_slice hx8
  have EN8 := Lib.hid hen8
  have hb78 := hk8.1 _ _ B7.out
  have hst := run_str w8 A7 1 c7 [120] (bs_rd hb78.bs) (by simp)
  clear h8 hb8 hx8 hen8 hk8 EN7 B7 X7' hb78
  have hse : strOf [120] = ⟨#[120]⟩ := rfl
  rw [hse] at hst
  clear hse
  go_wp2_with fail
  have h9 : Calls Try.prog 15 #[.pointer (some ⟨p, 0, none⟩)] w8 fun e w' => e = .returned (.int .i64 1) ∧ w8 = w' := EN8.out.open_
  refine h9.mono ?_
  rintro e w9 ⟨rfl, rfl⟩
  clear h9
  go_wp2_with fail
  have h9 : Calls Try.prog 26 #[.pointer (some ⟨q, 0, none⟩)] w8 fun e w' => e = .returned (.int .i64 1) ∧ w8 = w' := EN8.out.symm.mark
  refine h9.mono ?_
  rintro e w9 ⟨rfl, rfl⟩
  clear h9 hst
  go_wp2_with fail
  have h9 := EN8.out.tick 1 (by simp) (by simp) (by omega)
  have e1 : tickP ⟨[⟨2, [121], 1, 2⟩], 2, 0⟩ 1 = [] := rfl
  have e2 : tickS ⟨[⟨2, [121], 1, 2⟩], 2, 0⟩ 1 = ⟨[⟨2, [121], 1, 2⟩], 2, 0⟩ := rfl
  rw [e1, e2] at h9
  clear e1 e2
  refine h9.mono ?_
  rintro e w9 ⟨⟨v9, rfl, zs9, _, ho9, _⟩, hen9, _⟩
  obtain ⟨A9, c9, rfl, _, _, _, _⟩ := own_slice ho9
  have EN9 := Lib.hid hen9
  clear h9 ho9 hen9 EN8
  go_wp2_with fail
  have h10 := EN9.out.tick 2 (by simp) (by simp) (by omega)
  have e1 : tickP ⟨[⟨2, [121], 1, 2⟩], 2, 0⟩ 2 = [⟨2, 0, [121]⟩] := rfl
  rw [e1] at h10
  clear e1
  refine h10.mono ?_
  rintro e w10 ⟨⟨v10, rfl, zs10, _, ho10, _⟩, hen10, _⟩
  obtain ⟨A10, c10, rfl, _, _, _, _⟩ := own_slice ho10
  obtain ⟨_, _, _, _, _, _, _, _, _, _, hbl⟩ := hen10
  clear h10 ho10 EN9
  go_wp2
  go_ret
  exact ⟨rfl, hbl⟩
end Go.Proofs.Ytnmbblkfaoihfaa
