/- The law LinkTries: a body is tried again later and later. The walk. -/
import Derived.Test.YtnmbblkfaoihfaaLEn1
namespace Go.Proofs.Ytnmbblkfaoihfaa
open Go.RowKit

theorem waitL_mono {t : Int} (h : 1 ≤ t) : waitL (t - 1) ≤ waitL t := by
  unfold waitL
  split
  · omega
  · split
    · rename_i h1 h2
      have : t = 1 := by omega
      subst this
      simp
    · split
      · rename_i h1 h2 h3
        have : t = 2 := by omega
        subst this
        simp
      · split
        · rename_i h1 h2 h3 h4
          have : t = 3 := by omega
          subst this
          simp
        · rename_i h1 h2 h3 h4
          rw [if_neg (by omega), if_neg (by omega), if_neg (by omega), if_neg (by omega)]
          omega
/-- What the end of the law holds, ahead of the tick at nw. -/
def TrSt (ack nw la ga : Int) (s : LSt) : Prop :=
  (ack < 1 ∨ nw ≤ ack) ∧ (∃ t : Int, 1 ≤ t ∧ t ≤ nw ∧ s = ⟨[⟨1, [120], t, la + waitL (t - 1)⟩], 1, 0⟩ ∧ 0 ≤ la ∧ la < nw ∧ nw ≤ la + waitL (t - 1) ∧ 0 ≤ ga ∧ ga ≤ waitL (t - 1)) ∨
  (1 ≤ ack ∧ ack < nw) ∧ s = ⟨[], 1, 0⟩

set_option maxRecDepth 100000 in
set_option maxHeartbeats 1000000 in
theorem tries_any (ticks ack : Int) (w : World) :
    Calls Try.prog 5 #[.int .i64 ticks, .int .i64 ack] w fun e w' => e = .returned (.bool true) ∧ Below w.heap.size w w' := by
  have kc := fun (w : World) (C : Array Value) (n c : Nat) => Lib.run_convert_bytes_const (P := Try.prog) w 41 5 C n c Try.underlying41 Try.underlying5
  go_enter Try.func5, Try.ntmps5
  go_wp2_with fail
  refine (en1_new w).mono ?_
  rintro e w1 ⟨rfl, hen1⟩
  obtain ⟨p, hp⟩ : ∃ p, w.heap.size = p := ⟨_, rfl⟩
  rw [hp]
  have HE1 : Hid (En1 w p ⟨[], 0, 0⟩ w1) := Lib.hid (hp ▸ hen1)
  clear hen1 hp
  go_wp2_with fail
  refine (lives_any w1).mono ?_
  rintro e w2 ⟨rfl, hb2⟩
  have HE2 := Lib.hid (HE1.out.keep hb2)
  clear hb2 HE1
  by_cases h1 : ticks < 0
  · go_wp2_with fail
    refine (lives_any w2).mono ?_
    rintro e w3 ⟨rfl, hb3⟩
    have hb := (HE2.out.keep hb3).below
    go_wp2
    go_ret
    exact ⟨rfl, hb⟩
  by_cases h2 : 300 < ticks
  · go_wp2_with fail
    refine (lives_any w2).mono ?_
    rintro e w3 ⟨rfl, hb3⟩
    have hb := (HE2.out.keep hb3).below
    go_wp2
    go_ret
    exact ⟨rfl, hb⟩
  go_wp2_with fail
  have e1 : sendE ⟨[], 0, 0⟩ [120] = 0 := by decide
  have e2 : sendP ⟨[], 0, 0⟩ [120] = ⟨1, 0, [120]⟩ := rfl
  have e3 : sendS ⟨[], 0, 0⟩ [120] 0 = ⟨[⟨1, [120], 1, 2⟩], 1, 0⟩ := rfl
  have h3 := (HE2.out.keep ((Below.refl _ w2).alloc (Nat.le_refl _) (.cells #[.int .u8 120] 5 (1, 2)))).sendL w2.heap.size 120 (1, 2) 0 (by omega) (by simp) (by omega) (block_new _ _)
  rw [e1, e2, e3] at h3
  clear e1 e2 e3 kc
  refine h3.mono ?_
  rintro e w3 ⟨⟨v3, rfl, bv3, rfl, hb3⟩, hen3, _⟩
  obtain ⟨A3, c3, rfl, _, _, _, _⟩ := own_slice hb3.1
  have EN3 := Lib.hid (hen3.keep ((Below.refl _ w3).alloc (Nat.le_refl _) (.cells #[.int .i64 1, .int .i64 0, .slice A3 1 c3] 43)))
  clear h3 hb3 hen3 HE2
  go_wp2_with fail
  go_loopw [8, 9, 10, 11] (fun lv gv nv _ wr => ∃ (la ga nw : Int) (s : LSt), lv = .int .i64 la ∧ gv = .int .i64 ga ∧ nv = .int .i64 nw ∧ 1 ≤ nw ∧ nw ≤ ticks + 1 ∧ TrSt ack nw la ga s ∧ En1 w p s wr) (fun _ _ nv _ _ => (ticks + 1 - intOf nv).toNat)
  case atStart => exact ⟨0, 0, 1, _, rfl, rfl, rfl, by omega, by omega, by
    by_cases h : ack < 1 ∨ 1 ≤ ack
    · exact .inl ⟨h, 1, by omega, by omega, rfl, by omega, by omega, by decide, by omega, by decide⟩
    · omega, EN3.out⟩
  case round =>
    obtain ⟨la, ga, nw, s, rfl, rfl, rfl, hn1, hn2, hst, hen⟩ := hrel
    have HEN := Lib.hid hen
    clear hen EN3
    by_cases hlt : nw ≤ ticks
    · rcases hst with ⟨hna, t, ht1, ht2, rfl, hl1, hl2, hl3, hg1, hg2⟩ | ⟨ha, rfl⟩
      · by_cases hna2 : nw = ack
        · have hq : (nw == ack) = true := by simp [hna2]
          have hga : 1 ≤ ack := by omega
          have hgb : ack ≤ nw := by omega
          clear hna2 hna
          go_wp2_with fail
          have h4 := HEN.out.on ⟨0, 1, []⟩ none 0 (byo_nil _) (by simp) (by simp)
          have e4 : onS ⟨[⟨1, [120], t, la + waitL (t - 1)⟩], 1, 0⟩ ⟨0, 1, []⟩ = ⟨[], 1, 0⟩ := rfl
          rw [e4] at h4
          clear e4
          refine h4.mono ?_
          rintro e w4 ⟨⟨bv4, v4, rfl, hb4, bx4, rfl, hx4⟩, hen4, _⟩
          obtain ⟨A4, c4, rfl, _, _, _, _⟩ := own_slice hb4.1
          obtain ⟨X4, d4, rfl, _, _, _, _⟩ := own_slice hx4.1
          have HEN4 := Lib.hid hen4
          clear h4 hb4 hx4 hen4 HEN
          go_wp2_with fail
          have h4 := HEN4.out.tick nw (by simp) (by simp) (by omega)
          refine h4.mono ?_
          rintro e w5 ⟨⟨v5, rfl, zs5, _, ho5, _⟩, hen5, _⟩
          obtain ⟨A5, c5, rfl, _, _, _, _⟩ := own_slice ho5
          have EN5 : Hid (En1 w p ⟨[], 1, 0⟩ w5) := Lib.hid hen5
          clear h4 ho5 hen5 HEN4
          go_wp2_with fail
          have h9 : Calls Try.prog 15 #[.pointer (some ⟨p, 0, none⟩)] w5 fun e w' => e = .returned (.int .i64 0) ∧ w5 = w' := EN5.out.open_
          refine h9.mono ?_
          rintro e w9 ⟨rfl, rfl⟩
          clear h9
          go_wp2_with fail
          go_roundw
          case rel => exact ⟨la, ga, nw + 1, _, rfl, rfl, by go_num, by omega, by omega, .inr ⟨by omega, rfl⟩, EN5.out⟩
          case measure => simp [intOf]; omega
        · have hq : (nw == ack) = false := by simp [hna2]
          have hwt := waitL_pos (t := t - 1) (by omega)
          have hwm := waitL_mono ht1
          obtain ⟨x, hx⟩ : ∃ x, waitL (t - 1) = x := ⟨_, rfl⟩
          rw [hx] at hl3 hg2 hwt hwm
          have HX := Lib.hid hx
          clear hx
          go_wp2_with fail
          have h4 := HEN.out.tick nw (by simp) (by simp; omega) (by omega)
          by_cases hf : nw = la + x
          · have HF := Lib.hid hf
            have hw2 := waitL_pos (t := t) (by omega)
            have e1 : tickP ⟨[⟨1, [120], t, la + waitL (t - 1)⟩], 1, 0⟩ nw = [⟨1, 0, [120]⟩] := by simp [tickP, HX.out, hf]
            have e2 : tickS ⟨[⟨1, [120], t, la + waitL (t - 1)⟩], 1, 0⟩ nw = ⟨[⟨1, [120], t + 1, nw + waitL (t + 1 - 1)⟩], 1, 0⟩ := by
              have e3 : nextL nw t = nw + waitL t := by unfold nextL; rw [if_neg (by omega)]
              have e4 : t + 1 - 1 = t := by omega
              have e5 : la + waitL (t - 1) ≤ nw := by rw [HX.out]; omega
              simp only [tickS, List.map_cons, List.map_nil, tickI, e5, if_true, e3, e4]
            rw [e1, e2] at h4
            clear e1 e2
            refine h4.mono ?_
            rintro e w5 ⟨⟨v5, rfl, zs5, hz5, ho5, hb5⟩, hen5, _⟩
            obtain ⟨g5, c5, rfl⟩ := own_succ ho5
            obtain ⟨y, rfl⟩ : ∃ y, zs5 = [y] := by
              match zs5, hz5 with
              | [y], _ => exact ⟨y, rfl⟩
            have hy : y.1 = ⟨1, 0, [120]⟩ := by simpa using hz5
            have hbo := hb5 y (by simp)
            rw [hy] at hbo
            obtain ⟨Ab, cb, hbv, _, _, _, _⟩ := own_slice hbo.1
            obtain ⟨_, _, e6, _, _, hrd, _⟩ := own_slice ho5
            injection e6 with e6 _ _
            subst e6
            obtain ⟨_, _, e7, _, hcell⟩ := hrd.2 (by simp)
            injection e7 with e7
            injection e7 with e7 e8
            subst e7; subst e8
            have c0 : w5.cell? ⟨g5, 0, none⟩ = some (.int .i64 1) := hcell 0 _ (by simp [encP, hy])
            have c2 : w5.cell? ⟨g5, 2, none⟩ = some (.slice Ab 1 cb) := hcell 2 _ (by simp [encP, hbv])
            have hst := run_str w5 Ab 1 cb [120] (by rw [hbv] at hbo; exact bs_rd hbo.bs) (by simp)
            have hse : strOf [120] = ⟨#[120]⟩ := rfl
            rw [hse] at hst
            have EN5 := Lib.hid hen5
            clear h4 hz5 ho5 hb5 hbo hbv hrd hcell hen5 HEN hse hy
            have hsub : IntKind.i64.wrap (nw - la) = nw - la := IntWalk.i64_in _ (by omega)
            have hlt2 : decide (nw - la < ga) = false := by simp; omega
            have hx2 : nw - la ≤ x := by omega
            have hx3 : x ≤ nw - la := by omega
            clear hf
            by_cases hack : ack < 1
            · go_wp2_with fail
              go_roundw
              case rel => exact ⟨nw, nw - la, nw + 1, _, rfl, by go_num, by go_num, by omega, by omega, .inl ⟨by omega, t + 1, by omega, by omega, rfl, by omega, by omega, by rw [show t + 1 - 1 = t by omega]; omega, by omega, by rw [show t + 1 - 1 = t by omega]; omega⟩, EN5.out⟩
              case measure => simp [intOf]; omega
            · have hna3 : nw < ack := by omega
              go_wp2_with fail
              go_roundw
              case rel => exact ⟨nw, nw - la, nw + 1, _, rfl, by go_num, by go_num, by omega, by omega, .inl ⟨by omega, t + 1, by omega, by omega, rfl, by omega, by omega, by rw [show t + 1 - 1 = t by omega]; omega, by omega, by rw [show t + 1 - 1 = t by omega]; omega⟩, EN5.out⟩
              case measure => simp [intOf]; omega
          · have e1 : tickP ⟨[⟨1, [120], t, la + waitL (t - 1)⟩], 1, 0⟩ nw = [] := by simp [tickP, HX.out]; omega
            have e2 : tickS ⟨[⟨1, [120], t, la + waitL (t - 1)⟩], 1, 0⟩ nw = ⟨[⟨1, [120], t, la + waitL (t - 1)⟩], 1, 0⟩ := by
              have e5 : ¬ la + waitL (t - 1) ≤ nw := by rw [HX.out]; omega
              simp only [tickS, List.map_cons, List.map_nil, tickI, e5, if_false]
            rw [e1, e2] at h4
            clear e1 e2
            refine h4.mono ?_
            rintro e w5 ⟨⟨v5, rfl, zs5, _, ho5, _⟩, hen5, _⟩
            obtain ⟨A5, c5, rfl, _, _, _, _⟩ := own_slice ho5
            have EN5 := Lib.hid hen5
            clear h4 ho5 hen5 HEN
            by_cases hack : ack < 1
            · go_wp2_with fail
              go_roundw
              case rel => exact ⟨la, ga, nw + 1, _, rfl, rfl, by go_num, by omega, by omega, .inl ⟨by omega, t, by omega, by omega, rfl, by omega, by omega, by rw [HX.out]; omega, by omega, by rw [HX.out]; omega⟩, EN5.out⟩
              case measure => simp [intOf]; omega
            · have hna3 : nw < ack := by omega
              go_wp2_with fail
              go_roundw
              case rel => exact ⟨la, ga, nw + 1, _, rfl, rfl, by go_num, by omega, by omega, .inl ⟨by omega, t, by omega, by omega, rfl, by omega, by omega, by rw [HX.out]; omega, by omega, by rw [HX.out]; omega⟩, EN5.out⟩
              case measure => simp [intOf]; omega
      · have hq : (nw == ack) = false := by simp; omega
        go_wp2_with fail
        have h4 := HEN.out.tick nw (by simp) (by simp) (by omega)
        refine h4.mono ?_
        rintro e w5 ⟨⟨v5, rfl, zs5, _, ho5, _⟩, hen5, _⟩
        obtain ⟨A5, c5, rfl, _, _, _, _⟩ := own_slice ho5
        have EN5 : Hid (En1 w p ⟨[], 1, 0⟩ w5) := Lib.hid hen5
        clear h4 ho5 hen5 HEN
        go_wp2_with fail
        have h9 : Calls Try.prog 15 #[.pointer (some ⟨p, 0, none⟩)] w5 fun e w' => e = .returned (.int .i64 0) ∧ w5 = w' := EN5.out.open_
        refine h9.mono ?_
        rintro e w9 ⟨rfl, rfl⟩
        clear h9
        go_wp2_with fail
        go_roundw
        case rel => exact ⟨la, ga, nw + 1, _, rfl, rfl, by go_num, by omega, by omega, .inr ⟨by omega, rfl⟩, EN5.out⟩
        case measure => simp [intOf]; omega
    · have hb := HEN.out.below
      clear HEN
      go_wp2
      go_ret
      exact ⟨rfl, hb⟩
end Go.Proofs.Ytnmbblkfaoihfaa
