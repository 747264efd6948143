/- Package crc and the reference: a sum, gone on, without a table. -/
import Derived.Test.YtchdfdimaopdeaaQStep
namespace Go.Proofs.Ytchdfdimaopdeaa
open Go.RowKit

theorem runN_take (s : Nat) (bs : List Nat) (k : Nat) (h : k < bs.length) : runN s (bs.take (k + 1)) = stepN (runN s (bs.take k)) bs[k] := by
  rw [List.take_succ_eq_append_getElem h, runN_append]
  rfl
theorem runN_take_lt {s : Nat} {bs : List Nat} (hs : s < 4294967296) (hb : ∀ b ∈ bs, b < 256) (k : Nat) : runN s (bs.take k) < 4294967296 := runN_lt _ hs (fun b h => hb b (List.mem_of_mem_take h))
/-- A byte of a slice. -/
theorem Bs.at_ {w : World} {A : Option Addr} {c : Nat} {bs : List Nat} (h : Bs w (.slice A bs.length c) bs) (k : Nat) (hk : k < bs.length) : ∃ g o, A = some ⟨g, o, none⟩ ∧ w.cell? ⟨g, o + k, none⟩ = some (.int .u8 (bs[k] : Nat)) := by
  obtain ⟨A', c', h1, h2, h3, h4⟩ := h
  injection h1 with e1 e2 e3
  subst e1
  obtain ⟨g, o, ha, _, hc⟩ := h4.2 (by omega)
  exact ⟨g, o, ha, hc k _ (by simp [hk, u8v])⟩
theorem Bs.slice {w : World} {v : Value} {bs : List Nat} (h : Bs w v bs) : ∃ A c, v = .slice A bs.length c ∧ bs.length ≤ 9223372036854775807 ∧ bs.length ≤ c ∧ c ≤ 9223372036854775807 := by
  obtain ⟨A', c', h1, h2, h3, h4⟩ := h
  unfold maxLen at h3
  exact ⟨A', c', h1, by omega, h2, by omega⟩

set_option maxRecDepth 100000 in
set_option maxHeartbeats 400000 in
theorem ron_any (s : Nat) (v : Value) (bs : List Nat) (hs : s < 4294967296) (hb : ∀ b ∈ bs, b < 256) (w : World) (hv : Bs w v bs) : Calls Try.prog 14 #[.int .u32 s, v] w fun e w' => e = .returned (.int .u32 (onN s bs : Nat)) ∧ w = w' := by
  obtain ⟨A, c, rfl, hl, _⟩ := hv.slice
  have HV := Lib.hid hv
  have HB := Lib.hid hb
  have hn := not32 hs
  obtain ⟨z, hz⟩ : ∃ z, flipN s = z := ⟨_, rfl⟩
  have hzl : z < 4294967296 := by rw [← hz]; exact flipN_lt s
  rw [hz] at hn
  have HR : Hid (onN s bs = flipN (runN z bs)) := Lib.hid (by unfold onN; rw [hz])
  have HZ := Lib.hid hzl
  have HN := Lib.hid hn
  clear hz hzl hb hv hn
  go_enter Try.func14, Try.ntmps14
  go_wp2_with fail
  go_loop [0, 5] (fun x i => ∃ k : Nat, k ≤ bs.length ∧ i = .int .i64 k ∧ x = .int .u32 (runN z (bs.take k) : Nat)) (fun _ i => bs.length - (intOf i).toNat)
  case atStart => exact ⟨0, Nat.zero_le _, rfl, by first | rfl | (rw [HN.out]; rfl)⟩
  case round =>
    obtain ⟨k, hk, rfl, rfl⟩ := hrel
    have hx := runN_take_lt HZ.out HB.out k
    by_cases hlt : k < bs.length
    · have he := runN_take z bs k hlt
      obtain ⟨g, o, rfl, hc⟩ := HV.out.at_ k hlt
      have hbk := HB.out bs[k] (List.getElem_mem hlt)
      obtain ⟨b, hb⟩ : ∃ b, bs[k] = b := ⟨_, rfl⟩
      obtain ⟨x, hxe⟩ : ∃ x, runN z (bs.take k) = x := ⟨_, rfl⟩
      rw [hb] at he hbk hc
      rw [hxe] at he hx
      simp only [hxe]
      have HE := Lib.hid he
      clear he hb hxe
      go_wp2_with fail
      refine (rstep_any x b hx hbk _).mono ?_
      rintro e w1 ⟨rfl, rfl⟩
      go_wp2_with fail
      go_round
      case rel => exact ⟨k + 1, hlt, by go_num, by rw [HE.out]⟩
      case measure => simp [intOf]; omega
    · obtain rfl : k = bs.length := by omega
      rw [List.take_length] at hx ⊢
      have hn := not32 hx
      rw [← HR.out] at hn
      clear HR
      go_wp2
      go_ret
      exact ⟨rfl, rfl⟩

set_option maxRecDepth 100000 in
set_option maxHeartbeats 400000 in
theorem on_nil (s : Nat) (v : Value) (bs : List Nat) (hs : s < 4294967296) (hb : ∀ b ∈ bs, b < 256) (w : World) (hv : Bs w v bs) : Calls Try.prog 15 #[.pointer none, .int .u32 s, v] w fun e w' => e = .returned (.int .u32 (onN s bs : Nat)) ∧ w = w' := by
  obtain ⟨A, c, rfl, hl, _⟩ := hv.slice
  have HV := Lib.hid hv
  have HB := Lib.hid hb
  have hn := not32 hs
  obtain ⟨z, hz⟩ : ∃ z, flipN s = z := ⟨_, rfl⟩
  have hzl : z < 4294967296 := by rw [← hz]; exact flipN_lt s
  rw [hz] at hn
  have HR : Hid (onN s bs = flipN (runN z bs)) := Lib.hid (by unfold onN; rw [hz])
  have HZ := Lib.hid hzl
  have HN := Lib.hid hn
  clear hz hzl hb hv hn
  go_enter Try.func15, Try.ntmps15
  go_wp2_with fail
  go_loop [1, 17] (fun x i => ∃ k : Nat, k ≤ bs.length ∧ i = .int .i64 k ∧ x = .int .u32 (runN z (bs.take k) : Nat)) (fun _ i => bs.length - (intOf i).toNat)
  case atStart => exact ⟨0, Nat.zero_le _, rfl, by first | rfl | (rw [HN.out]; rfl)⟩
  case round =>
    obtain ⟨k, hk, rfl, rfl⟩ := hrel
    have hx := runN_take_lt HZ.out HB.out k
    by_cases hlt : k < bs.length
    · have he := runN_take z bs k hlt
      obtain ⟨g, o, rfl, hc⟩ := HV.out.at_ k hlt
      have hbk := HB.out bs[k] (List.getElem_mem hlt)
      obtain ⟨b, hb⟩ : ∃ b, bs[k] = b := ⟨_, rfl⟩
      obtain ⟨x, hxe⟩ : ∃ x, runN z (bs.take k) = x := ⟨_, rfl⟩
      rw [hb] at he hbk hc
      rw [hxe] at he hx
      simp only [hxe]
      have HE := Lib.hid he
      clear he hb hxe
      go_wp2_with fail
      refine (step_any x b hx hbk _).mono ?_
      rintro e w1 ⟨rfl, rfl⟩
      go_wp2_with fail
      go_round
      case rel => exact ⟨k + 1, hlt, by go_num, by rw [HE.out]⟩
      case measure => simp [intOf]; omega
    · obtain rfl : k = bs.length := by omega
      rw [List.take_length] at hx ⊢
      have hn := not32 hx
      rw [← HR.out] at hn
      clear HR
      go_wp2
      go_ret
      exact ⟨rfl, rfl⟩
theorem sum_nil (v : Value) (bs : List Nat) (hb : ∀ b ∈ bs, b < 256) (w : World) (hv : Bs w v bs) : Calls Try.prog 13 #[.pointer none, v] w fun e w' => e = .returned (.int .u32 (onN 0 bs : Nat)) ∧ w = w' := by
  have HC := Lib.hid (on_nil 0 v bs (by omega) hb w hv)
  clear hv hb
  go_enter Try.func13, Try.ntmps13
  go_wp2_with fail
  refine HC.out.mono ?_
  rintro e w1 ⟨rfl, rfl⟩
  go_wp2
  go_ret
  exact ⟨rfl, rfl⟩
end Go.Proofs.Ytchdfdimaopdeaa
