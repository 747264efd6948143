/- items.Good and the reference's. -/
import Derived.Test.YtjgdcdojigcefaaRows
import Derived.Test.YtjgdcdojigcefaaIPure
import Derived.Laws.RangeString
import Derived.Laws.RangeAny
namespace Go.Proofs.Ytjgdcdojigcefaa
open Go.RowKit

theorem good_end {s : ByteArray} (h : ∀ j (hj : j < s.size), okC (s[j]'hj) = true) : goodS s = (decide (1 ≤ s.size) && decide (s.size ≤ 16)) := by
  unfold goodS
  rw [List.all_eq_true.2 (fun c hc => ?_)]
  · rfl
  · rw [Lib.toList_data] at hc
    obtain ⟨j, hj, rfl⟩ := List.getElem_of_mem hc
    exact h j (by simpa using hj)
theorem good_bad {s : ByteArray} {j : Nat} (hj : j < s.size) (h : okC (s[j]'hj) = false) : goodS s = false := by
  unfold goodS
  rw [List.all_eq_false.2 ⟨s[j]'hj, by rw [Lib.toList_data]; exact List.getElem_mem (l := s.data.toList) (n := j) (by simpa using hj), by rw [h]; simp⟩]
  rfl

set_option maxRecDepth 100000 in
set_option maxHeartbeats 1000000 in
theorem good_any (s : ByteArray) (w : World) (hs : s.size ≤ 9223372036854775807) :
    Calls Try.prog 33 #[.string s] w fun e w' => e = .returned (.bool (goodS s)) ∧ ∃ pos, w' = w.iter s pos := by
  go_enter Try.func33, Try.ntmps33
  go_wp2
  go_loopw [] (fun w' => ∃ pos : Nat, w' = w.iter s pos ∧ pos ≤ s.size ∧ ∀ j (hj : j < s.size), j < pos → okC (s[j]'hj) = true) (fun w' => s.size - w'.iterPos w.heap.size)
  case atStart => exact ⟨0, rfl, Nat.zero_le _, fun j _ h => absurd h (by omega)⟩
  case round =>
    obtain ⟨pos, rfl, hp, hq⟩ := hrel
    have HQ := Lib.hid hq
    clear hq
    by_cases hlt : pos < s.size
    · obtain ⟨c, hc⟩ : ∃ c, s[pos]'hlt = c := ⟨_, rfl⟩
      by_cases ha : c.toNat < 128
      · have hnx : ∀ ty, (Instr.next (.pointer (some ⟨w.heap.size, 0, none⟩)) true ty).run Try.prog (w.iter s pos) = _ := fun ty => run_next_any w s pos ty hlt
        rw [decode_ascii s pos hlt (by rw [hc]; exact ha)] at hnx
        simp only [hc] at hnx
        cases hk : okC c
        · have hbad := good_bad hlt (by rw [hc]; exact hk)
          have hk' : ¬ ((97 ≤ c.toNat ∧ c.toNat ≤ 122) ∨ (48 ≤ c.toNat ∧ c.toNat ≤ 57) ∨ c.toNat = 45) := fun h => by rw [(okC_iff c).2 h] at hk; cases hk
          have HBAD := Lib.hid hbad
          obtain ⟨X, hX⟩ : ∃ X : Int, (c.toNat : Int) = X := ⟨_, rfl⟩
          have hx : (X < 45) ∨ (45 < X ∧ X < 48) ∨ (57 < X ∧ X < 97) ∨ (122 < X) := by omega
          rw [hX] at hnx
          clear hX hc hk hbad hk' ha
          have e45 : (X != 45) = true := by simp; omega
          rcases hx with q1 | ⟨q1, q2⟩ | ⟨q1, q2⟩ | q1
          · go_wp2
            go_ret
            exact ⟨ret_bool HBAD.out.symm, _, rfl⟩
          · go_wp2
            go_ret
            exact ⟨ret_bool HBAD.out.symm, _, rfl⟩
          · go_wp2
            go_ret
            exact ⟨ret_bool HBAD.out.symm, _, rfl⟩
          · go_wp2
            go_ret
            exact ⟨ret_bool HBAD.out.symm, _, rfl⟩
        · have hk' := (okC_iff c).1 hk
          have HOK : Hid (okC (s[pos]'hlt) = true) := Lib.hid (by rw [hc]; exact hk)
          obtain ⟨X, hX⟩ : ∃ X : Int, (c.toNat : Int) = X := ⟨_, rfl⟩
          have hx : (97 ≤ X ∧ X ≤ 122) ∨ (48 ≤ X ∧ X ≤ 57) ∨ X = 45 := by omega
          rw [hX] at hnx
          clear hX hc hk hk' ha
          rcases hx with ⟨q1, q2⟩ | ⟨q1, q2⟩ | rfl
          · go_wp2
            go_roundw
            case rel =>
              refine ⟨pos + 1, rfl, by omega, fun j hj hj2 => ?_⟩
              rcases Nat.lt_or_ge j pos with h | h
              · exact HQ.out j hj h
              · obtain rfl : j = pos := by omega
                exact HOK.out
            case measure => simp; omega
          · go_wp2
            go_roundw
            case rel =>
              refine ⟨pos + 1, rfl, by omega, fun j hj hj2 => ?_⟩
              rcases Nat.lt_or_ge j pos with h | h
              · exact HQ.out j hj h
              · obtain rfl : j = pos := by omega
                exact HOK.out
            case measure => simp; omega
          · go_wp2
            go_roundw
            case rel =>
              refine ⟨pos + 1, rfl, by omega, fun j hj hj2 => ?_⟩
              rcases Nat.lt_or_ge j pos with h | h
              · exact HQ.out j hj h
              · obtain rfl : j = pos := by omega
                exact HOK.out
            case measure => simp; omega
      · have hnx : ∀ ty, (Instr.next (.pointer (some ⟨w.heap.size, 0, none⟩)) true ty).run Try.prog (w.iter s pos) = _ := fun ty => run_next_any w s pos ty hlt
        have hd := decode_high s pos hlt (by rw [hc]; omega)
        have hbad := good_bad hlt (show okC (s[pos]'hlt) = false by
          rw [hc]
          cases hk : okC c
          · rfl
          · have := (okC_iff c).1 hk; omega)
        have HBAD := Lib.hid hbad
        obtain ⟨X, hX⟩ : ∃ X : Int, ((Utf8.decode s pos).1 : Int) = X := ⟨_, rfl⟩
        have q1 : 122 < X := by omega
        have e45 : (X != 45) = true := by simp; omega
        rw [hX] at hnx
        clear hX hc ha hbad hd
        go_wp2
        go_ret
        exact ⟨ret_bool HBAD.out.symm, _, rfl⟩
    · have hnx : ∀ ty, (Instr.next (.pointer (some ⟨w.heap.size, 0, none⟩)) true ty).run Try.prog (w.iter s pos) = _ := fun ty => run_next_end w s pos ty hlt
      have hgo := good_end (s := s) (fun j hj => HQ.out j hj (by omega))
      by_cases h1 : s.size = 0
      · have hl : s.toList = [] := by
          rw [Lib.toList_data]
          exact List.eq_nil_of_length_eq_zero (by simpa using h1)
        have hl2 : (s.toList.isEmpty) = true := by rw [hl]; rfl
        have HGO : Hid (goodS s = false) := Lib.hid (by rw [hgo, h1]; rfl)
        clear hgo
        go_wp2
        go_ret
        exact ⟨ret_bool HGO.out.symm, _, rfl⟩
      · have hl2 : (s.toList.isEmpty) = false := by
          rw [Lib.toList_data]
          cases h : s.data.toList with
          | nil => exact absurd (by have := congrArg List.length h; simpa using this) h1
          | cons a l => rfl
        have hl : ¬ s.toList = [] := fun h => by rw [h] at hl2; cases hl2
        have HGO : Hid (goodS s = decide ((s.size : Int) ≤ 16)) := Lib.hid (by rw [hgo, show decide (1 ≤ s.size) = true from decide_eq_true (by omega), Bool.true_and]; exact decide_eq_decide.2 (by omega))
        clear hgo
        go_wp2
        go_ret
        exact ⟨ret_bool HGO.out.symm, _, rfl⟩

set_option maxRecDepth 100000 in
set_option maxHeartbeats 1000000 in
theorem xgood_any (s : ByteArray) (w : World) (hs : s.size ≤ 9223372036854775807) :
    Calls Try.prog 38 #[.string s] w fun e w' => e = .returned (.bool (goodS s)) ∧ w = w' := by
  go_enter Try.func38, Try.ntmps38
  go_wp2
  go_loop [3] (fun i => ∃ k : Nat, k ≤ s.size ∧ i = .int .i64 k ∧ ∀ j (hj : j < s.size), j < k → okC (s[j]'hj) = true) (fun i => s.size - (intOf i).toNat)
  case atStart => exact ⟨0, Nat.zero_le _, rfl, fun j _ h => absurd h (by omega)⟩
  case round =>
    obtain ⟨k, hk, rfl, hq⟩ := hrel
    have HQ := Lib.hid hq
    clear hq
    by_cases hlt : k < s.size
    · obtain ⟨c, hc⟩ : ∃ c, s[k]'hlt = c := ⟨_, rfl⟩
      cases hok : okC c
      · have hbad := good_bad hlt (by rw [hc]; exact hok)
        have hk' : ¬ ((97 ≤ c.toNat ∧ c.toNat ≤ 122) ∨ (48 ≤ c.toNat ∧ c.toNat ≤ 57) ∨ c.toNat = 45) := fun h => by rw [(okC_iff c).2 h] at hok; cases hok
        have HBAD := Lib.hid hbad
        have hx : ((c.toNat : Int) < 45) ∨ (45 < (c.toNat : Int) ∧ (c.toNat : Int) < 48) ∨ (57 < (c.toNat : Int) ∧ (c.toNat : Int) < 97) ∨ (122 < (c.toNat : Int)) := by omega
        have e45 : ((c.toNat : Int) == 45) = false := by simp; omega
        clear hok hbad hk'
        rcases hx with q1 | ⟨q1, q2⟩ | ⟨q1, q2⟩ | q1
        · go_wp2
          go_ret
          exact ⟨ret_bool HBAD.out.symm, rfl⟩
        · go_wp2
          go_ret
          exact ⟨ret_bool HBAD.out.symm, rfl⟩
        · have d1 : decide ((c.toNat : Int) ≤ 57) = false := by simp; omega
          go_wp2
          go_ret
          exact ⟨ret_bool HBAD.out.symm, rfl⟩
        · have d1 : decide ((c.toNat : Int) ≤ 57) = false := by simp; omega
          have d2 : decide ((c.toNat : Int) ≤ 122) = false := by simp; omega
          go_wp2
          go_ret
          exact ⟨ret_bool HBAD.out.symm, rfl⟩
      · have hk' := (okC_iff c).1 hok
        have HOK : Hid (okC (s[k]'hlt) = true) := Lib.hid (by rw [hc]; exact hok)
        clear hok
        rcases hk' with ⟨q1, q2⟩ | ⟨q1, q2⟩ | q1
        · go_wp2
          go_round
          case rel =>
            refine ⟨k + 1, by omega, by go_num, fun j hj hj2 => ?_⟩
            rcases Nat.lt_or_ge j k with h | h
            · exact HQ.out j hj h
            · obtain rfl : j = k := by omega
              exact HOK.out
          case measure => simp [intOf]; omega
        · go_wp2
          go_round
          case rel =>
            refine ⟨k + 1, by omega, by go_num, fun j hj hj2 => ?_⟩
            rcases Nat.lt_or_ge j k with h | h
            · exact HQ.out j hj h
            · obtain rfl : j = k := by omega
              exact HOK.out
          case measure => simp [intOf]; omega
        · go_wp2
          go_round
          case rel =>
            refine ⟨k + 1, by omega, by go_num, fun j hj hj2 => ?_⟩
            rcases Nat.lt_or_ge j k with h | h
            · exact HQ.out j hj h
            · obtain rfl : j = k := by omega
              exact HOK.out
          case measure => simp [intOf]; omega
    · have hgo := good_end (s := s) (fun j hj => HQ.out j hj (by omega))
      by_cases h1 : 1 ≤ s.size
      · have HGO : Hid (goodS s = decide ((s.size : Int) ≤ 16)) := Lib.hid (by rw [hgo, show decide (1 ≤ s.size) = true from decide_eq_true (by omega), Bool.true_and]; exact decide_eq_decide.2 (by omega))
        clear hgo
        go_wp2
        go_ret
        exact ⟨ret_bool HGO.out.symm, rfl⟩
      · have HGO : Hid (goodS s = false) := Lib.hid (by rw [hgo]; simp; omega)
        clear hgo
        go_wp2
        go_ret
        exact ⟨ret_bool HGO.out.symm, rfl⟩
end Go.Proofs.Ytjgdcdojigcefaa
