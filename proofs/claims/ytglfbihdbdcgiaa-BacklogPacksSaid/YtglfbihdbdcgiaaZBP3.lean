/- Joined: The contracts of package backlog's methods, fourth part: Back, Len, Out, News. The contracts of package backlog's methods, fifth part: Try. -/
import Derived.Test.YtglfbihdbdcgiaaZBP2
import Derived.BigRegion
namespace Go.Proofs.Ytglfbihdbdcgiaa
open Go.RowKit

set_option maxHeartbeats 400000 in
theorem len_nil (w : World) : Calls Try.prog 17 #[.pointer none] w fun e w' => e = .returned (.int .i64 0) ∧ w = w' := by
  go_enter Try.func17, Try.ntmps17
  go_wp2
  go_ret
  exact ⟨rfl, rfl⟩
set_option maxHeartbeats 400000 in
theorem len_any (B p : Nat) (rs : List (Int × Bool)) (out : Int) (w : World) (h : IsB w B p rs out) :
    Calls Try.prog 17 #[.pointer (some ⟨p, 0, none⟩)] w fun e w' => e = .returned (.int .i64 rs.length) ∧ w = w' := by
  obtain ⟨hB, v, hp, ho⟩ := h
  obtain ⟨A, c, rfl, hnc, hcm, hrd, hA⟩ := own_slice ho
  have hp0 := cell_at hp 0
  clear hrd hA ho hp hcm
  go_enter Try.func17, Try.ntmps17
  go_wp2
  go_ret
  exact ⟨rfl, rfl⟩
set_option maxHeartbeats 400000 in
theorem back_nil (n : Int) (w : World) : Calls Try.prog 16 #[.pointer none, .int .i64 n] w fun e w' => e = .returned (.bool false) ∧ w = w' := by
  go_enter Try.func16, Try.ntmps16
  go_wp2
  go_ret
  exact ⟨rfl, rfl⟩
/-- Who is out behind Back. -/
def backO (out n : Int) : Int := if out = 0 ∨ out ≠ n then out else 0
def backB (out n : Int) : Bool := !(out == 0 || out != n)
set_option maxHeartbeats 400000 in
theorem back_no (n : Int) (B p : Nat) (rs : List (Int × Bool)) (out : Int) (w : World) (h : IsB w B p rs out) (hn : out = 0 ∨ out ≠ n) :
    Calls Try.prog 16 #[.pointer (some ⟨p, 0, none⟩), .int .i64 n] w fun e w' => e = .returned (.bool false) ∧ Below w.heap.size w w' := by
  obtain ⟨hB, v, hp, ho⟩ := h
  have hp1 := cell_at hp 1
  clear ho hp
  by_cases h0 : out = 0
  · subst h0
    clear hn
    go_enter Try.func16, Try.ntmps16
    go_wp2
    go_ret
    exact ⟨rfl, Below.refl _ _⟩
  · have h1 : out ≠ n := by omega
    have e0 : (out == 0) = false := by simpa using h0
    have e1 : (out != n) = true := by simpa using h1
    clear hn h0 h1
    go_enter Try.func16, Try.ntmps16
    go_wp2
    go_ret
    exact ⟨rfl, Below.refl _ _⟩
set_option maxHeartbeats 400000 in
theorem back_yes (n : Int) (B p : Nat) (rs : List (Int × Bool)) (w : World) (h : IsB w B p rs n) (hn : n ≠ 0) :
    Calls Try.prog 16 #[.pointer (some ⟨p, 0, none⟩), .int .i64 n] w fun e w' => e = .returned (.bool true) ∧ IsB w' B p rs 0 ∧ FrB B w w' := by
  obtain ⟨hB, v, hp, ho⟩ := h
  have hp1 := cell_at hp 1
  have hpf := frozen_at hp 1
  have e0 : (n == 0) = false := by simpa using hn
  have e1 : (n != n) = false := by simp
  have HO := Lib.hid ho
  have HP := Lib.hid hp
  clear ho hp hn
  go_enter Try.func16, Try.ntmps16
  go_wp2
  go_ret
  have hf : Fr B [58] [] w (w.setCell ⟨p, 1, none⟩ (.int .i64 0)) := (Fr.refl w).setCell _ hB (.inr ⟨_, _, _, HP.out, by simp⟩)
  exact ⟨rfl, ⟨hB, v, block_set HP.out 1 _, hf.own HO.out (by simp) (by simp)⟩, hf.mono (Nat.le_refl _) (by simp) (by simp)⟩

set_option maxHeartbeats 400000 in
theorem news_nil (w : World) : Calls Try.prog 13 #[.pointer none] w fun e w' => e = .returned (.tuple #[]) ∧ w = w' := by
  go_enter Try.func13, Try.ntmps13
  go_wp2
  refine bodyPost_ret (results_none rfl _ _ _) rfl ?_
  exact ⟨rfl, rfl⟩

/-- A row behind News. -/
def newsRow (out : Int) (r : Int × Bool) : Int × Bool := (r.1, r.2 || r.1 != out)
def newsTo (out : Int) (rs : List (Int × Bool)) (k : Nat) : List (Int × Bool) := (rs.take k).map (newsRow out) ++ rs.drop k
theorem newsTo_length (out : Int) (rs : List (Int × Bool)) (k : Nat) : (newsTo out rs k).length = rs.length := by simp [newsTo]; omega
theorem flat_set (rs : List (Int × Bool)) (k : Nat) (h : k < rs.length) (b : Bool) : (flat rs).set (k * 2 + 1) (.bool b) = flat (rs.set k (rs[k].1, b)) := by
  induction rs generalizing k with
  | nil => simp at h
  | cons r rs ih =>
    cases k with
    | zero => simp [flat]
    | succ k =>
      have := ih k (by simpa using h)
      simp only [flat, List.flatMap_cons, Nat.succ_mul, List.set_cons_succ, List.getElem_cons_succ] at this ⊢
      rw [← this]
      simp [Nat.add_right_comm _ 2 1]
theorem newsTo_succ (out : Int) (rs : List (Int × Bool)) (k : Nat) (h : k < rs.length) : newsTo out rs (k + 1) = (newsTo out rs k).set k (newsRow out rs[k]) := by
  apply List.ext_getElem
  · simp [newsTo_length]
  · intro i h1 h2
    rw [newsTo_length] at h1
    rw [List.getElem_set]
    simp only [newsTo, List.getElem_append, List.length_map, List.length_take, List.getElem_map, List.getElem_take, List.getElem_drop]
    rcases Nat.lt_trichotomy i k with hi | hi | hi
    · rw [dif_pos (by omega), if_neg (by omega), dif_pos (by omega)]
    · subst hi
      rw [dif_pos (by omega), if_pos rfl]
    · rw [dif_neg (by omega), if_neg (by omega), dif_neg (by omega)]
      congr 1
      omega
theorem newsTo_at (out : Int) (rs : List (Int × Bool)) (k : Nat) (h : k < rs.length) : (newsTo out rs k)[k]'(by rw [newsTo_length]; exact h) = rs[k] := by
  simp only [newsTo, List.getElem_append, List.length_map, List.length_take, List.getElem_drop]
  rw [dif_neg (by omega)]
  congr 1
  omega
theorem newsTo_all (out : Int) (rs : List (Int × Bool)) : newsTo out rs rs.length = rs.map (newsRow out) := by simp [newsTo]

set_option maxHeartbeats 2000000 in
theorem news_any (B p : Nat) (rs : List (Int × Bool)) (out : Int) (w : World) (h : IsB w B p rs out) :
    Calls Try.prog 13 #[.pointer (some ⟨p, 0, none⟩)] w fun e w' => e = .returned (.tuple #[]) ∧ IsB w' B p (rs.map (newsRow out)) out ∧ FrB B w w' := by
  obtain ⟨hB, v, hp, ho⟩ := h
  obtain ⟨A, c, rfl, hnc, hcm, hrd, hA⟩ := own_slice ho
  have hm : rs.length ≤ 9223372036854775807 := by have := Nat.le_trans hnc hcm; unfold maxLen at this; omega
  have hp0 := cell_at hp 0
  have HO := Lib.hid ho
  have HP := Lib.hid hp
  clear hrd hA ho hp hcm hnc
  go_enter Try.func13, Try.ntmps13
  go_wp2
  go_loopw [11] (fun i wr => ∃ k : Nat, k ≤ rs.length ∧ i = .int .i64 k ∧ wr.heap[p]? = some (.cells #[.slice A rs.length c, .int .i64 out] 58 (0, 0)) ∧ wr.ownsRow B 60 2 (.slice A rs.length c) rs.length (flat (newsTo out rs k)) ∧ FrB B w wr) (fun i _ => rs.length - (intOf i).toNat)
  case atStart => exact ⟨0, Nat.zero_le _, rfl, HP.out, by simpa [newsTo] using HO.out, Fr.refl _⟩
  case round =>
    obtain ⟨k, hk, rfl, hp, ho, hf⟩ := hrel
    have hp0 := cell_at hp 0
    have hp1 := cell_at hp 1
    have HOk := Lib.hid ho
    have HPk := Lib.hid hp
    by_cases hlt : k < rs.length
    · obtain ⟨n', hn'⟩ : ∃ n', rs.length = n' + 1 := ⟨rs.length - 1, by omega⟩
      obtain ⟨g, c', hv⟩ := own_succ (n := n') (by rw [← hn']; exact ho)
      obtain ⟨rfl, _, rfl⟩ : A = some ⟨g, 0, none⟩ ∧ rs.length = n' + 1 ∧ c = c' := by injection hv with a b c; exact ⟨a, b, c⟩
      clear hv hn'
      have hcs := ho.cells (g := g) rfl
      have hlk : k < (newsTo out rs k).length := by rw [newsTo_length]; exact hlt
      have c0 : wr.cell? ⟨g, k * 2, none⟩ = some (.int .i64 rs[k].1) := by
        have := hcs (k * 2) _ (flat_fst hlk)
        rw [newsTo_at out rs k hlt] at this
        simpa [Addr.add_lit] using this
      have c1 : wr.cell? ⟨g, k * 2 + 1, none⟩ = some (.bool rs[k].2) := by
        have := hcs (k * 2 + 1) _ (flat_snd hlk)
        rw [newsTo_at out rs k hlt] at this
        simpa [Addr.add_lit] using this
      obtain ⟨_, cur, hgb⟩ := own_block ho (k := g) rfl
      have f1 := frozen_at hgb (k * 2 + 1)
      have HG := Lib.hid hgb
      clear ho hp hcs hgb
      have HF := Lib.hid hf
      clear hf
      have hend : ∀ u : Bool, newsRow out rs[k] = (rs[k].1, u) → (wr.drew.setCell ⟨g, k * 2 + 1, none⟩ (.bool u)).heap[p]? = some (.cells #[.slice (some ⟨g, 0, none⟩) rs.length c, .int .i64 out] 58 (0, 0)) ∧ (wr.drew.setCell ⟨g, k * 2 + 1, none⟩ (.bool u)).ownsRow B 60 2 (.slice (some ⟨g, 0, none⟩) rs.length c) rs.length (flat (newsTo out rs (k + 1))) ∧ FrB B w (wr.drew.setCell ⟨g, k * 2 + 1, none⟩ (.bool u)) := by
        intro u hu
        obtain ⟨hBg, _⟩ := own_block HOk.out (k := g) rfl
        refine ⟨block_far (w := wr.drew) HPk.out (p := ⟨g, k * 2 + 1, none⟩) (fun e => own_ne HOk.out HPk.out (by decide) (by rw [e]; rfl)) _, ?_, HF.out.drew.setCell _ hBg (.inr ⟨_, _, _, HG.out, by simp⟩)⟩
        have h1 : wr.drew.ownsRow B 60 2 (.slice (some ⟨g, 0, none⟩) rs.length c) rs.length (flat (newsTo out rs k)) := HOk.out
        have h2 := own_set h1 (i := k * 2 + 1) (by omega) (.bool u)
        rw [flat_set _ _ hlk, newsTo_at out rs k hlt] at h2
        rw [newsTo_succ out rs k hlt, hu]
        exact h2
      have HE := Lib.hid hend
      clear hend
      by_cases hr : rs[k].2 = true
      · have hrow : newsRow out rs[k] = (rs[k].1, true) := by simp [newsRow, hr]
        have HR := Lib.hid hrow
        clear hrow
        go_wp2
        go_region
        all_goals (go_wp2; go_roundw)
        case rel => exact ⟨k + 1, by omega, by go_num, HE.out _ HR.out⟩
        case measure => simp [intOf]; omega
      · have hr' : rs[k].2 = false := by simpa using hr
        clear hr
        by_cases ho : rs[k].1 = out
        · have hrow : newsRow out rs[k] = (rs[k].1, false) := by simp [newsRow, hr', ho]
          have HR := Lib.hid hrow
          have e1 : (rs[k].1 != out) = false := by simpa using ho
          clear hrow ho
          go_wp2
          go_region
          all_goals (go_wp2; go_roundw)
          case rel => exact ⟨k + 1, by omega, by go_num, HE.out _ HR.out⟩
          case measure => simp [intOf]; omega
        · have hrow : newsRow out rs[k] = (rs[k].1, true) := by simp [newsRow, hr', ho]
          have HR := Lib.hid hrow
          have e1 : (rs[k].1 != out) = true := by simpa using ho
          clear hrow ho
          go_wp2
          go_region
          all_goals (go_wp2; go_roundw)
          case rel => exact ⟨k + 1, by omega, by go_num, HE.out _ HR.out⟩
          case measure => simp [intOf]; omega
    · go_wp2
      go_end0
      refine ⟨rfl, ⟨hB, _, HPk.out, ?_⟩, hf⟩
      obtain rfl : k = rs.length := by omega
      have := HOk.out
      rw [newsTo_all] at this
      simpa using this
end Go.Proofs.Ytglfbihdbdcgiaa

namespace Go.Proofs.Ytglfbihdbdcgiaa
open Go.RowKit

set_option maxHeartbeats 400000 in
theorem try_nil (w : World) : Calls Try.prog 14 #[.pointer none] w fun e w' => e = .returned (.tuple #[.int .i64 0, .bool false]) ∧ w = w' := by
  go_enter Try.func14, Try.ntmps14
  go_wp2
  go_ret2
  exact ⟨rfl, rfl⟩

set_option maxHeartbeats 400000 in
theorem try_out (B p : Nat) (rs : List (Int × Bool)) (out : Int) (w : World) (h : IsB w B p rs out) (h0 : out ≠ 0) :
    Calls Try.prog 14 #[.pointer (some ⟨p, 0, none⟩)] w fun e w' => e = .returned (.tuple #[.int .i64 0, .bool false]) ∧ Below w.heap.size w w' := by
  obtain ⟨hB, v, hp, ho⟩ := h
  have hp1 := cell_at hp 1
  have e0 : (out != 0) = true := by simpa using h0
  clear ho hp h0
  go_enter Try.func14, Try.ntmps14
  go_wp2
  go_ret2
  exact ⟨rfl, Below.refl _ _⟩

set_option maxHeartbeats 1000000 in
theorem try_none (B p : Nat) (rs : List (Int × Bool)) (w : World) (h : IsB w B p rs 0) (hx : idx (fun r => r.2) rs = -1) :
    Calls Try.prog 14 #[.pointer (some ⟨p, 0, none⟩)] w fun e w' => e = .returned (.tuple #[.int .i64 0, .bool false]) ∧ Below w.heap.size w w' := by
  obtain ⟨hB, v, hp, ho⟩ := h
  obtain ⟨A, c, rfl, hnc, hcm, hrd, hA⟩ := own_slice ho
  have hp0 := cell_at hp 0
  have hp1 := cell_at hp 1
  have hc := fun (w : World) (h : Rd w 2 A rs.length (flat rs)) => indexTry rs A c w (Nat.le_trans hnc hcm) h
  rw [hx] at hc
  have HC := Lib.hid hc
  have HR := Lib.hid hrd
  clear ho hp hrd hA hc hx hcm
  go_enter Try.func14, Try.ntmps14
  go_wp2_with (go_at_call 32; refine (HC.out _ HR.out).mono ?_; rintro e w1 ⟨rfl, hb1⟩)
  go_ret2
  exact ⟨rfl, hb1⟩

theorem idx_found {q : Int × Bool → Bool} {rs : List (Int × Bool)} {k : Nat} (h : idx q rs = k) : ∃ hk : k < rs.length, q rs[k] = true ∧ ∀ j (hj : j < k), q (rs[j]'(by omega)) = false := by
  unfold idx at h
  cases hf : rs.findIdx? q with
  | none => rw [hf] at h; simp at h
  | some i =>
    rw [hf] at h
    simp only at h
    obtain rfl : i = k := by omega
    obtain ⟨hk, h1, h2⟩ := List.findIdx?_eq_some_iff_getElem.1 hf
    exact ⟨hk, h1, fun j hj => by simpa using h2 j hj⟩

theorem try_end {w w1 : World} {B p g c k : Nat} {rs : List (Int × Bool)} (hb1 : Below w.heap.size w w1) (hB : B ≤ p) (hk : k < rs.length) (hBg : B ≤ g) {cur : Array Value} (hg : w1.heap[g]? = some (.cells cur 60 (0, 0)))
    (ho : w1.ownsRow B 60 2 (.slice (some ⟨g, 0, none⟩) rs.length c) rs.length (flat rs)) (hp : w1.heap[p]? = some (.cells #[.slice (some ⟨g, 0, none⟩) rs.length c, .int .i64 0] 58 (0, 0))) (w2 : World)
    (hw : w2 = (w1.drew.setCell ⟨g, k * 2 + 1, none⟩ (.bool false)).setCell ⟨p, 1, none⟩ (.int .i64 rs[k].1)) :
    IsB w2 B p (rs.set k (rs[k].1, false)) rs[k].1 ∧ FrB B w w2 := by
  subst hw
  have hne : p ≠ g := block_ne hp hg (by decide)
  have h1 : w1.drew.ownsRow B 60 2 (.slice (some ⟨g, 0, none⟩) rs.length c) rs.length (flat rs) := ho
  have h2 := own_set h1 (i := k * 2 + 1) (by omega) (.bool false)
  rw [flat_set _ _ hk] at h2
  have hp2 : (w1.drew.setCell ⟨g, k * 2 + 1, none⟩ (.bool false)).heap[p]? = _ := block_far (w := w1.drew) hp (p := ⟨g, k * 2 + 1, none⟩) hne _
  have h3 := ((Fr.refl (B := B) (T := [58]) (S := []) (w1.drew.setCell ⟨g, k * 2 + 1, none⟩ (.bool false))).setCell (p := ⟨p, 1, none⟩) (.int .i64 rs[k].1) hB (.inr ⟨_, _, _, hp2, by simp⟩)).own h2 (by decide) (by simp)
  refine ⟨⟨hB, _, block_set hp2 1 _, ?_⟩, ?_⟩
  · simpa using h3
  · have h4 : FrB B w (w1.drew.setCell ⟨g, k * 2 + 1, none⟩ (.bool false)) := (Fr.of_below hb1).drew.setCell _ hBg (.inr ⟨_, _, _, hg, by simp⟩)
    exact h4.setCell _ hB (.inr ⟨_, _, _, hp2, by simp⟩)

set_option maxHeartbeats 2000000 in
theorem try_some (B p : Nat) (rs : List (Int × Bool)) (w : World) (h : IsB w B p rs 0) (k : Nat) (hk : k < rs.length) (hx : idx (fun r => r.2) rs = k) :
    Calls Try.prog 14 #[.pointer (some ⟨p, 0, none⟩)] w fun e w' => e = .returned (.tuple #[.int .i64 rs[k].1, .bool true]) ∧ IsB w' B p (rs.set k (rs[k].1, false)) rs[k].1 ∧ FrB B w w' := by
  obtain ⟨hB, v, hp, ho⟩ := h
  obtain ⟨n', hn'⟩ : ∃ n', rs.length = n' + 1 := ⟨rs.length - 1, by omega⟩
  obtain ⟨g, c, hv⟩ := own_succ (n := n') (by rw [← hn']; exact ho)
  rw [← hn'] at hv
  subst hv
  clear hn'
  obtain ⟨A, c', hv', hnc, hcm, hrd, hA⟩ := own_slice ho
  obtain ⟨rfl, rfl⟩ : A = some ⟨g, 0, none⟩ ∧ c' = c := by injection hv' with a b c; exact ⟨a.symm, c.symm⟩
  clear hv' hA
  have hp0 := cell_at hp 0
  have hp1 := cell_at hp 1
  have hc := fun (w : World) (h : Rd w 2 (some ⟨g, 0, none⟩) rs.length (flat rs)) => indexTry rs (some ⟨g, 0, none⟩) c' w (Nat.le_trans hnc hcm) h
  rw [hx] at hc
  have hm : rs.length ≤ 9223372036854775807 := by have := Nat.le_trans hnc hcm; unfold maxLen at this; omega
  have HC := Lib.hid hc
  have HR := Lib.hid hrd
  have HO := Lib.hid ho
  have HP := Lib.hid hp
  clear ho hp hrd hc hx hcm
  go_enter Try.func14, Try.ntmps14
  go_wp2_with fail
  refine (HC.out _ HR.out).mono ?_
  rintro e w1 ⟨rfl, hb1⟩
  have ho1 := (Fr.of_below (B := B) (T := []) (S := []) hb1).own HO.out (by simp) (by simp)
  have hp1 := (Fr.of_below (B := B) (T := []) (S := []) hb1).keep HP.out (by simp) (by simp)
  have hp10 := cell_at hp1 0
  have hp11 := cell_at hp1 1
  have hpf := frozen_at hp1 1
  have hcs := ho1.cells (g := g) rfl
  have c0 : w1.cell? ⟨g, k * 2, none⟩ = some (.int .i64 rs[k].1) := by simpa [Addr.add_lit] using hcs (k * 2) _ (flat_fst hk)
  have c1 : w1.cell? ⟨g, k * 2 + 1, none⟩ = some (.bool rs[k].2) := by simpa [Addr.add_lit] using hcs (k * 2 + 1) _ (flat_snd hk)
  obtain ⟨hBg, cur, hgb⟩ := own_block ho1 (k := g) rfl
  have f1 := frozen_at hgb (k * 2 + 1)
  have hpg : p ≠ g := block_ne hp1 hgb (by decide)
  have HG := Lib.hid hgb
  have HO1 := Lib.hid ho1
  have HP1 := Lib.hid hp1
  clear ho1 hp1 hcs hgb
  go_wp2_with fail
  go_region
  go_wp2
  go_ret2
  obtain ⟨r1, r2⟩ := try_end hb1 hB hk hBg HG.out HO1.out HP1.out _ rfl
  exact ⟨rfl, r1, r2⟩

end Go.Proofs.Ytglfbihdbdcgiaa
