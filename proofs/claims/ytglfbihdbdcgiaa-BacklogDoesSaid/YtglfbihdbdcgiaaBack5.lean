/- The contracts of package backlog's methods, fifth part: Try. -/
import Derived.Test.YtglfbihdbdcgiaaBack4
import Derived.BigRegion
namespace Go.Proofs.Ytglfbihdbdcgiaa
open Go.RowKit

set_option maxHeartbeats 400000 in
theorem try_nil (w : World) : Calls Try.prog 14 #[.pointer none] w fun e w' => e = .returned (.tuple #[.int .i64 0, .bool false]) ∧ w = w' := by
  go_enter Try.func14, Try.ntmps14
  go_wp2
  go_ret2
  exact ⟨rfl, rfl⟩

set_option maxHeartbeats 400000 in
theorem try_out (B p : Nat) (rs : List (Int × Bool)) (out : Int) (w : World) (h : IsB w B p rs out) (h0 : out ≠ 0) :
    Calls Try.prog 14 #[.pointer (some ⟨p, 0, none⟩)] w fun e w' => e = .returned (.tuple #[.int .i64 0, .bool false]) ∧ Below w.heap.size w w' := by
  obtain ⟨hB, v, hp, ho⟩ := h
  have hp1 := cell_at hp 1
  have e0 : (out != 0) = true := by simpa using h0
  clear ho hp h0
  go_enter Try.func14, Try.ntmps14
  go_wp2
  go_ret2
  exact ⟨rfl, Below.refl _ _⟩

set_option maxHeartbeats 1000000 in
theorem try_none (B p : Nat) (rs : List (Int × Bool)) (w : World) (h : IsB w B p rs 0) (hx : idx (fun r => r.2) rs = -1) :
    Calls Try.prog 14 #[.pointer (some ⟨p, 0, none⟩)] w fun e w' => e = .returned (.tuple #[.int .i64 0, .bool false]) ∧ Below w.heap.size w w' := by
  obtain ⟨hB, v, hp, ho⟩ := h
  obtain ⟨A, c, rfl, hnc, hcm, hrd, hA⟩ := own_slice ho
  have hp0 := cell_at hp 0
  have hp1 := cell_at hp 1
  have hc := fun (w : World) (h : Rd w 2 A rs.length (flat rs)) => indexTry rs A c w (Nat.le_trans hnc hcm) h
  rw [hx] at hc
  have HC := Lib.hid hc
  have HR := Lib.hid hrd
  clear ho hp hrd hA hc hx hcm
  go_enter Try.func14, Try.ntmps14
  go_wp2_with (go_at_call 32; refine (HC.out _ HR.out).mono ?_; rintro e w1 ⟨rfl, hb1⟩)
  go_ret2
  exact ⟨rfl, hb1⟩

theorem idx_found {q : Int × Bool → Bool} {rs : List (Int × Bool)} {k : Nat} (h : idx q rs = k) : ∃ hk : k < rs.length, q rs[k] = true ∧ ∀ j (hj : j < k), q (rs[j]'(by omega)) = false := by
  unfold idx at h
  cases hf : rs.findIdx? q with
  | none => rw [hf] at h; simp at h
  | some i =>
    rw [hf] at h
    simp only at h
    obtain rfl : i = k := by omega
    obtain ⟨hk, h1, h2⟩ := List.findIdx?_eq_some_iff_getElem.1 hf
    exact ⟨hk, h1, fun j hj => by simpa using h2 j hj⟩

theorem try_end {w w1 : World} {B p g c k : Nat} {rs : List (Int × Bool)} (hb1 : Below w.heap.size w w1) (hB : B ≤ p) (hk : k < rs.length) (hBg : B ≤ g) {cur : Array Value} (hg : w1.heap[g]? = some (.cells cur 60 (0, 0)))
    (ho : w1.ownsRow B 60 2 (.slice (some ⟨g, 0, none⟩) rs.length c) rs.length (flat rs)) (hp : w1.heap[p]? = some (.cells #[.slice (some ⟨g, 0, none⟩) rs.length c, .int .i64 0] 58 (0, 0))) (w2 : World)
    (hw : w2 = (w1.drew.setCell ⟨g, k * 2 + 1, none⟩ (.bool false)).setCell ⟨p, 1, none⟩ (.int .i64 rs[k].1)) :
    IsB w2 B p (rs.set k (rs[k].1, false)) rs[k].1 ∧ FrB B w w2 := by
  subst hw
  have hne : p ≠ g := block_ne hp hg (by decide)
  have h1 : w1.drew.ownsRow B 60 2 (.slice (some ⟨g, 0, none⟩) rs.length c) rs.length (flat rs) := ho
  have h2 := own_set h1 (i := k * 2 + 1) (by omega) (.bool false)
  rw [flat_set _ _ hk] at h2
  have hp2 : (w1.drew.setCell ⟨g, k * 2 + 1, none⟩ (.bool false)).heap[p]? = _ := block_far (w := w1.drew) hp (p := ⟨g, k * 2 + 1, none⟩) hne _
  have h3 := ((Fr.refl (B := B) (T := [58]) (S := []) (w1.drew.setCell ⟨g, k * 2 + 1, none⟩ (.bool false))).setCell (p := ⟨p, 1, none⟩) (.int .i64 rs[k].1) hB (.inr ⟨_, _, _, hp2, by simp⟩)).own h2 (by decide) (by simp)
  refine ⟨⟨hB, _, block_set hp2 1 _, ?_⟩, ?_⟩
  · simpa using h3
  · have h4 : FrB B w (w1.drew.setCell ⟨g, k * 2 + 1, none⟩ (.bool false)) := (Fr.of_below hb1).drew.setCell _ hBg (.inr ⟨_, _, _, hg, by simp⟩)
    exact h4.setCell _ hB (.inr ⟨_, _, _, hp2, by simp⟩)

set_option maxHeartbeats 2000000 in
theorem try_some (B p : Nat) (rs : List (Int × Bool)) (w : World) (h : IsB w B p rs 0) (k : Nat) (hk : k < rs.length) (hx : idx (fun r => r.2) rs = k) :
    Calls Try.prog 14 #[.pointer (some ⟨p, 0, none⟩)] w fun e w' => e = .returned (.tuple #[.int .i64 rs[k].1, .bool true]) ∧ IsB w' B p (rs.set k (rs[k].1, false)) rs[k].1 ∧ FrB B w w' := by
  obtain ⟨hB, v, hp, ho⟩ := h
  obtain ⟨n', hn'⟩ : ∃ n', rs.length = n' + 1 := ⟨rs.length - 1, by omega⟩
  obtain ⟨g, c, hv⟩ := own_succ (n := n') (by rw [← hn']; exact ho)
  rw [← hn'] at hv
  subst hv
  clear hn'
  obtain ⟨A, c', hv', hnc, hcm, hrd, hA⟩ := own_slice ho
  obtain ⟨rfl, rfl⟩ : A = some ⟨g, 0, none⟩ ∧ c' = c := by injection hv' with a b c; exact ⟨a.symm, c.symm⟩
  clear hv' hA
  have hp0 := cell_at hp 0
  have hp1 := cell_at hp 1
  have hc := fun (w : World) (h : Rd w 2 (some ⟨g, 0, none⟩) rs.length (flat rs)) => indexTry rs (some ⟨g, 0, none⟩) c' w (Nat.le_trans hnc hcm) h
  rw [hx] at hc
  have hm : rs.length ≤ 9223372036854775807 := by have := Nat.le_trans hnc hcm; unfold maxLen at this; omega
  have HC := Lib.hid hc
  have HR := Lib.hid hrd
  have HO := Lib.hid ho
  have HP := Lib.hid hp
  clear ho hp hrd hc hx hcm
  go_enter Try.func14, Try.ntmps14
  go_wp2_with fail
  refine (HC.out _ HR.out).mono ?_
  rintro e w1 ⟨rfl, hb1⟩
  have ho1 := (Fr.of_below (B := B) (T := []) (S := []) hb1).own HO.out (by simp) (by simp)
  have hp1 := (Fr.of_below (B := B) (T := []) (S := []) hb1).keep HP.out (by simp) (by simp)
  have hp10 := cell_at hp1 0
  have hp11 := cell_at hp1 1
  have hpf := frozen_at hp1 1
  have hcs := ho1.cells (g := g) rfl
  have c0 : w1.cell? ⟨g, k * 2, none⟩ = some (.int .i64 rs[k].1) := by simpa [Addr.add_lit] using hcs (k * 2) _ (flat_fst hk)
  have c1 : w1.cell? ⟨g, k * 2 + 1, none⟩ = some (.bool rs[k].2) := by simpa [Addr.add_lit] using hcs (k * 2 + 1) _ (flat_snd hk)
  obtain ⟨hBg, cur, hgb⟩ := own_block ho1 (k := g) rfl
  have f1 := frozen_at hgb (k * 2 + 1)
  have hpg : p ≠ g := block_ne hp1 hgb (by decide)
  have HG := Lib.hid hgb
  have HO1 := Lib.hid ho1
  have HP1 := Lib.hid hp1
  clear ho1 hp1 hcs hgb
  go_wp2_with fail
  go_region
  go_wp2
  go_ret2
  obtain ⟨r1, r2⟩ := try_end hb1 hB hk hBg HG.out HO1.out HP1.out _ rfl
  exact ⟨rfl, r1, r2⟩

end Go.Proofs.Ytglfbihdbdcgiaa
