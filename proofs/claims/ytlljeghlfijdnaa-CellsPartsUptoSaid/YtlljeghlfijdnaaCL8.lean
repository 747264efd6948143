/- The law CellsJoins: any texts, joined; they are split again. The walk. -/
import Derived.Test.YtlljeghlfijdnaaCL1
import Derived.Test.YtlljeghlfijdnaaCRSplit
import Derived.Test.YtlljeghlfijdnaaCRJoin
namespace Go.Proofs.Ytlljeghlfijdnaa
open Go.RowKit

/-- The k-th of byte slices in memory. -/
theorem Bss.at_ {w : World} {A : Option Addr} {n c : Nat} {l : List (List Nat)} (h : Bss w (.slice A n c) l) : n = l.length ∧ ∀ k (hk : k < l.length), ∃ g o Ak ck, A = some ⟨g, o, none⟩ ∧ g < w.heap.size ∧ w.cell? ⟨g, o + k, none⟩ = some (.slice Ak (l[k]).length ck) ∧ (l[k]).length ≤ ck ∧ ck ≤ maxLen ∧ Rd w 1 Ak (l[k]).length ((l[k]).map u8v) := by
  obtain ⟨A', c', hs, e, hlc, hcm, hr, hbs⟩ := h
  injection e with e1 e2 e3
  subst e1; subst e2; subst e3
  refine ⟨rfl, fun k hk => ?_⟩
  have hl0 : hs.length = l.length := by simpa using hr.1
  obtain ⟨g, o, ha, hg, hc⟩ := hr.2 (by omega)
  obtain ⟨Ak, ck, e1, e2, e3, e4⟩ := hbs k hk hs[k] (by simp [hl0, hk])
  exact ⟨g, o, Ak, ck, ha, hg, by rw [hc k hs[k] (by simp [hl0, hk]), e1], e2, e3, e4⟩
theorem joinB_lt {l : List (List Nat)} (h : ∀ x ∈ l, ∀ b ∈ x, b < 256) : ∀ b ∈ joinB l, b < 256 := by
  intro b hb
  unfold joinB at hb
  obtain ⟨x, hx, hb⟩ := List.mem_flatten.1 hb
  obtain ⟨y, hy, rfl⟩ := List.mem_map.1 hx
  unfold cellB at hb
  rcases List.mem_append.1 hb with hb | hb
  · exact numB_lt _ _ hb
  · exact h y hy b hb
theorem joinB_len {l : List (List Nat)} : ∀ x ∈ l, x.length ≤ (joinB l).length := by
  intro x hx
  induction l with
  | nil => cases hx
  | cons y l ih =>
    rw [joinB_cons]
    simp only [List.length_append]
    rcases List.mem_cons.1 hx with rfl | hx
    · omega
    · have := ih hx
      omega

set_option maxRecDepth 100000 in
set_option maxHeartbeats 4000000 in
theorem joins_any (A : Option Addr) (c : Nat) (l : List (List Nat)) (w : World) (hv : Bss w (.slice A l.length c) l) (h256 : ∀ x ∈ l, ∀ b ∈ x, b < 256) (ht : (joinB l).length ≤ 4294967296) :
    Calls Try.prog 10 #[.slice A l.length c] w fun e w' => e = .returned (.bool true) ∧ Below w.heap.size w w' := by
  have HV := Lib.hid hv
  have H256 := Lib.hid h256
  have hJlt := joinB_lt h256
  have hJlen := joinB_len (l := l)
  obtain ⟨J, hJ⟩ : ∃ J, joinB l = J := ⟨_, rfl⟩
  obtain ⟨S, hS⟩ : ∃ S, strOf J = S := ⟨_, rfl⟩
  have HJoin : Hid (∀ w', Below w.heap.size w w' → Calls Try.prog 36 #[.slice A l.length c] w' (RetO J w')) := Lib.hid (fun w' b => hJ ▸ join_any _ l w' (hv.below b) (by omega))
  have HRJoin : Hid (∀ w', Below w.heap.size w w' → Calls Try.prog 38 #[.slice A l.length c] w' (RetO J w')) := Lib.hid (fun w' b => hJ ▸ rjoin_any _ l w' (hv.below b) (by omega))
  have HA := Lib.hid (hv.at_).2
  have hlm : l.length ≤ 9223372036854775807 := by
    obtain ⟨_, c0, _, e, h1, h2, _, _⟩ := hv
    unfold maxLen at h2
    omega
  rw [hJ] at hJlt hJlen ht
  have HJ := Lib.hid hJ
  have HS := Lib.hid hS
  have HJlt := Lib.hid hJlt
  have HJlen := Lib.hid hJlen
  clear hv h256 hJlt hJlen hJ hS
  go_enter Try.func10, Try.ntmps10
  go_wp2_with fail
  refine (HJoin.out w (Below.refl _ _)).mono ?_
  rintro e w1 ⟨v1, rfl, ho1, hb1⟩
  obtain ⟨A1, c1, rfl, k1, k2, k3, _⟩ := own_slice ho1
  have HR1 := Lib.hid k3
  have HK1 := Lib.hid k2
  have HB1 := Lib.hid hb1
  have hc1 : c1 ≤ 9223372036854775807 := by unfold maxLen at k2; omega
  clear ho1 hb1 k2 k3
  go_wp2_with fail
  refine (split_any A1 c1 J w1 HR1.out HJlt.out k1 HK1.out ht).mono ?_
  rintro e w2 ⟨hb2, hres⟩
  have HB2 := Lib.hid (HB1.out.trans (hb2.mono HB1.out.size))
  have HR2 := Lib.hid (HR1.out.below hb2)
  obtain ⟨v2, rfl, hx2⟩ : ∃ v, e = .returned (.tuple #[v, .int .i64 0]) ∧ Bss w2 v l := by
    rcases hres with ⟨v, xs, h1, h2, h3, h4⟩ | ⟨xs, r, h1, h2, h3, h4⟩
    · have := joinB_one_way xs l [] (fun x hx => by have := h4 x hx; omega) (fun x hx => by have := HJlen.out x hx; omega) (.inl rfl) (by rw [h3, HJ.out, List.append_nil])
      obtain ⟨rfl, _⟩ := this
      exact ⟨v, h1, h2⟩
    · have := joinB_one_way l xs r (fun x hx => by have := HJlen.out x hx; omega) (fun x hx => by have := h4 x hx; omega) (.inr h3) (by rw [h2, HJ.out])
      exact absurd this.2 h3.1
  obtain ⟨A2, c2, hs2, rfl, q1, q2, q3, q4⟩ := hx2
  have HX2 := Lib.hid (Bss.at_ ⟨A2, c2, hs2, rfl, q1, q2, q3, q4⟩).2
  have hc2 : c2 ≤ 9223372036854775807 := by unfold maxLen at q2; omega
  clear hres hb2 q2 q3 q4
  go_wp2_with fail
  refine wp_region_flow (fun W => Below w2.heap.size w2 W) [0, 1, 2, 3, 4, 5, 6, 7, 8, 9, 10, 11, 12, 13, 14, 15, 16, 17, 18, 19, 20] (by kernel_rfl) (by kernel_rfl) (by kernel_rfl) ((Below.refl _ w2).drew) ?_
  refine flow_call (.bool true) rfl (by kernel_rfl) (by rfl) (by kernel_rfl) (fun W hW => ⟨_, _, _, by go_simp, (lives_any W).mono fun e w' ⟨he, hb⟩ => ⟨he, hW.trans (hb.mono hW.size)⟩⟩) ?_
  simp only [Act.put, List.setIfInBounds_toArray, List.set_cons_succ, List.set_cons_zero]
  refine flow_val ?_ rfl (by kernel_rfl) (by rfl) (fun W hW => ?_) ?_
  rotate_left 1
  · go_simp <;> with_reducible rfl
  simp only [Act.put, List.setIfInBounds_toArray, List.set_cons_succ, List.set_cons_zero]
  refine flow_val ?_ rfl (by kernel_rfl) (by rfl) (fun W hW => ?_) ?_
  rotate_left 1
  · go_simp <;> with_reducible rfl
  simp only [Act.put, List.setIfInBounds_toArray, List.set_cons_succ, List.set_cons_zero]
  refine flow_val ?_ rfl (by kernel_rfl) (by rfl) (fun W hW => ?_) ?_
  rotate_left 1
  · go_simp <;> with_reducible rfl
  simp only [Act.put, List.setIfInBounds_toArray, List.set_cons_succ, List.set_cons_zero]
  refine flow_val ?_ rfl (by kernel_rfl) (by rfl) (fun W hW => ?_) ?_
  rotate_left 1
  · have hs := HS.out ▸ run_str W A1 J.length c1 J (HR2.out.below hW.1) HJlt.out; go_simp <;> with_reducible rfl
  simp only [Act.put, List.setIfInBounds_toArray, List.set_cons_succ, List.set_cons_zero]
  refine flow_val ?_ rfl (by kernel_rfl) (by rfl) (fun W hW => ?_) ?_
  rotate_left 1
  · go_simp <;> with_reducible rfl
  simp only [Act.put, List.setIfInBounds_toArray, List.set_cons_succ, List.set_cons_zero]
  refine flow_new (fun v W => Bs W v J) rfl (by kernel_rfl) (by rfl) (by kernel_rfl) (fun W hW => ⟨_, _, _, by go_simp, (HRJoin.out W (HB2.out.trans (hW.1.mono HB2.out.size))).mono fun e w' ⟨v, he, hv, hb⟩ => ⟨v, he, ⟨hW.1.trans (hb.mono hW.1.size), trivial⟩, Bs.of_own hv⟩⟩) ?_
  rintro v6 ⟨W0, _, A6, c6, rfl, _, _, _⟩
  simp only [Act.put, List.setIfInBounds_toArray, List.set_cons_succ, List.set_cons_zero]
  refine flow_val ?_ rfl (by kernel_rfl) (by rfl) (fun W hW => ?_) ?_
  rotate_left 1
  · have hs := HS.out ▸ run_str W A6 J.length c6 J hW.2.rd HJlt.out; go_simp <;> with_reducible rfl
  simp only [Act.put, List.setIfInBounds_toArray, List.set_cons_succ, List.set_cons_zero]
  refine flow_val ?_ rfl (by kernel_rfl) (by rfl) (fun W hW => ?_) ?_
  rotate_left 1
  · go_simp <;> with_reducible rfl
  simp only [Act.put, List.setIfInBounds_toArray, List.set_cons_succ, List.set_cons_zero]
  refine flow_val ?_ rfl (by kernel_rfl) (by rfl) (fun W hW => ?_) ?_
  rotate_left 1
  · go_simp <;> with_reducible rfl
  simp only [Act.put, List.setIfInBounds_toArray, List.set_cons_succ, List.set_cons_zero]
  refine flow_val ?_ rfl (by kernel_rfl) (by rfl) (fun W hW => ?_) ?_
  rotate_left 1
  · go_simp <;> with_reducible rfl
  simp only [Act.put, List.setIfInBounds_toArray, List.set_cons_succ, List.set_cons_zero]
  refine flow_val ?_ rfl (by kernel_rfl) (by rfl) (fun W hW => ?_) ?_
  rotate_left 1
  · go_simp <;> with_reducible rfl
  simp only [Act.put, List.setIfInBounds_toArray, List.set_cons_succ, List.set_cons_zero]
  refine flow_val ?_ rfl (by kernel_rfl) (by rfl) (fun W hW => ?_) ?_
  rotate_left 1
  · go_simp <;> with_reducible rfl
  simp only [Act.put, List.setIfInBounds_toArray, List.set_cons_succ, List.set_cons_zero]
  refine flow_val ?_ rfl (by kernel_rfl) (by rfl) (fun W hW => ?_) ?_
  rotate_left 1
  · go_simp <;> with_reducible rfl
  simp only [Act.put, List.setIfInBounds_toArray, List.set_cons_succ, List.set_cons_zero]
  refine flow_val ?_ rfl (by kernel_rfl) (by rfl) (fun W hW => ?_) ?_
  rotate_left 1
  · go_simp <;> with_reducible rfl
  simp only [Act.put, List.setIfInBounds_toArray, List.set_cons_succ, List.set_cons_zero]
  refine flow_val ?_ rfl (by kernel_rfl) (by rfl) (fun W hW => ?_) ?_
  rotate_left 1
  · go_simp <;> with_reducible rfl
  simp only [Act.put, List.setIfInBounds_toArray, List.set_cons_succ, List.set_cons_zero]
  refine flow_val ?_ rfl (by kernel_rfl) (by rfl) (fun W hW => ?_) ?_
  rotate_left 1
  · go_simp <;> with_reducible rfl
  simp only [Act.put, List.setIfInBounds_toArray, List.set_cons_succ, List.set_cons_zero]
  refine flow_val ?_ rfl (by kernel_rfl) (by rfl) (fun W hW => ?_) ?_
  rotate_left 1
  · go_simp <;> with_reducible rfl
  simp only [Act.put, List.setIfInBounds_toArray, List.set_cons_succ, List.set_cons_zero]
  refine flow_val ?_ rfl (by kernel_rfl) (by rfl) (fun W hW => ?_) ?_
  rotate_left 1
  · go_simp <;> with_reducible rfl
  simp only [Act.put, List.setIfInBounds_toArray, List.set_cons_succ, List.set_cons_zero]
  refine flow_val ?_ rfl (by kernel_rfl) (by rfl) (fun W hW => ?_) ?_
  rotate_left 1
  · go_simp <;> with_reducible rfl
  simp only [Act.put, List.setIfInBounds_toArray, List.set_cons_succ, List.set_cons_zero]
  refine flow_val ?_ rfl (by kernel_rfl) (by rfl) (fun W hW => ?_) ?_
  rotate_left 1
  · go_simp <;> with_reducible rfl
  simp only [Act.put, List.setIfInBounds_toArray, List.set_cons_succ, List.set_cons_zero]
  refine flow_done ?_
  intro W hW
  obtain ⟨hW0, _⟩ := hW
  have HB3 := Lib.hid (hW0.1 : Below w2.heap.size w2 W)
  clear hW0
  go_wp2_with fail
  go_loopw [6] (fun i wr => ∃ k : Nat, k ≤ l.length ∧ i = .int .i64 k ∧ Below w2.heap.size w2 wr) (fun i _ => l.length - (intOf i).toNat)
  case atStart => exact ⟨0, Nat.zero_le _, rfl, HB3.out⟩
  case round =>
    obtain ⟨k, hk, rfl, hb⟩ := hrel
    have HW := Lib.hid hb
    clear hb HB3
    by_cases hlt : k < l.length
    · obtain ⟨g, o, Ak, ck, rfl, hg, hc, hck, hckm, hrk⟩ := HA.out k hlt
      obtain ⟨g', o', Ak', ck', rfl, hg', hc', hck', hckm', hrk'⟩ := HX2.out k hlt
      have h256 := H256.out l[k] (List.getElem_mem hlt)
      obtain ⟨x, hx⟩ : ∃ x, l[k] = x := ⟨_, rfl⟩
      rw [hx] at hc hc' hck hck' hrk hrk' h256
      obtain ⟨X, hX⟩ : ∃ X, strOf x = X := ⟨_, rfl⟩
      have HXX := Lib.hid hX
      have HC := Lib.hid hc
      have HC' := Lib.hid hc'
      have HR := Lib.hid hrk
      have HR' := Lib.hid hrk'
      have HLT := Lib.hid h256
      have b2 := HB2.out.size
      clear hx hX hc hc' hrk hrk' h256 hckm hckm'
      go_wp2_with fail
      refine wp_region_flow (fun W => Below w2.heap.size w2 W) [0, 1, 2, 3, 4, 5, 6, 7, 8, 9, 10] (by kernel_rfl) (by kernel_rfl) (by kernel_rfl) (HW.out.drew) ?_
      refine flow_val ?_ rfl (by kernel_rfl) (by rfl) (fun W hW => ?_) ?_
      rotate_left 1
      · go_simp <;> with_reducible rfl
      simp only [Act.put, List.setIfInBounds_toArray, List.set_cons_succ, List.set_cons_zero]
      refine flow_val ?_ rfl (by kernel_rfl) (by rfl) (fun W hW => ?_) ?_
      rotate_left 1
      · go_simp <;> with_reducible rfl
      simp only [Act.put, List.setIfInBounds_toArray, List.set_cons_succ, List.set_cons_zero]
      refine flow_val ?_ rfl (by kernel_rfl) (by rfl) (fun W hW => ?_) ?_
      rotate_left 1
      · go_simp <;> with_reducible rfl
      simp only [Act.put, List.setIfInBounds_toArray, List.set_cons_succ, List.set_cons_zero]
      refine flow_val ?_ rfl (by kernel_rfl) (by rfl) (fun W hW => ?_) ?_
      rotate_left 1
      · have hc1 : W.cell? ⟨g', o' + k, none⟩ = some (.slice Ak' x.length ck') := (hW.cell (p := ⟨g', o' + k, none⟩) hg').trans HC'.out; go_simp <;> with_reducible rfl
      simp only [Act.put, List.setIfInBounds_toArray, List.set_cons_succ, List.set_cons_zero]
      refine flow_val ?_ rfl (by kernel_rfl) (by rfl) (fun W hW => ?_) ?_
      rotate_left 1
      · have hs := HXX.out ▸ run_str W Ak' x.length ck' x (HR'.out.below hW) HLT.out; go_simp <;> with_reducible rfl
      simp only [Act.put, List.setIfInBounds_toArray, List.set_cons_succ, List.set_cons_zero]
      refine flow_val ?_ rfl (by kernel_rfl) (by rfl) (fun W hW => ?_) ?_
      rotate_left 1
      · go_simp <;> with_reducible rfl
      simp only [Act.put, List.setIfInBounds_toArray, List.set_cons_succ, List.set_cons_zero]
      refine flow_val ?_ rfl (by kernel_rfl) (by rfl) (fun W hW => ?_) ?_
      rotate_left 1
      · go_simp <;> with_reducible rfl
      simp only [Act.put, List.setIfInBounds_toArray, List.set_cons_succ, List.set_cons_zero]
      refine flow_val ?_ rfl (by kernel_rfl) (by rfl) (fun W hW => ?_) ?_
      rotate_left 1
      · go_simp <;> with_reducible rfl
      simp only [Act.put, List.setIfInBounds_toArray, List.set_cons_succ, List.set_cons_zero]
      refine flow_val ?_ rfl (by kernel_rfl) (by rfl) (fun W hW => ?_) ?_
      rotate_left 1
      · have b := HB2.out.trans (hW.mono b2); have hc1 : W.cell? ⟨g, o + k, none⟩ = some (.slice Ak x.length ck) := (b.cell (p := ⟨g, o + k, none⟩) hg).trans HC.out; go_simp <;> with_reducible rfl
      simp only [Act.put, List.setIfInBounds_toArray, List.set_cons_succ, List.set_cons_zero]
      refine flow_val ?_ rfl (by kernel_rfl) (by rfl) (fun W hW => ?_) ?_
      rotate_left 1
      · have b := HB2.out.trans (hW.mono b2); have hs := HXX.out ▸ run_str W Ak x.length ck x (HR.out.below b) HLT.out; go_simp <;> with_reducible rfl
      simp only [Act.put, List.setIfInBounds_toArray, List.set_cons_succ, List.set_cons_zero]
      refine flow_val ?_ rfl (by kernel_rfl) (by rfl) (fun W hW => ?_) ?_
      rotate_left 1
      · go_simp <;> with_reducible rfl
      simp only [Act.put, List.setIfInBounds_toArray, List.set_cons_succ, List.set_cons_zero]
      refine flow_done ?_
      intro W hW
      have HW2 := Lib.hid hW
      clear hW
      go_wp2_with fail
      go_roundw
      case rel => exact ⟨k + 1, hlt, by go_num, HW2.out⟩
      case measure => simp [intOf]; omega
    · obtain rfl : k = l.length := by omega
      go_wp2
      go_ret
      exact ⟨rfl, HB2.out.trans (HW.out.mono HB2.out.size)⟩
end Go.Proofs.Ytlljeghlfijdnaa
