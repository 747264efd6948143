/- The law CellsSplits: what any bytes are as texts. The walk. -/
import Derived.Test.YtlljeghlfijdnaaCL8
namespace Go.Proofs.Ytlljeghlfijdnaa
open Go.RowKit

/-- Two splits of the same bytes agree. -/
theorem split_agree {bs : List Nat} (hl : bs.length ≤ 4294967296) {w w' : World} {b1 g1 b2 g2 : Value} {e e' : Ending} (w0 w1 : World) (h : SplR b1 g1 bs w0 e w) (h' : SplR b2 g2 bs w1 e' w') :
    (∃ v v' xs, e = .returned (.tuple #[v, g1]) ∧ e' = .returned (.tuple #[v', g2]) ∧ Bss w v xs ∧ Bss w' v' xs ∧ joinB xs = bs) ∨
    (e = .returned (.tuple #[.slice none 0 0, b1]) ∧ e' = .returned (.tuple #[.slice none 0 0, b2])) := by
  rcases h.2 with ⟨v, xs, h1, h2, h3, h4⟩ | ⟨xs, r, h1, h2, h3, h4⟩
  · rcases h'.2 with ⟨v', ys, k1, k2, k3, k4⟩ | ⟨ys, r', k1, k2, k3, k4⟩
    · have := joinB_one_way xs ys [] (fun x hx => by have := h4 x hx; omega) (fun x hx => by have := k4 x hx; omega) (.inl rfl) (by rw [h3, k3, List.append_nil])
      obtain ⟨rfl, _⟩ := this
      exact .inl ⟨v, v', xs, h1, k1, h2, k2, h3⟩
    · have := joinB_one_way xs ys r' (fun x hx => by have := h4 x hx; omega) (fun x hx => by have := k4 x hx; omega) (.inr k3) (by rw [h3, k2])
      exact absurd this.2 k3.1
  · rcases h'.2 with ⟨v', ys, k1, k2, k3, k4⟩ | ⟨ys, r', k1, k2, k3, k4⟩
    · have := joinB_one_way ys xs r (fun x hx => by have := k4 x hx; omega) (fun x hx => by have := h4 x hx; omega) (.inr h3) (by rw [h2, k3])
      exact absurd this.2 h3.1
    · exact .inr ⟨h1, k1⟩

set_option maxRecDepth 100000 in
set_option maxHeartbeats 4000000 in
theorem splits_any (Ab : Option Addr) (cb : Nat) (bs : List Nat) (w : World) (hby : IsBy w Ab cb bs) (ht : bs.length ≤ 4294967296) :
    Calls Try.prog 11 #[.slice Ab bs.length cb] w fun e w' => e = .returned (.bool true) ∧ Below w.heap.size w w' := by
  obtain ⟨i0, hi0, hz0, hz1, hz2⟩ := info_parts Try.infoByte
  have HB := Lib.hid hby
  have hbl := hby.1
  have hbc := hby.2.1
  obtain ⟨S, hS⟩ : ∃ S, strOf bs = S := ⟨_, rfl⟩
  have HS := Lib.hid hS
  have HT := Lib.hid ht
  clear hby hS ht
  go_enter Try.func11, Try.ntmps11
  go_wp2_with (first
    | (at_builtin
       refine wpList_append_rd _ rfl (.tmp 9) (.tmp 10) 22 rfl w.heap.size 5 i0 (.int .u8 0) 1 1 Try.underlying22 hi0 hz0 hz1 hz2 rfl (by decide) (.slice (some ⟨w.heap.size, 0, none⟩) 0 0) 0 [] rfl (own_of_cells w #[] 0 (Nat.zero_le _) rfl) Ab bs.length cb (bs.map u8v) rfl (HB.out.2.2.1.below ((Below.refl _ _).alloc (Nat.le_refl _) _)) (u8_one' _) (by unfold maxLen; omega) (by omega) (by simp) ?_
       intro v2 w2 hown2 hgrow2 _
       have HO2 := Lib.hid hown2
       have hG2 := Fr.grown (B := w.heap.size) (T := [5]) (S := []) ((Fr.refl w).alloc (.cells #[] 5)) hgrow2 (fun j hj => by
         simp [Value.ownBlock] at hj
         subst hj
         exact ⟨Nat.le_refl _, .inr ⟨_, _, _, block_new _ _, by simp⟩⟩)
       have HB2 := Lib.hid (hG2.below (Nat.le_refl _))
       clear hown2 hgrow2 hG2))
  obtain ⟨A2, c2, rfl, k1, k2, k3, k4⟩ := own_slice HO2.out
  have hbs2 : Rd w2 1 A2 bs.length (bs.map u8v) := by simpa using k3
  have HR2 := Lib.hid hbs2
  have HK2 := Lib.hid k2
  have hc2 : c2 ≤ 9223372036854775807 := by unfold maxLen at k2; omega
  simp only [Nat.zero_add] at k1 ⊢
  clear k2 k3 k4 hbs2 hi0 hz0 hz1 hz2 HO2
  refine (split_any A2 c2 bs w2 HR2.out HB.out.2.2.2.1 k1 HK2.out HT.out).mono ?_
  rintro e w3 hs1
  have HS1 := Lib.hid hs1
  have HBW3 := Lib.hid (HB2.out.trans (hs1.1.mono HB2.out.size))
  obtain ⟨E, hE⟩ : ∃ E, e = E := ⟨_, rfl⟩
  have hcase := hs1.2
  have hen : ∃ v c, e = .returned (.tuple #[v, c]) := by
    rcases hcase with ⟨v, xs, h1, _⟩ | ⟨xs, r, h1, _⟩
    · exact ⟨_, _, h1⟩
    · exact ⟨_, _, h1⟩
  obtain ⟨v3, g3, rfl⟩ := hen
  clear hcase hs1 hE E
  go_wp2_with fail
  refine (rsplit_any Ab cb bs w3 (HB.out.2.2.1.below HBW3.out) HB.out.2.2.2.1 hbl (by unfold maxLen; omega) HT.out).mono ?_
  rintro e w4 hs2
  have HB4 := Lib.hid hs2.1
  have HBW4 := Lib.hid (HBW3.out.trans (hs2.1.mono HBW3.out.size))
  have HR4 := Lib.hid ((HR2.out.below HS1.out.1).below hs2.1)
  have hag := split_agree HT.out w2 w3 HS1.out hs2
  have h34 := HS1.out.1.size
  clear hs2 HS1
  have HRb : Hid (∀ W, Below w4.heap.size w4 W → (convert 22 9 (.slice Ab bs.length cb)).run Try.prog W = .ok (.string S) W) := Lib.hid (fun W hW => HS.out ▸ run_str W Ab bs.length cb bs (HB.out.2.2.1.below (HBW4.out.trans (hW.mono HBW4.out.size))) HB.out.2.2.2.1)
  have HRo : Hid (∀ W, Below w4.heap.size w4 W → (convert 22 9 (.slice A2 bs.length c2)).run Try.prog W = .ok (.string S) W) := Lib.hid (fun W hW => HS.out ▸ run_str W A2 bs.length c2 bs (HR4.out.below (hW.mono (by have := HB4.out.size; omega))) HB.out.2.2.2.1)
  rcases hag with ⟨vx, vy, xs, e1, rfl, hx, hy, hj⟩ | ⟨e1, rfl⟩
  · simp only [Ending.returned.injEq, Value.tuple.injEq, Array.mk.injEq, List.cons.injEq, and_true] at e1
    obtain ⟨rfl, rfl⟩ := e1
    have hx4 := hx.below HB4.out
    obtain ⟨A3, c3, hs3, rfl, p1, p2, p3, p4⟩ := hx4
    obtain ⟨A5, c5, hs5, rfl, q1, q2, q3, q4⟩ := hy
    have HX := Lib.hid (Bss.at_ ⟨A3, c3, hs3, rfl, p1, p2, p3, p4⟩).2
    have HY := Lib.hid (Bss.at_ ⟨A5, c5, hs5, rfl, q1, q2, q3, q4⟩).2
    have HJ : Hid (Bss w4 (.slice A3 xs.length c3) xs) := Lib.hid ⟨A3, c3, hs3, rfl, p1, p2, p3, p4⟩
    have hl3 : xs.length ≤ 9223372036854775807 := by unfold maxLen at p2; omega
    have hlt := joinB_len (l := xs)
    have HJlen := Lib.hid hlt
    have HJb := Lib.hid hj
    have H256 : Hid (∀ x ∈ xs, ∀ b ∈ x, b < 256) := Lib.hid (fun x hx b hb => HB.out.2.2.2.1 b (by
      rw [← hj]
      unfold joinB
      exact List.mem_flatten.2 ⟨cellB x, List.mem_map.2 ⟨x, hx, rfl⟩, by unfold cellB; exact List.mem_append_right _ hb⟩))
    clear p2 p3 p4 q1 q2 q3 q4 hx hlt hj
    go_wp2_with fail
    refine (lives_any _).mono ?_
    rintro e w5 ⟨rfl, hb5⟩
    have HB5 := Lib.hid hb5
    have hs1 := HRb.out w5 hb5
    have hs2 := HRo.out w5 hb5
    clear hb5
    go_wp2_with fail
    clear hs1 hs2
    go_loopw [8] (fun i wr => ∃ k : Nat, k ≤ xs.length ∧ i = .int .i64 k ∧ Below w4.heap.size w4 wr) (fun i _ => xs.length - (intOf i).toNat)
    case atStart => exact ⟨0, Nat.zero_le _, rfl, HB5.out⟩
    case round =>
      obtain ⟨k, hk, rfl, hb⟩ := hrel
      have HW := Lib.hid hb
      clear hb HB5
      by_cases hlt : k < xs.length
      · obtain ⟨g, o, Ak, ck, rfl, hg, hc, hck, hckm, hrk⟩ := HX.out k hlt
        obtain ⟨g', o', Ak', ck', rfl, hg', hc', hck', hckm', hrk'⟩ := HY.out k hlt
        have h256 := H256.out xs[k] (List.getElem_mem hlt)
        obtain ⟨x, hx⟩ : ∃ x, xs[k] = x := ⟨_, rfl⟩
        rw [hx] at hc hc' hck hck' hrk hrk' h256
        obtain ⟨X, hX⟩ : ∃ X, strOf x = X := ⟨_, rfl⟩
        have HXX := Lib.hid hX
        have HC := Lib.hid hc
        have HC' := Lib.hid hc'
        have HR := Lib.hid hrk
        have HR' := Lib.hid hrk'
        have HLT := Lib.hid h256
        clear hx hX hc hc' hrk hrk' h256 hckm hckm'
        go_wp2_with fail
        refine wp_region_flow (fun W => Below w4.heap.size w4 W) [0, 1, 2, 3, 4, 5, 6, 7, 8, 9, 10] (by kernel_rfl) (by kernel_rfl) (by kernel_rfl) (HW.out.drew) ?_
        refine flow_val ?_ rfl (by kernel_rfl) (by rfl) (fun W hW => ?_) ?_
        rotate_left 1
        · go_simp <;> with_reducible rfl
        simp only [Act.put, List.setIfInBounds_toArray, List.set_cons_succ, List.set_cons_zero]
        refine flow_val ?_ rfl (by kernel_rfl) (by rfl) (fun W hW => ?_) ?_
        rotate_left 1
        · go_simp <;> with_reducible rfl
        simp only [Act.put, List.setIfInBounds_toArray, List.set_cons_succ, List.set_cons_zero]
        refine flow_val ?_ rfl (by kernel_rfl) (by rfl) (fun W hW => ?_) ?_
        rotate_left 1
        · go_simp <;> with_reducible rfl
        simp only [Act.put, List.setIfInBounds_toArray, List.set_cons_succ, List.set_cons_zero]
        refine flow_val ?_ rfl (by kernel_rfl) (by rfl) (fun W hW => ?_) ?_
        rotate_left 1
        · have hc1 : W.cell? ⟨g, o + k, none⟩ = some (.slice Ak x.length ck) := (hW.cell (p := ⟨g, o + k, none⟩) hg).trans HC.out; go_simp <;> with_reducible rfl
        simp only [Act.put, List.setIfInBounds_toArray, List.set_cons_succ, List.set_cons_zero]
        refine flow_val ?_ rfl (by kernel_rfl) (by rfl) (fun W hW => ?_) ?_
        rotate_left 1
        · have hs := HXX.out ▸ run_str W Ak x.length ck x (HR.out.below hW) HLT.out; go_simp <;> with_reducible rfl
        simp only [Act.put, List.setIfInBounds_toArray, List.set_cons_succ, List.set_cons_zero]
        refine flow_val ?_ rfl (by kernel_rfl) (by rfl) (fun W hW => ?_) ?_
        rotate_left 1
        · go_simp <;> with_reducible rfl
        simp only [Act.put, List.setIfInBounds_toArray, List.set_cons_succ, List.set_cons_zero]
        refine flow_val ?_ rfl (by kernel_rfl) (by rfl) (fun W hW => ?_) ?_
        rotate_left 1
        · go_simp <;> with_reducible rfl
        simp only [Act.put, List.setIfInBounds_toArray, List.set_cons_succ, List.set_cons_zero]
        refine flow_val ?_ rfl (by kernel_rfl) (by rfl) (fun W hW => ?_) ?_
        rotate_left 1
        · go_simp <;> with_reducible rfl
        simp only [Act.put, List.setIfInBounds_toArray, List.set_cons_succ, List.set_cons_zero]
        refine flow_val ?_ rfl (by kernel_rfl) (by rfl) (fun W hW => ?_) ?_
        rotate_left 1
        · have hc1 : W.cell? ⟨g', o' + k, none⟩ = some (.slice Ak' x.length ck') := (hW.cell (p := ⟨g', o' + k, none⟩) hg').trans HC'.out; go_simp <;> with_reducible rfl
        simp only [Act.put, List.setIfInBounds_toArray, List.set_cons_succ, List.set_cons_zero]
        refine flow_val ?_ rfl (by kernel_rfl) (by rfl) (fun W hW => ?_) ?_
        rotate_left 1
        · have hs := HXX.out ▸ run_str W Ak' x.length ck' x (HR'.out.below hW) HLT.out; go_simp <;> with_reducible rfl
        simp only [Act.put, List.setIfInBounds_toArray, List.set_cons_succ, List.set_cons_zero]
        refine flow_val ?_ rfl (by kernel_rfl) (by rfl) (fun W hW => ?_) ?_
        rotate_left 1
        · go_simp <;> with_reducible rfl
        simp only [Act.put, List.setIfInBounds_toArray, List.set_cons_succ, List.set_cons_zero]
        refine flow_done ?_
        intro W hW
        have HW2 := Lib.hid hW
        clear hW
        go_wp2_with fail
        go_roundw
        case rel => exact ⟨k + 1, hlt, by go_num, HW2.out⟩
        case measure => simp [intOf]; omega
      · obtain rfl : k = xs.length := by omega
        go_wp2_with fail
        refine wp_region_flow (fun W => Below w4.heap.size w4 W) [0, 1, 2, 3, 6, 7, 4, 5, 8, 9, 10] (by kernel_rfl) (by kernel_rfl) (by kernel_rfl) (HW.out.drew) ?_
        refine flow_val ?_ rfl (by kernel_rfl) (by rfl) (fun W hW => ?_) ?_
        rotate_left 1
        · go_simp <;> with_reducible rfl
        simp only [Act.put, List.setIfInBounds_toArray, List.set_cons_succ, List.set_cons_zero]
        refine flow_val ?_ rfl (by kernel_rfl) (by rfl) (fun W hW => ?_) ?_
        rotate_left 1
        · go_simp <;> with_reducible rfl
        simp only [Act.put, List.setIfInBounds_toArray, List.set_cons_succ, List.set_cons_zero]
        refine flow_val ?_ rfl (by kernel_rfl) (by rfl) (fun W hW => ?_) ?_
        rotate_left 1
        · go_simp <;> with_reducible rfl
        simp only [Act.put, List.setIfInBounds_toArray, List.set_cons_succ, List.set_cons_zero]
        refine flow_val ?_ rfl (by kernel_rfl) (by rfl) (fun W hW => ?_) ?_
        rotate_left 1
        · go_simp <;> with_reducible rfl
        simp only [Act.put, List.setIfInBounds_toArray, List.set_cons_succ, List.set_cons_zero]
        refine flow_val ?_ rfl (by kernel_rfl) (by rfl) (fun W hW => ?_) ?_
        rotate_left 1
        · go_simp <;> with_reducible rfl
        simp only [Act.put, List.setIfInBounds_toArray, List.set_cons_succ, List.set_cons_zero]
        refine flow_val ?_ rfl (by kernel_rfl) (by rfl) (fun W hW => ?_) ?_
        rotate_left 1
        · have hs := HRb.out W hW; go_simp <;> with_reducible rfl
        simp only [Act.put, List.setIfInBounds_toArray, List.set_cons_succ, List.set_cons_zero]
        refine flow_new (fun v W => Bs W v bs) rfl (by kernel_rfl) (by rfl) (by kernel_rfl) (fun W hW => ⟨_, _, _, by go_simp, (HJb.out ▸ join_any (.slice A3 xs.length c3) xs W (HJ.out.below hW) (by rw [HJb.out]; have := HT.out; omega) : Calls Try.prog 36 #[.slice A3 xs.length c3] W (RetO bs W)).mono fun e w' ⟨v, he, hv, hb⟩ => ⟨v, he, hW.trans (hb.mono hW.size), Bs.of_own hv⟩⟩) ?_
        rintro v6 ⟨W0, _, A6, c6, rfl, _, _, _⟩
        simp only [Act.put, List.setIfInBounds_toArray, List.set_cons_succ, List.set_cons_zero]
        refine flow_val ?_ rfl (by kernel_rfl) (by rfl) (fun W hW => ?_) ?_
        rotate_left 1
        · have hs := HS.out ▸ run_str W A6 bs.length c6 bs hW.2.rd HB.out.2.2.2.1; go_simp <;> with_reducible rfl
        simp only [Act.put, List.setIfInBounds_toArray, List.set_cons_succ, List.set_cons_zero]
        refine flow_val ?_ rfl (by kernel_rfl) (by rfl) (fun W hW => ?_) ?_
        rotate_left 1
        · go_simp <;> with_reducible rfl
        simp only [Act.put, List.setIfInBounds_toArray, List.set_cons_succ, List.set_cons_zero]
        refine flow_val ?_ rfl (by kernel_rfl) (by rfl) (fun W hW => ?_) ?_
        rotate_left 1
        · go_simp <;> with_reducible rfl
        simp only [Act.put, List.setIfInBounds_toArray, List.set_cons_succ, List.set_cons_zero]
        refine flow_val ?_ rfl (by kernel_rfl) (by rfl) (fun W hW => ?_) ?_
        rotate_left 1
        · go_simp <;> with_reducible rfl
        simp only [Act.put, List.setIfInBounds_toArray, List.set_cons_succ, List.set_cons_zero]
        refine flow_done ?_
        intro W hW
        have HW2 := Lib.hid (hW.1 : Below w4.heap.size w4 W)
        clear hW
        go_wp2_with fail
        go_ret
        exact ⟨rfl, HBW4.out.trans (HW2.out.mono HBW4.out.size)⟩
  · simp only [Ending.returned.injEq, Value.tuple.injEq, Array.mk.injEq, List.cons.injEq, and_true] at e1
    obtain ⟨rfl, rfl⟩ := e1
    go_wp2_with fail
    refine (lives_any _).mono ?_
    rintro e w5 ⟨rfl, hb5⟩
    have HB5 := Lib.hid hb5
    have hs1 := HRb.out w5 hb5
    have hs2 := HRo.out w5 hb5
    clear hb5
    go_wp2_with fail
    clear hs1 hs2
    go_loopw [8] (fun i wr => i = .int .i64 0 ∧ Below w4.heap.size w4 wr) (fun i _ => 0)
    case atStart => exact ⟨rfl, HB5.out⟩
    case round =>
      obtain ⟨rfl, hb⟩ := hrel
      have HW := Lib.hid hb
      clear hb HB5
      go_wp2_with fail
      refine wp_region_flow (fun W => Below w4.heap.size w4 W) [0, 1, 2, 3, 4, 5, 6, 7, 8, 9, 10] (by kernel_rfl) (by kernel_rfl) (by kernel_rfl) (HW.out.drew) ?_
      refine flow_val ?_ rfl (by kernel_rfl) (by rfl) (fun W hW => ?_) ?_
      rotate_left 1
      · go_simp <;> with_reducible rfl
      simp only [Act.put, List.setIfInBounds_toArray, List.set_cons_succ, List.set_cons_zero]
      refine flow_val ?_ rfl (by kernel_rfl) (by rfl) (fun W hW => ?_) ?_
      rotate_left 1
      · go_simp <;> with_reducible rfl
      simp only [Act.put, List.setIfInBounds_toArray, List.set_cons_succ, List.set_cons_zero]
      refine flow_val ?_ rfl (by kernel_rfl) (by rfl) (fun W hW => ?_) ?_
      rotate_left 1
      · go_simp <;> with_reducible rfl
      simp only [Act.put, List.setIfInBounds_toArray, List.set_cons_succ, List.set_cons_zero]
      refine flow_off rfl (by kernel_rfl) (by rfl) ?_
      simp only [Act.put, List.setIfInBounds_toArray, List.set_cons_succ, List.set_cons_zero]
      refine flow_off rfl (by kernel_rfl) (by rfl) ?_
      simp only [Act.put, List.setIfInBounds_toArray, List.set_cons_succ, List.set_cons_zero]
      refine flow_off rfl (by kernel_rfl) (by rfl) ?_
      simp only [Act.put, List.setIfInBounds_toArray, List.set_cons_succ, List.set_cons_zero]
      refine flow_off rfl (by kernel_rfl) (by rfl) ?_
      simp only [Act.put, List.setIfInBounds_toArray, List.set_cons_succ, List.set_cons_zero]
      refine flow_off rfl (by kernel_rfl) (by rfl) ?_
      simp only [Act.put, List.setIfInBounds_toArray, List.set_cons_succ, List.set_cons_zero]
      refine flow_off rfl (by kernel_rfl) (by rfl) ?_
      simp only [Act.put, List.setIfInBounds_toArray, List.set_cons_succ, List.set_cons_zero]
      refine flow_val ?_ rfl (by kernel_rfl) (by rfl) (fun W hW => ?_) ?_
      rotate_left 1
      · go_simp <;> with_reducible rfl
      simp only [Act.put, List.setIfInBounds_toArray, List.set_cons_succ, List.set_cons_zero]
      refine flow_val ?_ rfl (by kernel_rfl) (by rfl) (fun W hW => ?_) ?_
      rotate_left 1
      · go_simp <;> with_reducible rfl
      simp only [Act.put, List.setIfInBounds_toArray, List.set_cons_succ, List.set_cons_zero]
      refine flow_done ?_
      intro W hW
      have HW2 := Lib.hid hW
      clear hW
      go_wp2_with fail
      go_ret
      exact ⟨rfl, HBW4.out.trans (HW2.out.mono HBW4.out.size)⟩
end Go.Proofs.Ytlljeghlfijdnaa
