/- The law CountMarks: every call of a tally, in every order. The walk. -/
import Derived.Test.YtochhjdjfgiaeaaNLives
import Derived.Test.YtochhjdjfgiaeaaNTal2
import Derived.Test.YtochhjdjfgiaeaaNEq
import Derived.Deep.CutBlock
import Derived.Deep.DeepCutAuto
namespace Go.Proofs.Ytochhjdjfgiaeaa
open Go.RowKit

/-- An operation. -/
structure NOp where
  k : Int
  i : Int
  n : Int
def encN (z : NOp) : List Value := [.int .i64 z.k, .int .i64 z.i, .int .i64 z.n]
theorem flatN_at (l : List NOp) (k j : Nat) (hk : k < l.length) (hj : j < 3) : (l.flatMap encN)[k * 3 + j]? = (encN l[k])[j]? := by
  induction l generalizing k with
  | nil => simp at hk
  | cons z l ih =>
    cases k with
    | zero => rw [List.flatMap_cons, List.getElem?_append_left (by simp [encN]; omega)]; simp
    | succ k => rw [List.flatMap_cons, List.getElem?_append_right (by simp [encN]; omega), show (k + 1) * 3 + j - (encN z).length = k * 3 + j by simp [encN]; omega, ih k (by simpa using hk)]; simp
/-- The law's own marks at block q. -/
def IsX (W : World) (q : Nat) (xs : List Int) : Prop := W.heap[q]? = some (.cells ((xs.map i64v).toArray) 41 (0, 0))
theorem IsX.cellD {W : World} {q : Nat} {xs : List Int} (h : IsX W q xs) (h8 : xs.length = 8) {i : Nat} (hi : i < 8) : W.cell? ⟨q, i, none⟩ = some (.int .i64 (xs.getD i 0)) := by
  rw [cell_at h]
  have hi' : i < xs.length := by omega
  simp [hi', i64v]
theorem IsX.set {W : World} {q : Nat} {xs : List Int} (h : IsX W q xs) (i : Nat) (n : Int) : IsX (W.setCell ⟨q, i, none⟩ (.int .i64 n)) q (xs.set i n) := by
  unfold IsX at *
  rw [block_set h, List.map_set]
  simp [i64v]
theorem inT_iff {i : Int} : inT i = true ↔ 0 ≤ i ∧ i < 8 := by simp [inT]
/-- What stands between two rounds. -/
def StM (w : World) (p q : Nat) (xs : List Int) (d : Bool) (W : World) : Prop := IsTal W p xs d ∧ IsX W q xs ∧ p ≠ q ∧ w.heap.size ≤ p ∧ w.heap.size ≤ q ∧ Below w.heap.size w W
theorem StM.keep {w W W' : World} {p q : Nat} {xs : List Int} {d : Bool} (h : StM w p q xs d W) (hb : Below W.heap.size W W') : StM w p q xs d W' := by
  obtain ⟨h1, h2, h3, h4, h5, h6⟩ := h
  exact ⟨h1.below hb, (hb.block _ (lt_of_block h2)).trans h2, h3, h4, h5, h6.trans (hb.mono h6.size)⟩
/-- Both are set. -/
theorem StM.set {w W W' : World} {p q : Nat} {xs ys : List Int} {d d' : Bool} (h : StM w p q xs d W) (i : Nat) (n : Int) (hT : IsTal W' p ys d') (hf : Fr 0 [] [p] (W.setCell ⟨q, i, none⟩ (.int .i64 n)) W') (hy : ys = xs.set i n) : StM w p q ys d' W' := by
  obtain ⟨h1, h2, h3, h4, h5, h6⟩ := h
  subst hy
  have h2' := h2.set i n
  have h6' : Below w.heap.size w (W.setCell ⟨q, i, none⟩ (.int .i64 n)) := h6.setCell (p := ⟨q, i, none⟩) h5 _
  exact ⟨hT, (hf.block q (lt_of_block h2') (.inr ⟨by simp, by simp; exact Ne.symm h3⟩)).trans h2', h3, h4, h5, h6'.trans (fr_one hf h4 h6'.size)⟩
/-- The tally alone is turned. -/
theorem StM.turn {w W W' : World} {p q : Nat} {xs : List Int} {d d' : Bool} (h : StM w p q xs d W) (hT : IsTal W' p xs d') (hf : Fr 0 [] [p] W W') : StM w p q xs d' W' := by
  obtain ⟨h1, h2, h3, h4, h5, h6⟩ := h
  exact ⟨hT, (hf.block q (lt_of_block h2) (.inr ⟨by simp, by simp; exact Ne.symm h3⟩)).trans h2, h3, h4, h5, h6.trans (fr_one hf h4 h6.size)⟩
theorem getD_in (p : Nat) (xs : List Int) (d : Bool) (i : Nat) (hi : i < 8) (w : World) (h : IsTal w p xs d) :
    Calls Try.prog 25 #[.pointer (some ⟨p, 0, none⟩), .int .i64 (i : Int)] w fun e w' => e = .returned (.int .i64 (xs.getD i 0)) ∧ w = w' :=
  (get_in p xs d i hi w h).mono fun e w' ⟨he, hw⟩ => ⟨by rw [he]; have := h.2; simp [hi, this], hw⟩
theorem markD_in (p : Nat) (xs : List Int) (d : Bool) (i : Nat) (hi : i < 8) (n V : Int) (w : World) (h : IsTal w p xs d) (hV : wrapI (xs.getD i 0 + n) = V) :
    Calls Try.prog 21 #[.pointer (some ⟨p, 0, none⟩), .int .i64 (i : Int), .int .i64 n] w fun e w' => e = .returned (.int .i64 V) ∧ IsTal w' p (xs.set i V) d ∧ Fr 0 [] [p] w w' := by
  have hx : xs[i]'(by rw [h.2]; exact hi) = xs.getD i 0 := by have := h.2; simp [hi, this]
  have hm := mark_in p xs d i hi n w h
  rw [hx, hV] at hm
  exact hm.mono fun e w' ⟨he, hw⟩ => ⟨he, by rw [hw]; exact h.set hi V, by rw [hw]; exact (Fr.refl w).setCell (p := ⟨p, i, none⟩) _ (Nat.zero_le _) (.inl (by simp))⟩
theorem eight (ys : List Int) (h8 : ys.length = 8) : ∃ y0 y1 y2 y3 y4 y5 y6 y7, ys = [y0, y1, y2, y3, y4, y5, y6, y7] := by
  match ys, h8 with
  | [y0, y1, y2, y3, y4, y5, y6, y7], _ => exact ⟨y0, y1, y2, y3, y4, y5, y6, y7, rfl⟩
theorem all_in (p : Nat) (xs : List Int) (d : Bool) (w : World) (h : IsTal w p xs d) : Calls Try.prog 26 #[.pointer (some ⟨p, 0, none⟩)] w fun e w' => e = .returned (.agg (xs.map i64v).toArray) ∧ Below w.heap.size w w' :=
  all_core _ xs h.2 w (fun k hk W hb => (get_in p xs d k hk W (h.below hb)).mono fun e W' ⟨he, hw⟩ => ⟨by rw [he]; have := h.2; simp [hk, this], hw⟩)

set_option maxRecDepth 100000 in
set_option maxHeartbeats 8000000 in
theorem marks_any (A : Option Addr) (c : Nat) (zs : List NOp) (w : World) (hm : zs.length ≤ 140737488355328) (hr : Rd w 3 A zs.length (zs.flatMap encN)) (hin : ∀ z ∈ zs, -9223372036854775808 ≤ z.n ∧ z.n ≤ 9223372036854775807) :
    Calls Try.prog 8 #[.slice A zs.length c] w fun e w' => e = .returned (.bool true) ∧ Below w.heap.size w w' := by
  have HR := Lib.hid hr
  have HIN := Lib.hid hin
  clear hr hin
  go_enter Try.func8, Try.ntmps8
  go_wp2_with fail
  refine (tnew_any w).mono ?_
  rintro e w1 ⟨rfl, hT1, h1⟩
  obtain ⟨p, hp⟩ : ∃ p, w.heap.size = p := ⟨_, rfl⟩
  have HP : Hid (w.heap.size ≤ p) := Lib.hid (by omega)
  have HPE := Lib.hid hp
  rw [hp] at hT1 ⊢
  have HT1 := Lib.hid hT1
  have H1 := Lib.hid (hp.symm ▸ h1)
  clear hT1 h1 hp
  go_wp2_with fail
  refine (lives_any w1).mono ?_
  rintro e w2 ⟨rfl, h2⟩
  have hT2 := HT1.out.below h2
  have h2' := (HPE.out.symm ▸ H1.out : Below w.heap.size w w1).trans (h2.mono (HPE.out ▸ H1.out.size))
  have HT2 := Lib.hid hT2
  have H2 := Lib.hid h2'
  clear hT2 h2 h2' HT1 H1
  go_wp2_with fail
  obtain ⟨q, hq⟩ : ∃ q, w2.heap.size = q := ⟨_, rfl⟩
  obtain ⟨w3, hw3⟩ : ∃ w3, w2.alloc (.cells #[.int .i64 0, .int .i64 0, .int .i64 0, .int .i64 0, .int .i64 0, .int .i64 0, .int .i64 0, .int .i64 0] 41) = w3 := ⟨_, rfl⟩
  have hb23 : Below w2.heap.size w2 w3 := by rw [← hw3]; exact (Below.refl _ w2).alloc (Nat.le_refl _) _
  have hx3 : IsX w3 q [0, 0, 0, 0, 0, 0, 0, 0] := by unfold IsX; rw [← hw3, ← hq]; exact block_new w2 _
  have HS3 : Hid (StM w p q [0, 0, 0, 0, 0, 0, 0, 0] false w3) := Lib.hid ⟨HT2.out.below hb23, hx3, by have := HT2.out.lt; omega, HP.out, by have := H2.out.size; omega, H2.out.trans (hb23.mono H2.out.size)⟩
  rw [hw3, hq]
  clear hq hw3 hb23 hx3 HT2 H2 HPE
  go_loopw [5, 6] (fun s i wr => ∃ (k : Nat) (xs : List Int) (d : Bool), k ≤ zs.length ∧ i = .int .i64 k ∧ s = .bool d ∧ StM w p q xs d wr) (fun _ i _ => zs.length - (intOf i).toNat)
  case atStart => exact ⟨0, _, false, Nat.zero_le _, rfl, rfl, HS3.out⟩
  case round =>
    obtain ⟨k, xs, d, hk, rfl, rfl, hs⟩ := hrel
    by_cases hlt : k < zs.length
    · obtain ⟨g, o, rfl, hg, hcell⟩ := HR.out.2 (by omega)
      have hkl : (k : Int) < (zs.length : Int) := by omega
      have hbw := hs.2.2.2.2.2
      have k0 : wr.cell? ⟨g, o + k * 3, none⟩ = some (.int .i64 zs[k].k) := (hbw.cell (p := ⟨g, o + k * 3, none⟩) hg).trans (by have := hcell (k * 3 + 0) _ (by rw [flatN_at zs k 0 hlt (by omega)]; rfl); simpa using this)
      have k1 : wr.cell? ⟨g, o + k * 3 + 1, none⟩ = some (.int .i64 zs[k].i) := (hbw.cell (p := ⟨g, o + k * 3 + 1, none⟩) hg).trans (by have := hcell (k * 3 + 1) _ (by rw [flatN_at zs k 1 hlt (by omega)]; rfl); rw [← Nat.add_assoc] at this; exact this)
      have k2 : wr.cell? ⟨g, o + k * 3 + 2, none⟩ = some (.int .i64 zs[k].n) := (hbw.cell (p := ⟨g, o + k * 3 + 2, none⟩) hg).trans (by have := hcell (k * 3 + 2) _ (by rw [flatN_at zs k 2 hlt (by omega)]; rfl); rw [← Nat.add_assoc] at this; exact this)
      have hzn := HIN.out zs[k] (List.getElem_mem hlt)
      obtain ⟨⟨K, I, N⟩, hz⟩ : ∃ z, zs[k] = z := ⟨_, rfl⟩
      rw [hz] at k0 k1 k2 hzn
      simp only at k0 k1 k2 hzn
      obtain ⟨b, hb⟩ : ∃ b, wr.heap.size = b := ⟨_, rfl⟩
      obtain ⟨W0, hW0⟩ : ∃ W0, wr.alloc (.cells #[.int .i64 K, .int .i64 I, .int .i64 N] 43) = W0 := ⟨_, rfl⟩
      have hb0 : Below wr.heap.size wr W0 := by rw [← hW0]; exact (Below.refl _ wr).alloc (Nat.le_refl _) _
      have hob : W0.heap[b]? = some (.cells #[.int .i64 K, .int .i64 I, .int .i64 N] 43 (0, 0)) := by rw [← hW0, ← hb]; exact block_new wr _
      have HS := Lib.hid (hs.keep hb0)
      have HOB := Lib.hid hob
      have HPB : Hid (p < b ∧ q < b) := Lib.hid (by have h1 := hs.1.lt; have h2 := lt_of_block hs.2.1; omega)
      have h8 := hs.1.2
      have HW0 := Lib.hid hW0

      have hsz0 : W0.heap.size = b + 1 := by rw [← hW0]; simp [hb]
      have HSZ := Lib.hid hsz0
      have o0 : W0.cell? ⟨b, 0, none⟩ = some (.int .i64 K) := cell_at hob 0
      have o1 : W0.cell? ⟨b, 1, none⟩ = some (.int .i64 I) := cell_at hob 1
      have o2 : W0.cell? ⟨b, 2, none⟩ = some (.int .i64 N) := cell_at hob 2
      clear hcell hbw hs hb0 hob hz hW0 hsz0
      go_upto_region 10 with fail
      rw [HW0.out]
      clear k0 k1 k2
      go_cut [8] (fun s8 wx => s8 = .bool (inT I) ∧ W0 = wx)
      case first =>
        by_cases h0 : 0 ≤ I
        · by_cases h1 : I < 8
          · have hv : Hid (inT I = true) := Lib.hid (inT_iff.2 ⟨h0, h1⟩)
            go_wp2_with fail
            go_meet
            exact ⟨by rw [hv.out], rfl⟩
          · have hv : Hid (inT I = false) := Lib.hid (by simp [inT, h1])
            go_wp2_with fail
            go_meet
            exact ⟨by rw [hv.out], rfl⟩
        · have hv : Hid (inT I = false) := Lib.hid (by simp [inT, h0])
          go_wp2_with fail
          go_meet
          exact ⟨by rw [hv.out], rfl⟩
      case rest =>
      obtain ⟨rfl, rfl⟩ := hcut
      cases hI : inT I
      · have HI := Lib.hid hI
        clear hI
        as_aux_lemma =>
          go_upto_block 2 with fail
          go_cut [5] (fun s5 wx => ∃ (ys : List Int) (d' : Bool), s5 = .bool d' ∧ StM w p q ys d' wx ∧ wx.heap[b]? = some (.cells #[.int .i64 K, .int .i64 I, .int .i64 N] 43 (0, 0)))
          case first =>
            by_cases hK1 : K = 1
            · have hq1 : (K == 1) = true := by simp [hK1]
              clear hK1
              go_wp2_with fail
              refine (mark_out p I N HI.out W0).mono ?_
              rintro e w4 ⟨rfl, rfl⟩
              clear o0 o1 o2
              have HE := HS
              have HOE := HOB
              go_wp2_with fail
              go_meet
              exact ⟨_, _, rfl, HE.out, HOE.out⟩
            · by_cases hK2 : K = 2
              · have hq1 : (K == 1) = false := by simp [hK1]
                have hq2 : (K == 2) = true := by simp [hK2]
                clear hK1 hK2
                go_wp2_with fail
                have P1 : Hid (W0.drew.cell? ⟨b, 1, none⟩ = some (.int .i64 I)) := Lib.hid (by rw [World.cell?_drew]; exact o1)
                have P2 : Hid (W0.drew.cell? ⟨b, 2, none⟩ = some (.int .i64 N)) := Lib.hid (by rw [World.cell?_drew]; exact o2)
                clear o0 o1 o2
                refine wp_region_flow (fun W => W = W0.drew) [0, 1, 2, 3, 4, 5, 6, 7, 8, 9, 10] (by kernel_rfl) (by kernel_rfl) (by kernel_rfl) (rfl) ?_
                refine flow_val ?_ rfl (by kernel_rfl) (by rfl) (fun W hW => ?_) ?_
                rotate_left 1
                · go_simp <;> with_reducible rfl
                simp only [Act.put, List.setIfInBounds_toArray, List.set_cons_succ, List.set_cons_zero]
                refine flow_val ?_ rfl (by kernel_rfl) (by rfl) (fun W hW => ?_) ?_
                rotate_left 1
                · go_simp <;> with_reducible rfl
                simp only [Act.put, List.setIfInBounds_toArray, List.set_cons_succ, List.set_cons_zero]
                refine flow_off rfl (by kernel_rfl) (by rfl) ?_
                simp only [Act.put, List.setIfInBounds_toArray, List.set_cons_succ, List.set_cons_zero]
                refine flow_off rfl (by kernel_rfl) (by rfl) ?_
                simp only [Act.put, List.setIfInBounds_toArray, List.set_cons_succ, List.set_cons_zero]
                refine flow_off rfl (by kernel_rfl) (by rfl) ?_
                simp only [Act.put, List.setIfInBounds_toArray, List.set_cons_succ, List.set_cons_zero]
                refine flow_off rfl (by kernel_rfl) (by rfl) ?_
                simp only [Act.put, List.setIfInBounds_toArray, List.set_cons_succ, List.set_cons_zero]
                refine flow_off rfl (by kernel_rfl) (by rfl) ?_
                simp only [Act.put, List.setIfInBounds_toArray, List.set_cons_succ, List.set_cons_zero]
                refine flow_off rfl (by kernel_rfl) (by rfl) ?_
                simp only [Act.put, List.setIfInBounds_toArray, List.set_cons_succ, List.set_cons_zero]
                refine flow_off rfl (by kernel_rfl) (by rfl) ?_
                simp only [Act.put, List.setIfInBounds_toArray, List.set_cons_succ, List.set_cons_zero]
                refine flow_val ?_ rfl (by kernel_rfl) (by rfl) (fun W hW => ?_) ?_
                rotate_left 1
                · go_simp <;> with_reducible rfl
                simp only [Act.put, List.setIfInBounds_toArray, List.set_cons_succ, List.set_cons_zero]
                refine flow_val ?_ rfl (by kernel_rfl) (by rfl) (fun W hW => ?_) ?_
                rotate_left 1
                · go_simp <;> with_reducible rfl
                simp only [Act.put, List.setIfInBounds_toArray, List.set_cons_succ, List.set_cons_zero]
                refine flow_done ?_
                intro W hW
                subst hW
                have p1 := P1.out
                have p2 := P2.out
                go_wp2_with fail
                refine (most_out p I N HI.out _).mono ?_
                rintro e w4 ⟨rfl, hb4⟩
                have hb4' := (Below.refl W0.heap.size W0).drew.trans hb4
                have HE := Lib.hid (HS.out.keep hb4')
                have HOE := Lib.hid ((hb4'.block b (lt_of_block HOB.out)).trans HOB.out)
                clear hb4 hb4' p1 p2
                go_wp2_with fail
                go_meet
                exact ⟨_, _, rfl, HE.out, HOE.out⟩
              · by_cases hK3 : K = 3
                · have hq1 : (K == 1) = false := by simp [hK1]
                  have hq2 : (K == 2) = false := by simp [hK2]
                  have hq3 : (K == 3) = true := by simp [hK3]
                  clear hK1 hK2 hK3
                  go_wp2_with fail
                  have P1 : Hid (W0.drew.cell? ⟨b, 1, none⟩ = some (.int .i64 I)) := Lib.hid (by rw [World.cell?_drew]; exact o1)
                  have P2 : Hid (W0.drew.cell? ⟨b, 2, none⟩ = some (.int .i64 N)) := Lib.hid (by rw [World.cell?_drew]; exact o2)
                  clear o0 o1 o2
                  refine wp_region_flow (fun W => W = W0.drew) [0, 1, 2, 3, 4, 5, 6, 7, 8, 9, 10, 11, 12, 13, 14, 15] (by kernel_rfl) (by kernel_rfl) (by kernel_rfl) (rfl) ?_
                  refine flow_val ?_ rfl (by kernel_rfl) (by rfl) (fun W hW => ?_) ?_
                  rotate_left 1
                  · go_simp <;> with_reducible rfl
                  simp only [Act.put, List.setIfInBounds_toArray, List.set_cons_succ, List.set_cons_zero]
                  refine flow_val ?_ rfl (by kernel_rfl) (by rfl) (fun W hW => ?_) ?_
                  rotate_left 1
                  · go_simp <;> with_reducible rfl
                  simp only [Act.put, List.setIfInBounds_toArray, List.set_cons_succ, List.set_cons_zero]
                  refine flow_off rfl (by kernel_rfl) (by rfl) ?_
                  simp only [Act.put, List.setIfInBounds_toArray, List.set_cons_succ, List.set_cons_zero]
                  refine flow_off rfl (by kernel_rfl) (by rfl) ?_
                  simp only [Act.put, List.setIfInBounds_toArray, List.set_cons_succ, List.set_cons_zero]
                  refine flow_off rfl (by kernel_rfl) (by rfl) ?_
                  simp only [Act.put, List.setIfInBounds_toArray, List.set_cons_succ, List.set_cons_zero]
                  refine flow_val ?_ rfl (by kernel_rfl) (by rfl) (fun W hW => ?_) ?_
                  rotate_left 1
                  · go_simp <;> with_reducible rfl
                  simp only [Act.put, List.setIfInBounds_toArray, List.set_cons_succ, List.set_cons_zero]
                  refine flow_val ?_ rfl (by kernel_rfl) (by rfl) (fun W hW => ?_) ?_
                  rotate_left 1
                  · go_simp <;> with_reducible rfl
                  simp only [Act.put, List.setIfInBounds_toArray, List.set_cons_succ, List.set_cons_zero]
                  refine flow_off rfl (by kernel_rfl) (by rfl) ?_
                  simp only [Act.put, List.setIfInBounds_toArray, List.set_cons_succ, List.set_cons_zero]
                  refine flow_off rfl (by kernel_rfl) (by rfl) ?_
                  simp only [Act.put, List.setIfInBounds_toArray, List.set_cons_succ, List.set_cons_zero]
                  refine flow_off rfl (by kernel_rfl) (by rfl) ?_
                  simp only [Act.put, List.setIfInBounds_toArray, List.set_cons_succ, List.set_cons_zero]
                  refine flow_off rfl (by kernel_rfl) (by rfl) ?_
                  simp only [Act.put, List.setIfInBounds_toArray, List.set_cons_succ, List.set_cons_zero]
                  refine flow_off rfl (by kernel_rfl) (by rfl) ?_
                  simp only [Act.put, List.setIfInBounds_toArray, List.set_cons_succ, List.set_cons_zero]
                  refine flow_off rfl (by kernel_rfl) (by rfl) ?_
                  simp only [Act.put, List.setIfInBounds_toArray, List.set_cons_succ, List.set_cons_zero]
                  refine flow_off rfl (by kernel_rfl) (by rfl) ?_
                  simp only [Act.put, List.setIfInBounds_toArray, List.set_cons_succ, List.set_cons_zero]
                  refine flow_val ?_ rfl (by kernel_rfl) (by rfl) (fun W hW => ?_) ?_
                  rotate_left 1
                  · go_simp <;> with_reducible rfl
                  simp only [Act.put, List.setIfInBounds_toArray, List.set_cons_succ, List.set_cons_zero]
                  refine flow_val ?_ rfl (by kernel_rfl) (by rfl) (fun W hW => ?_) ?_
                  rotate_left 1
                  · go_simp <;> with_reducible rfl
                  simp only [Act.put, List.setIfInBounds_toArray, List.set_cons_succ, List.set_cons_zero]
                  refine flow_done ?_
                  intro W hW
                  subst hW
                  have p1 := P1.out
                  have p2 := P2.out
                  go_wp2_with fail
                  refine (take_out p I N HI.out _).mono ?_
                  rintro e w4 ⟨rfl, hb4⟩
                  have hb4' := (Below.refl W0.heap.size W0).drew.trans hb4
                  have HE := Lib.hid (HS.out.keep hb4')
                  have HOE := Lib.hid ((hb4'.block b (lt_of_block HOB.out)).trans HOB.out)
                  clear hb4 hb4' p1 p2
                  go_wp2_with fail
                  go_meet
                  exact ⟨_, _, rfl, HE.out, HOE.out⟩
                · by_cases hK4 : K = 4
                  · have hq1 : (K == 1) = false := by simp [hK1]
                    have hq2 : (K == 2) = false := by simp [hK2]
                    have hq3 : (K == 3) = false := by simp [hK3]
                    have hq4 : (K == 4) = true := by simp [hK4]
                    clear hK1 hK2 hK3 hK4
                    cases d
                    · go_wp2_with fail
                      refine (start_first p xs W0 HS.out.1).mono ?_
                      rintro e w4 ⟨rfl, hT4, hf4⟩
                      have HE := Lib.hid (HS.out.turn hT4 hf4)
                      have HOE := Lib.hid ((hf4.block b (lt_of_block HOB.out) (.inr ⟨by simp, by have := HPB.out; simp; omega⟩)).trans HOB.out)
                      clear hT4 hf4 o0 o1 o2
                      go_wp2_with fail
                      go_meet
                      exact ⟨_, _, rfl, HE.out, HOE.out⟩
                    · go_wp2_with fail
                      refine (start_again p xs W0 HS.out.1).mono ?_
                      rintro e w4 ⟨rfl, hb4⟩
                      have HE := Lib.hid (HS.out.keep hb4)
                      have HOE := Lib.hid ((hb4.block b (lt_of_block HOB.out)).trans HOB.out)
                      clear hb4 o0 o1 o2
                      go_wp2_with fail
                      go_meet
                      exact ⟨_, _, rfl, HE.out, HOE.out⟩
                  · have hq1 : (K == 1) = false := by simp [hK1]
                    have hq2 : (K == 2) = false := by simp [hK2]
                    have hq3 : (K == 3) = false := by simp [hK3]
                    have hq4 : (K == 4) = false := by simp [hK4]
                    clear hK1 hK2 hK3 hK4
                    go_wp2_with fail
                    clear o0 o1 o2
                    have HE := HS
                    have HOE := HOB
                    go_meet
                    exact ⟨_, _, rfl, HE.out, HOE.out⟩
          case rest =>
            obtain ⟨xs', d', rfl, hE, hOE⟩ := hcut
            have HE := Lib.hid hE
            have HOE := Lib.hid hOE
            clear hE hOE o0 o1 o2
            have hE8 : (xs').length = 8 := HE.out.1.2
            obtain ⟨ys, hys⟩ : ∃ ys, (xs') = ys := ⟨_, rfl⟩
            rw [hys] at HE hE8
            clear hys
            obtain ⟨y0, y1, y2, y3, y4, y5, y6, y7, hy⟩ := eight ys hE8
            have hQ : ∀ W, Below (wc).heap.size (wc) W → StM w p q ys d' W ∧ W.cell? ⟨b, 1, none⟩ = some (.int .i64 I) ∧ W.cell? ⟨q, 0, none⟩ = some (.int .i64 y0) ∧ W.cell? ⟨q, 1, none⟩ = some (.int .i64 y1) ∧ W.cell? ⟨q, 2, none⟩ = some (.int .i64 y2) ∧ W.cell? ⟨q, 3, none⟩ = some (.int .i64 y3) ∧ W.cell? ⟨q, 4, none⟩ = some (.int .i64 y4) ∧ W.cell? ⟨q, 5, none⟩ = some (.int .i64 y5) ∧ W.cell? ⟨q, 6, none⟩ = some (.int .i64 y6) ∧ W.cell? ⟨q, 7, none⟩ = some (.int .i64 y7) := fun W hW => by
              have hk := HE.out.keep hW
              have hx := hk.2.1
              rw [hy] at hx
              unfold IsX at hx
              exact ⟨hk, cell_at ((hW.block b (lt_of_block HOE.out)).trans HOE.out) 1, map_eight hx⟩
            have HQ := Lib.hid hQ
            have HY := Lib.hid hy
            clear hQ hy hE8
            go_wp2_with fail
            refine wp_region_flow (fun W => Below (wc).heap.size (wc) W) [0, 1, 2, 3, 4, 5, 6, 7, 8, 9, 10, 11, 12, 13, 14, 15, 16, 17, 18, 19, 20, 21, 22, 23, 24, 26, 25, 27, 28] (by kernel_rfl) (by kernel_rfl) (by kernel_rfl) ((Below.refl _ _).drew) ?_
            refine flow_val ?_ rfl (by kernel_rfl) (by rfl) (fun W hW => ?_) ?_
            rotate_left 1
            · go_simp <;> with_reducible rfl
            simp only [Act.put, List.setIfInBounds_toArray, List.set_cons_succ, List.set_cons_zero]
            refine flow_val ?_ rfl (by kernel_rfl) (by rfl) (fun W hW => ?_) ?_
            rotate_left 1
            · go_simp <;> with_reducible rfl
            simp only [Act.put, List.setIfInBounds_toArray, List.set_cons_succ, List.set_cons_zero]
            refine flow_off rfl (by kernel_rfl) (by rfl) ?_
            simp only [Act.put, List.setIfInBounds_toArray, List.set_cons_succ, List.set_cons_zero]
            refine flow_off rfl (by kernel_rfl) (by rfl) ?_
            simp only [Act.put, List.setIfInBounds_toArray, List.set_cons_succ, List.set_cons_zero]
            refine flow_off rfl (by kernel_rfl) (by rfl) ?_
            simp only [Act.put, List.setIfInBounds_toArray, List.set_cons_succ, List.set_cons_zero]
            refine flow_off rfl (by kernel_rfl) (by rfl) ?_
            simp only [Act.put, List.setIfInBounds_toArray, List.set_cons_succ, List.set_cons_zero]
            refine flow_off rfl (by kernel_rfl) (by rfl) ?_
            simp only [Act.put, List.setIfInBounds_toArray, List.set_cons_succ, List.set_cons_zero]
            refine flow_off rfl (by kernel_rfl) (by rfl) ?_
            simp only [Act.put, List.setIfInBounds_toArray, List.set_cons_succ, List.set_cons_zero]
            refine flow_off rfl (by kernel_rfl) (by rfl) ?_
            simp only [Act.put, List.setIfInBounds_toArray, List.set_cons_succ, List.set_cons_zero]
            refine flow_off rfl (by kernel_rfl) (by rfl) ?_
            simp only [Act.put, List.setIfInBounds_toArray, List.set_cons_succ, List.set_cons_zero]
            refine flow_off rfl (by kernel_rfl) (by rfl) ?_
            simp only [Act.put, List.setIfInBounds_toArray, List.set_cons_succ, List.set_cons_zero]
            refine flow_val ?_ rfl (by kernel_rfl) (by rfl) (fun W hW => ?_) ?_
            rotate_left 1
            · go_simp <;> with_reducible rfl
            simp only [Act.put, List.setIfInBounds_toArray, List.set_cons_succ, List.set_cons_zero]
            refine flow_val ?_ rfl (by kernel_rfl) (by rfl) (fun W hW => ?_) ?_
            rotate_left 1
            · go_simp <;> with_reducible rfl
            simp only [Act.put, List.setIfInBounds_toArray, List.set_cons_succ, List.set_cons_zero]
            refine flow_val ?_ rfl (by kernel_rfl) (by rfl) (fun W hW => ?_) ?_
            rotate_left 1
            · go_simp <;> with_reducible rfl
            simp only [Act.put, List.setIfInBounds_toArray, List.set_cons_succ, List.set_cons_zero]
            refine flow_val ?_ rfl (by kernel_rfl) (by rfl) (fun W hW => ?_) ?_
            rotate_left 1
            · go_simp <;> with_reducible rfl
            simp only [Act.put, List.setIfInBounds_toArray, List.set_cons_succ, List.set_cons_zero]
            refine flow_val ?_ rfl (by kernel_rfl) (by rfl) (fun W hW => ?_) ?_
            rotate_left 1
            · go_simp <;> with_reducible rfl
            simp only [Act.put, List.setIfInBounds_toArray, List.set_cons_succ, List.set_cons_zero]
            refine flow_val ?_ rfl (by kernel_rfl) (by rfl) (fun W hW => ?_) ?_
            rotate_left 1
            · go_simp <;> with_reducible rfl
            simp only [Act.put, List.setIfInBounds_toArray, List.set_cons_succ, List.set_cons_zero]
            refine flow_val ?_ rfl (by kernel_rfl) (by rfl) (fun W hW => ?_) ?_
            rotate_left 1
            · go_simp <;> with_reducible rfl
            simp only [Act.put, List.setIfInBounds_toArray, List.set_cons_succ, List.set_cons_zero]
            refine flow_val ?_ rfl (by kernel_rfl) (by rfl) (fun W hW => ?_) ?_
            rotate_left 1
            · obtain ⟨hS, qb, q0, q1, q2, q3, q4, q5, q6, q7⟩ := HQ.out W hW; clear hS; go_simp <;> with_reducible rfl
            simp only [Act.put, List.setIfInBounds_toArray, List.set_cons_succ, List.set_cons_zero]
            refine flow_quiet (.int .i64 0) rfl (by kernel_rfl) (by rfl) (fun W hW => ⟨_, _, by go_simp, (get_out p I HI.out W)⟩) ?_
            simp only [Act.put, List.setIfInBounds_toArray, List.set_cons_succ, List.set_cons_zero]
            refine flow_val ?_ rfl (by kernel_rfl) (by rfl) (fun W hW => ?_) ?_
            rotate_left 1
            · go_simp <;> with_reducible rfl
            simp only [Act.put, List.setIfInBounds_toArray, List.set_cons_succ, List.set_cons_zero]
            refine flow_val ?_ rfl (by kernel_rfl) (by rfl) (fun W hW => ?_) ?_
            rotate_left 1
            · go_simp <;> with_reducible rfl
            simp only [Act.put, List.setIfInBounds_toArray, List.set_cons_succ, List.set_cons_zero]
            refine flow_val ?_ rfl (by kernel_rfl) (by rfl) (fun W hW => ?_) ?_
            rotate_left 1
            · go_simp <;> with_reducible rfl
            simp only [Act.put, List.setIfInBounds_toArray, List.set_cons_succ, List.set_cons_zero]
            refine flow_val ?_ rfl (by kernel_rfl) (by rfl) (fun W hW => ?_) ?_
            rotate_left 1
            · go_simp <;> with_reducible rfl
            simp only [Act.put, List.setIfInBounds_toArray, List.set_cons_succ, List.set_cons_zero]
            refine flow_val ?_ rfl (by kernel_rfl) (by rfl) (fun W hW => ?_) ?_
            rotate_left 1
            · go_simp <;> with_reducible rfl
            simp only [Act.put, List.setIfInBounds_toArray, List.set_cons_succ, List.set_cons_zero]
            refine flow_val ?_ rfl (by kernel_rfl) (by rfl) (fun W hW => ?_) ?_
            rotate_left 1
            · obtain ⟨hS, qb, q0, q1, q2, q3, q4, q5, q6, q7⟩ := HQ.out W hW; clear hS; go_simp <;> with_reducible rfl
            simp only [Act.put, List.setIfInBounds_toArray, List.set_cons_succ, List.set_cons_zero]
            refine flow_call (.agg #[.int .i64 y0, .int .i64 y1, .int .i64 y2, .int .i64 y3, .int .i64 y4, .int .i64 y5, .int .i64 y6, .int .i64 y7]) rfl (by kernel_rfl) (by rfl) (by kernel_rfl) (fun W hW => ⟨_, _, _, by go_simp, (all_in p ys d' W (HE.out.keep hW).1).mono fun e w1 ⟨he, h⟩ => ⟨by rw [he, HY.out]; rfl, hW.trans (h.mono hW.size)⟩⟩) ?_
            simp only [Act.put, List.setIfInBounds_toArray, List.set_cons_succ, List.set_cons_zero]
            refine flow_val ?_ rfl (by kernel_rfl) (by rfl) (fun W hW => ?_) ?_
            rotate_left 1
            · have heq := eq8_same y0 y1 y2 y3 y4 y5 y6 y7 W; go_simp <;> with_reducible rfl
            simp only [Act.put, List.setIfInBounds_toArray, List.set_cons_succ, List.set_cons_zero]
            refine flow_val ?_ rfl (by kernel_rfl) (by rfl) (fun W hW => ?_) ?_
            rotate_left 1
            · go_simp <;> with_reducible rfl
            simp only [Act.put, List.setIfInBounds_toArray, List.set_cons_succ, List.set_cons_zero]
            refine flow_done ?_
            intro W hW
            have HF := Lib.hid (HE.out.keep hW.1)
            clear hW
            go_wp2_with fail
            go_roundw
            case rel => exact ⟨k + 1, ys, d', hlt, by go_num, rfl, HF.out⟩
            case measure => simp [intOf]; omega
      · obtain ⟨hI0, hI8⟩ := inT_iff.1 hI
        obtain ⟨i, rfl⟩ : ∃ i : Nat, I = (i : Int) := ⟨I.toNat, by omega⟩
        have hi8 : i < 8 := by omega
        clear hI
        as_aux_lemma =>
          go_upto_block 2 with fail
          go_cut [5] (fun s5 wx => ∃ (ys : List Int) (d' : Bool), s5 = .bool d' ∧ StM w p q ys d' wx ∧ wx.heap[b]? = some (.cells #[.int .i64 K, .int .i64 (i : Int), .int .i64 N] 43 (0, 0)))
          case first =>
            by_cases hK1 : K = 1
            · have hq1 : (K == 1) = true := by simp [hK1]
              clear hK1
              go_wp2_with fail
              obtain ⟨v, hv⟩ : ∃ v, xs.getD i 0 = v := ⟨_, rfl⟩
              obtain ⟨V, hV⟩ : ∃ V, IntKind.i64.wrap (v + N) = V := ⟨_, rfl⟩
              have qi := HS.out.2.1.cellD h8 hi8
              rw [hv] at qi
              have qf : W0.frozen? ⟨q, i, none⟩ = false := frozen_at HS.out.2.1 i
              have HV := Lib.hid (show wrapI (xs.getD i 0 + N) = V by rw [hv]; exact hV)
              clear hv
              go_region
              obtain ⟨W1, hW1⟩ : ∃ W1, W0.setCell ⟨q, i, none⟩ (.int .i64 V) = W1 := ⟨_, rfl⟩
              rw [hW1]
              have hfx : Fr 0 [] [q] W0 W1 := by rw [← hW1]; exact (Fr.refl W0).setCell (p := ⟨q, i, none⟩) _ (Nat.zero_le _) (.inl (by simp))
              have hT1 : IsTal W1 p xs d := ⟨(hfx.block p HS.out.1.lt (.inr ⟨by simp, by simp; exact HS.out.2.2.1⟩)).trans HS.out.1.1, h8⟩
              have hT1d : IsTal W1.drew p xs d := hT1
              have hx1 : IsX W1 q (xs.set i V) := by rw [← hW1]; exact HS.out.2.1.set i V
              have qi1 : W1.drew.cell? ⟨q, i, none⟩ = some (.int .i64 V) := by
                have := hx1.cellD (by rw [List.length_set]; exact h8) hi8
                rw [World.cell?_drew, this]
                simp [h8, hi8]
              have ob1 := (hfx.block b (lt_of_block HOB.out) (.inr ⟨by simp, by have := HPB.out; simp; omega⟩)).trans HOB.out
              have p1 : W1.drew.cell? ⟨b, 1, none⟩ = some (.int .i64 (i : Int)) := by rw [World.cell?_drew]; exact cell_at ob1 1
              have p2 : W1.drew.cell? ⟨b, 2, none⟩ = some (.int .i64 N) := by rw [World.cell?_drew]; exact cell_at ob1 2
              have HT1 := Lib.hid hT1d
              have HW1 := Lib.hid hW1
              have HOB1 := Lib.hid ob1
              clear hfx hT1 hT1d hx1 ob1 hW1 qi qf o0 o1 o2 hV
              go_wp2_with fail
              refine (markD_in p xs d i hi8 N V W1.drew HT1.out HV.out).mono ?_
              rintro e w4 ⟨rfl, hT4, hf4⟩
              have hf4' : Fr 0 [] [p] W1 w4 := (Fr.of_below (Below.refl _ W1).drew).trans hf4
              have HE := Lib.hid (HS.out.set i V hT4 (by rw [HW1.out]; exact hf4') rfl)
              have HOE := Lib.hid ((hf4'.block b (lt_of_block HOB1.out) (.inr ⟨by simp, by have := HPB.out; simp; omega⟩)).trans HOB1.out)
              clear hT4 hf4 hf4' qi1 p1 p2
              go_wp2_with fail
              go_meet
              exact ⟨_, _, rfl, HE.out, HOE.out⟩
            · by_cases hK2 : K = 2
              · have hq1 : (K == 1) = false := by simp [hK1]
                have hq2 : (K == 2) = true := by simp [hK2]
                clear hK1 hK2
                go_wp2_with fail
                obtain ⟨v, hv⟩ : ∃ v, xs.getD i 0 = v := ⟨_, rfl⟩
                have HVv := Lib.hid hv
                have QI : Hid (W0.drew.cell? ⟨q, i, none⟩ = some (.int .i64 v)) := Lib.hid (by rw [World.cell?_drew, ← hv]; exact HS.out.2.1.cellD h8 hi8)
                have QF : Hid (W0.drew.frozen? ⟨q, i, none⟩ = false) := Lib.hid (frozen_at HS.out.2.1 i)
                have P1 : Hid (W0.drew.cell? ⟨b, 1, none⟩ = some (.int .i64 (i : Int))) := Lib.hid (by rw [World.cell?_drew]; exact o1)
                have P2 : Hid (W0.drew.cell? ⟨b, 2, none⟩ = some (.int .i64 N)) := Lib.hid (by rw [World.cell?_drew]; exact o2)
                have qi0 : W0.cell? ⟨q, i, none⟩ = some (.int .i64 v) := by rw [← hv]; exact HS.out.2.1.cellD h8 hi8
                have qf0 : W0.frozen? ⟨q, i, none⟩ = false := frozen_at HS.out.2.1 i
                have hqb : ¬ q = b := by have := HPB.out; omega
                have hbq : ¬ b = q := by have := HPB.out; omega
                clear hv o0
                by_cases hwv : v < N
                · have hdv : decide (v < N) = true := by simp [hwv]
                  refine wp_region_flow (fun W => W = W0.drew) [0, 1, 2, 3, 4, 5, 6, 7, 8, 9, 10] (by kernel_rfl) (by kernel_rfl) (by kernel_rfl) (rfl) ?_
                  refine flow_val ?_ rfl (by kernel_rfl) (by rfl) (fun W hW => ?_) ?_
                  rotate_left 1
                  · go_simp <;> with_reducible rfl
                  simp only [Act.put, List.setIfInBounds_toArray, List.set_cons_succ, List.set_cons_zero]
                  refine flow_val ?_ rfl (by kernel_rfl) (by rfl) (fun W hW => ?_) ?_
                  rotate_left 1
                  · go_simp <;> with_reducible rfl
                  simp only [Act.put, List.setIfInBounds_toArray, List.set_cons_succ, List.set_cons_zero]
                  refine flow_val ?_ rfl (by kernel_rfl) (by rfl) (fun W hW => ?_) ?_
                  rotate_left 1
                  · subst hW; have c1 := P1.out; have c2 := P2.out; have ci := QI.out; go_simp <;> with_reducible rfl
                  simp only [Act.put, List.setIfInBounds_toArray, List.set_cons_succ, List.set_cons_zero]
                  refine flow_val ?_ rfl (by kernel_rfl) (by rfl) (fun W hW => ?_) ?_
                  rotate_left 1
                  · subst hW; have c1 := P1.out; have c2 := P2.out; have ci := QI.out; go_simp <;> with_reducible rfl
                  simp only [Act.put, List.setIfInBounds_toArray, List.set_cons_succ, List.set_cons_zero]
                  refine flow_val ?_ rfl (by kernel_rfl) (by rfl) (fun W hW => ?_) ?_
                  rotate_left 1
                  · subst hW; have c1 := P1.out; have c2 := P2.out; have ci := QI.out; go_simp <;> with_reducible rfl
                  simp only [Act.put, List.setIfInBounds_toArray, List.set_cons_succ, List.set_cons_zero]
                  refine flow_val ?_ rfl (by kernel_rfl) (by rfl) (fun W hW => ?_) ?_
                  rotate_left 1
                  · subst hW; have c1 := P1.out; have c2 := P2.out; have ci := QI.out; go_simp <;> with_reducible rfl
                  simp only [Act.put, List.setIfInBounds_toArray, List.set_cons_succ, List.set_cons_zero]
                  refine flow_val ?_ rfl (by kernel_rfl) (by rfl) (fun W hW => ?_) ?_
                  rotate_left 1
                  · subst hW; have c1 := P1.out; have c2 := P2.out; have ci := QI.out; go_simp <;> with_reducible rfl
                  simp only [Act.put, List.setIfInBounds_toArray, List.set_cons_succ, List.set_cons_zero]
                  refine flow_val ?_ rfl (by kernel_rfl) (by rfl) (fun W hW => ?_) ?_
                  rotate_left 1
                  · subst hW; have c1 := P1.out; have c2 := P2.out; have ci := QI.out; go_simp <;> with_reducible rfl
                  simp only [Act.put, List.setIfInBounds_toArray, List.set_cons_succ, List.set_cons_zero]
                  refine flow_val ?_ rfl (by kernel_rfl) (by rfl) (fun W hW => ?_) ?_
                  rotate_left 1
                  · go_simp <;> with_reducible rfl
                  simp only [Act.put, List.setIfInBounds_toArray, List.set_cons_succ, List.set_cons_zero]
                  refine flow_val ?_ rfl (by kernel_rfl) (by rfl) (fun W hW => ?_) ?_
                  rotate_left 1
                  · go_simp <;> with_reducible rfl
                  simp only [Act.put, List.setIfInBounds_toArray, List.set_cons_succ, List.set_cons_zero]
                  refine flow_val ?_ rfl (by kernel_rfl) (by rfl) (fun W hW => ?_) ?_
                  rotate_left 1
                  · go_simp <;> with_reducible rfl
                  simp only [Act.put, List.setIfInBounds_toArray, List.set_cons_succ, List.set_cons_zero]
                  refine flow_done ?_
                  intro W hW
                  subst hW
                  go_wp2_with fail
                  obtain ⟨W1, hW1⟩ : ∃ W1, (W0.setCell ⟨q, i, none⟩ (.int .i64 N)).drew = W1 := ⟨_, rfl⟩
                  rw [hW1]
                  clear o1 o2 qi0 qf0
                  have hfx : Fr 0 [] [q] W0 W1 := by rw [← hW1]; exact (((Fr.refl W0).setCell (p := ⟨q, i, none⟩) _ (Nat.zero_le _) (.inl (by simp))).trans (Fr.of_below (Below.refl _ _).drew))
                  have hT1 : IsTal W1 p xs d := ⟨(hfx.block p HS.out.1.lt (.inr ⟨by simp, by simp; exact HS.out.2.2.1⟩)).trans HS.out.1.1, h8⟩
                  have ob1 := (hfx.block b (lt_of_block HOB.out) (.inr ⟨by simp, by have := HPB.out; simp; omega⟩)).trans HOB.out
                  have p1 : W1.cell? ⟨b, 1, none⟩ = some (.int .i64 (i : Int)) := cell_at ob1 1
                  have p2 : W1.cell? ⟨b, 2, none⟩ = some (.int .i64 N) := cell_at ob1 2
                  have HT1 := Lib.hid hT1
                  have HW1 := Lib.hid hW1
                  have HOB1 := Lib.hid ob1
                  clear hfx hT1 ob1 hW1
                  refine (most_in p xs d i hi8 N W1 HT1.out v HVv.out).mono ?_
                  rintro e w4 ⟨rfl, hT4, hf4⟩
                  have hdec : decide (v < N) = true := by rw [decide_eq_true_iff]; omega
                  rw [hdec] at hT4 ⊢
                  simp only [if_true] at hT4
                  have HE := Lib.hid (HS.out.set i N hT4 ((Fr.of_below (Below.refl _ _).drew).trans (by rw [HW1.out]; exact hf4)) rfl)
                  have HOE := Lib.hid ((hf4.block b (lt_of_block HOB1.out) (.inr ⟨by simp, by have := HPB.out; simp; omega⟩)).trans HOB1.out)
                  clear hT4 hf4 p1 p2 hdec hdv
                  go_wp2_with fail
                  go_meet
                  exact ⟨_, _, rfl, HE.out, HOE.out⟩
                · have hdv : decide (v < N) = false := by simp [hwv]
                  refine wp_region_flow (fun W => W = W0.drew) [0, 1, 2, 3, 4, 5, 6, 7, 8, 9, 10] (by kernel_rfl) (by kernel_rfl) (by kernel_rfl) (rfl) ?_
                  refine flow_val ?_ rfl (by kernel_rfl) (by rfl) (fun W hW => ?_) ?_
                  rotate_left 1
                  · go_simp <;> with_reducible rfl
                  simp only [Act.put, List.setIfInBounds_toArray, List.set_cons_succ, List.set_cons_zero]
                  refine flow_val ?_ rfl (by kernel_rfl) (by rfl) (fun W hW => ?_) ?_
                  rotate_left 1
                  · go_simp <;> with_reducible rfl
                  simp only [Act.put, List.setIfInBounds_toArray, List.set_cons_succ, List.set_cons_zero]
                  refine flow_val ?_ rfl (by kernel_rfl) (by rfl) (fun W hW => ?_) ?_
                  rotate_left 1
                  · subst hW; have c1 := P1.out; have c2 := P2.out; have ci := QI.out; go_simp <;> with_reducible rfl
                  simp only [Act.put, List.setIfInBounds_toArray, List.set_cons_succ, List.set_cons_zero]
                  refine flow_val ?_ rfl (by kernel_rfl) (by rfl) (fun W hW => ?_) ?_
                  rotate_left 1
                  · subst hW; have c1 := P1.out; have c2 := P2.out; have ci := QI.out; go_simp <;> with_reducible rfl
                  simp only [Act.put, List.setIfInBounds_toArray, List.set_cons_succ, List.set_cons_zero]
                  refine flow_val ?_ rfl (by kernel_rfl) (by rfl) (fun W hW => ?_) ?_
                  rotate_left 1
                  · subst hW; have c1 := P1.out; have c2 := P2.out; have ci := QI.out; go_simp <;> with_reducible rfl
                  simp only [Act.put, List.setIfInBounds_toArray, List.set_cons_succ, List.set_cons_zero]
                  refine flow_val ?_ rfl (by kernel_rfl) (by rfl) (fun W hW => ?_) ?_
                  rotate_left 1
                  · subst hW; have c1 := P1.out; have c2 := P2.out; have ci := QI.out; go_simp <;> with_reducible rfl
                  simp only [Act.put, List.setIfInBounds_toArray, List.set_cons_succ, List.set_cons_zero]
                  refine flow_val ?_ rfl (by kernel_rfl) (by rfl) (fun W hW => ?_) ?_
                  rotate_left 1
                  · subst hW; have c1 := P1.out; have c2 := P2.out; have ci := QI.out; go_simp <;> with_reducible rfl
                  simp only [Act.put, List.setIfInBounds_toArray, List.set_cons_succ, List.set_cons_zero]
                  refine flow_val ?_ rfl (by kernel_rfl) (by rfl) (fun W hW => ?_) ?_
                  rotate_left 1
                  · subst hW; have c1 := P1.out; have c2 := P2.out; have ci := QI.out; go_simp <;> with_reducible rfl
                  simp only [Act.put, List.setIfInBounds_toArray, List.set_cons_succ, List.set_cons_zero]
                  refine flow_val ?_ rfl (by kernel_rfl) (by rfl) (fun W hW => ?_) ?_
                  rotate_left 1
                  · go_simp <;> with_reducible rfl
                  simp only [Act.put, List.setIfInBounds_toArray, List.set_cons_succ, List.set_cons_zero]
                  refine flow_val ?_ rfl (by kernel_rfl) (by rfl) (fun W hW => ?_) ?_
                  rotate_left 1
                  · go_simp <;> with_reducible rfl
                  simp only [Act.put, List.setIfInBounds_toArray, List.set_cons_succ, List.set_cons_zero]
                  refine flow_val ?_ rfl (by kernel_rfl) (by rfl) (fun W hW => ?_) ?_
                  rotate_left 1
                  · go_simp <;> with_reducible rfl
                  simp only [Act.put, List.setIfInBounds_toArray, List.set_cons_succ, List.set_cons_zero]
                  refine flow_done ?_
                  intro W hW
                  subst hW
                  have HT1 : Hid (IsTal W0.drew p xs d) := Lib.hid HS.out.1
                  go_wp2_with fail
                  refine (most_in p xs d i hi8 N W0.drew HT1.out v HVv.out).mono ?_
                  rintro e w4 ⟨rfl, hT4, hf4⟩
                  have hdec : decide (v < N) = false := by rw [decide_eq_false_iff_not]; omega
                  rw [hdec] at hT4 ⊢
                  simp only [Bool.false_eq_true, if_false] at hT4
                  have hf4' : Fr 0 [] [p] W0 w4 := (Fr.of_below (Below.refl _ W0).drew).trans hf4
                  have HE := Lib.hid (HS.out.turn hT4 hf4')
                  have HOE := Lib.hid ((hf4'.block b (lt_of_block HOB.out) (.inr ⟨by simp, by have := HPB.out; simp; omega⟩)).trans HOB.out)
                  clear hT4 hf4 hf4' o1 o2 qi0 qf0 hdec hdv
                  go_wp2_with fail
                  go_meet
                  exact ⟨_, _, rfl, HE.out, HOE.out⟩
              · by_cases hK3 : K = 3
                · have hq1 : (K == 1) = false := by simp [hK1]
                  have hq2 : (K == 2) = false := by simp [hK2]
                  have hq3 : (K == 3) = true := by simp [hK3]
                  clear hK1 hK2 hK3
                  go_wp2_with fail
                  obtain ⟨v, hv⟩ : ∃ v, xs.getD i 0 = v := ⟨_, rfl⟩
                  have HVv := Lib.hid hv
                  have QI : Hid (W0.drew.cell? ⟨q, i, none⟩ = some (.int .i64 v)) := Lib.hid (by rw [World.cell?_drew, ← hv]; exact HS.out.2.1.cellD h8 hi8)
                  have QF : Hid (W0.drew.frozen? ⟨q, i, none⟩ = false) := Lib.hid (frozen_at HS.out.2.1 i)
                  have P1 : Hid (W0.drew.cell? ⟨b, 1, none⟩ = some (.int .i64 (i : Int))) := Lib.hid (by rw [World.cell?_drew]; exact o1)
                  have P2 : Hid (W0.drew.cell? ⟨b, 2, none⟩ = some (.int .i64 N)) := Lib.hid (by rw [World.cell?_drew]; exact o2)
                  have qi0 : W0.cell? ⟨q, i, none⟩ = some (.int .i64 v) := by rw [← hv]; exact HS.out.2.1.cellD h8 hi8
                  have qf0 : W0.frozen? ⟨q, i, none⟩ = false := frozen_at HS.out.2.1 i
                  have hqb : ¬ q = b := by have := HPB.out; omega
                  have hbq : ¬ b = q := by have := HPB.out; omega
                  clear hv o0
                  by_cases hn0 : 0 ≤ N
                  · by_cases hwv : N ≤ v
                    · have hdv : decide (N ≤ v) = true := by simp [hwv]
                      refine wp_region_flow (fun W => W = W0.drew) [0, 1, 2, 3, 4, 5, 6, 7, 8, 9, 10, 11, 12, 13, 14, 15] (by kernel_rfl) (by kernel_rfl) (by kernel_rfl) (rfl) ?_
                      refine flow_val ?_ rfl (by kernel_rfl) (by rfl) (fun W hW => ?_) ?_
                      rotate_left 1
                      · go_simp <;> with_reducible rfl
                      simp only [Act.put, List.setIfInBounds_toArray, List.set_cons_succ, List.set_cons_zero]
                      refine flow_val ?_ rfl (by kernel_rfl) (by rfl) (fun W hW => ?_) ?_
                      rotate_left 1
                      · go_simp <;> with_reducible rfl
                      simp only [Act.put, List.setIfInBounds_toArray, List.set_cons_succ, List.set_cons_zero]
                      refine flow_val ?_ rfl (by kernel_rfl) (by rfl) (fun W hW => ?_) ?_
                      rotate_left 1
                      · subst hW; have c1 := P1.out; have c2 := P2.out; have ci := QI.out; go_simp <;> with_reducible rfl
                      simp only [Act.put, List.setIfInBounds_toArray, List.set_cons_succ, List.set_cons_zero]
                      refine flow_val ?_ rfl (by kernel_rfl) (by rfl) (fun W hW => ?_) ?_
                      rotate_left 1
                      · subst hW; have c1 := P1.out; have c2 := P2.out; have ci := QI.out; go_simp <;> with_reducible rfl
                      simp only [Act.put, List.setIfInBounds_toArray, List.set_cons_succ, List.set_cons_zero]
                      refine flow_val ?_ rfl (by kernel_rfl) (by rfl) (fun W hW => ?_) ?_
                      rotate_left 1
                      · go_simp <;> with_reducible rfl
                      simp only [Act.put, List.setIfInBounds_toArray, List.set_cons_succ, List.set_cons_zero]
                      refine flow_val ?_ rfl (by kernel_rfl) (by rfl) (fun W hW => ?_) ?_
                      rotate_left 1
                      · go_simp <;> with_reducible rfl
                      simp only [Act.put, List.setIfInBounds_toArray, List.set_cons_succ, List.set_cons_zero]
                      refine flow_val ?_ rfl (by kernel_rfl) (by rfl) (fun W hW => ?_) ?_
                      rotate_left 1
                      · go_simp <;> with_reducible rfl
                      simp only [Act.put, List.setIfInBounds_toArray, List.set_cons_succ, List.set_cons_zero]
                      refine flow_val ?_ rfl (by kernel_rfl) (by rfl) (fun W hW => ?_) ?_
                      rotate_left 1
                      · subst hW; have c1 := P1.out; have c2 := P2.out; have ci := QI.out; go_simp <;> with_reducible rfl
                      simp only [Act.put, List.setIfInBounds_toArray, List.set_cons_succ, List.set_cons_zero]
                      refine flow_val ?_ rfl (by kernel_rfl) (by rfl) (fun W hW => ?_) ?_
                      rotate_left 1
                      · subst hW; have c1 := P1.out; have c2 := P2.out; have ci := QI.out; go_simp <;> with_reducible rfl
                      simp only [Act.put, List.setIfInBounds_toArray, List.set_cons_succ, List.set_cons_zero]
                      refine flow_val ?_ rfl (by kernel_rfl) (by rfl) (fun W hW => ?_) ?_
                      rotate_left 1
                      · subst hW; have c1 := P1.out; have c2 := P2.out; have ci := QI.out; go_simp <;> with_reducible rfl
                      simp only [Act.put, List.setIfInBounds_toArray, List.set_cons_succ, List.set_cons_zero]
                      refine flow_val ?_ rfl (by kernel_rfl) (by rfl) (fun W hW => ?_) ?_
                      rotate_left 1
                      · subst hW; have c1 := P1.out; have c2 := P2.out; have ci := QI.out; go_simp <;> with_reducible rfl
                      simp only [Act.put, List.setIfInBounds_toArray, List.set_cons_succ, List.set_cons_zero]
                      refine flow_val ?_ rfl (by kernel_rfl) (by rfl) (fun W hW => ?_) ?_
                      rotate_left 1
                      · subst hW; have c1 := P1.out; have c2 := P2.out; have ci := QI.out; go_simp <;> with_reducible rfl
                      simp only [Act.put, List.setIfInBounds_toArray, List.set_cons_succ, List.set_cons_zero]
                      refine flow_val ?_ rfl (by kernel_rfl) (by rfl) (fun W hW => ?_) ?_
                      rotate_left 1
                      · subst hW; have c1 := P1.out; have c2 := P2.out; have ci := QI.out; go_simp <;> with_reducible rfl
                      simp only [Act.put, List.setIfInBounds_toArray, List.set_cons_succ, List.set_cons_zero]
                      refine flow_val ?_ rfl (by kernel_rfl) (by rfl) (fun W hW => ?_) ?_
                      rotate_left 1
                      · go_simp <;> with_reducible rfl
                      simp only [Act.put, List.setIfInBounds_toArray, List.set_cons_succ, List.set_cons_zero]
                      refine flow_val ?_ rfl (by kernel_rfl) (by rfl) (fun W hW => ?_) ?_
                      rotate_left 1
                      · go_simp <;> with_reducible rfl
                      simp only [Act.put, List.setIfInBounds_toArray, List.set_cons_succ, List.set_cons_zero]
                      refine flow_val ?_ rfl (by kernel_rfl) (by rfl) (fun W hW => ?_) ?_
                      rotate_left 1
                      · go_simp <;> with_reducible rfl
                      simp only [Act.put, List.setIfInBounds_toArray, List.set_cons_succ, List.set_cons_zero]
                      refine flow_done ?_
                      intro W hW
                      subst hW
                      obtain ⟨V, hV⟩ : ∃ V, IntKind.i64.wrap (v - N) = V := ⟨_, rfl⟩
                      go_wp2_with fail
                      go_region
                      obtain ⟨W1, hW1⟩ : ∃ W1, (W0.setCell ⟨q, i, none⟩ (.int .i64 V)).drew.drew = W1 := ⟨_, rfl⟩
                      rw [hW1]
                      clear o1 o2 qi0 qf0
                      have hfx : Fr 0 [] [q] W0 W1 := by rw [← hW1]; exact ((((Fr.refl W0).setCell (p := ⟨q, i, none⟩) _ (Nat.zero_le _) (.inl (by simp))).trans (Fr.of_below (Below.refl _ _).drew)).trans (Fr.of_below (Below.refl _ _).drew))
                      have hT1 : IsTal W1 p xs d := ⟨(hfx.block p HS.out.1.lt (.inr ⟨by simp, by simp; exact HS.out.2.2.1⟩)).trans HS.out.1.1, h8⟩
                      have ob1 := (hfx.block b (lt_of_block HOB.out) (.inr ⟨by simp, by have := HPB.out; simp; omega⟩)).trans HOB.out
                      have p1 : W1.cell? ⟨b, 1, none⟩ = some (.int .i64 (i : Int)) := cell_at ob1 1
                      have p2 : W1.cell? ⟨b, 2, none⟩ = some (.int .i64 N) := cell_at ob1 2
                      have HT1 := Lib.hid hT1
                      have HW1 := Lib.hid hW1
                      have HOB1 := Lib.hid ob1
                      clear hfx hT1 ob1 hW1
                      go_wp2_with fail
                      refine (take_in p xs d i hi8 N W1 HT1.out v HVv.out).mono ?_
                      rintro e w4 ⟨rfl, hT4, hf4⟩
                      have hdec : decide (0 ≤ N ∧ N ≤ v) = true := by rw [decide_eq_true_iff]; omega
                      rw [hdec] at hT4 ⊢
                      simp only [if_true] at hT4
                      have hVw : wrapI (v - N) = V := hV
                      rw [hVw] at hT4
                      have HE := Lib.hid (HS.out.set i V hT4 (((Fr.of_below (Below.refl _ _).drew).trans (Fr.of_below (Below.refl _ _).drew)).trans (by rw [HW1.out]; exact hf4)) rfl)
                      have HOE := Lib.hid ((hf4.block b (lt_of_block HOB1.out) (.inr ⟨by simp, by have := HPB.out; simp; omega⟩)).trans HOB1.out)
                      clear hT4 hf4 p1 p2 hdec hdv hV hVw
                      go_wp2_with fail
                      go_meet
                      exact ⟨_, _, rfl, HE.out, HOE.out⟩
                    · have hdv : decide (N ≤ v) = false := by simp [hwv]
                      refine wp_region_flow (fun W => W = W0.drew) [0, 1, 2, 3, 4, 5, 6, 7, 8, 9, 10, 11, 12, 13, 14, 15] (by kernel_rfl) (by kernel_rfl) (by kernel_rfl) (rfl) ?_
                      refine flow_val ?_ rfl (by kernel_rfl) (by rfl) (fun W hW => ?_) ?_
                      rotate_left 1
                      · go_simp <;> with_reducible rfl
                      simp only [Act.put, List.setIfInBounds_toArray, List.set_cons_succ, List.set_cons_zero]
                      refine flow_val ?_ rfl (by kernel_rfl) (by rfl) (fun W hW => ?_) ?_
                      rotate_left 1
                      · go_simp <;> with_reducible rfl
                      simp only [Act.put, List.setIfInBounds_toArray, List.set_cons_succ, List.set_cons_zero]
                      refine flow_val ?_ rfl (by kernel_rfl) (by rfl) (fun W hW => ?_) ?_
                      rotate_left 1
                      · subst hW; have c1 := P1.out; have c2 := P2.out; have ci := QI.out; go_simp <;> with_reducible rfl
                      simp only [Act.put, List.setIfInBounds_toArray, List.set_cons_succ, List.set_cons_zero]
                      refine flow_val ?_ rfl (by kernel_rfl) (by rfl) (fun W hW => ?_) ?_
                      rotate_left 1
                      · subst hW; have c1 := P1.out; have c2 := P2.out; have ci := QI.out; go_simp <;> with_reducible rfl
                      simp only [Act.put, List.setIfInBounds_toArray, List.set_cons_succ, List.set_cons_zero]
                      refine flow_val ?_ rfl (by kernel_rfl) (by rfl) (fun W hW => ?_) ?_
                      rotate_left 1
                      · go_simp <;> with_reducible rfl
                      simp only [Act.put, List.setIfInBounds_toArray, List.set_cons_succ, List.set_cons_zero]
                      refine flow_val ?_ rfl (by kernel_rfl) (by rfl) (fun W hW => ?_) ?_
                      rotate_left 1
                      · go_simp <;> with_reducible rfl
                      simp only [Act.put, List.setIfInBounds_toArray, List.set_cons_succ, List.set_cons_zero]
                      refine flow_val ?_ rfl (by kernel_rfl) (by rfl) (fun W hW => ?_) ?_
                      rotate_left 1
                      · go_simp <;> with_reducible rfl
                      simp only [Act.put, List.setIfInBounds_toArray, List.set_cons_succ, List.set_cons_zero]
                      refine flow_val ?_ rfl (by kernel_rfl) (by rfl) (fun W hW => ?_) ?_
                      rotate_left 1
                      · subst hW; have c1 := P1.out; have c2 := P2.out; have ci := QI.out; go_simp <;> with_reducible rfl
                      simp only [Act.put, List.setIfInBounds_toArray, List.set_cons_succ, List.set_cons_zero]
                      refine flow_val ?_ rfl (by kernel_rfl) (by rfl) (fun W hW => ?_) ?_
                      rotate_left 1
                      · subst hW; have c1 := P1.out; have c2 := P2.out; have ci := QI.out; go_simp <;> with_reducible rfl
                      simp only [Act.put, List.setIfInBounds_toArray, List.set_cons_succ, List.set_cons_zero]
                      refine flow_val ?_ rfl (by kernel_rfl) (by rfl) (fun W hW => ?_) ?_
                      rotate_left 1
                      · subst hW; have c1 := P1.out; have c2 := P2.out; have ci := QI.out; go_simp <;> with_reducible rfl
                      simp only [Act.put, List.setIfInBounds_toArray, List.set_cons_succ, List.set_cons_zero]
                      refine flow_val ?_ rfl (by kernel_rfl) (by rfl) (fun W hW => ?_) ?_
                      rotate_left 1
                      · subst hW; have c1 := P1.out; have c2 := P2.out; have ci := QI.out; go_simp <;> with_reducible rfl
                      simp only [Act.put, List.setIfInBounds_toArray, List.set_cons_succ, List.set_cons_zero]
                      refine flow_val ?_ rfl (by kernel_rfl) (by rfl) (fun W hW => ?_) ?_
                      rotate_left 1
                      · subst hW; have c1 := P1.out; have c2 := P2.out; have ci := QI.out; go_simp <;> with_reducible rfl
                      simp only [Act.put, List.setIfInBounds_toArray, List.set_cons_succ, List.set_cons_zero]
                      refine flow_val ?_ rfl (by kernel_rfl) (by rfl) (fun W hW => ?_) ?_
                      rotate_left 1
                      · subst hW; have c1 := P1.out; have c2 := P2.out; have ci := QI.out; go_simp <;> with_reducible rfl
                      simp only [Act.put, List.setIfInBounds_toArray, List.set_cons_succ, List.set_cons_zero]
                      refine flow_val ?_ rfl (by kernel_rfl) (by rfl) (fun W hW => ?_) ?_
                      rotate_left 1
                      · go_simp <;> with_reducible rfl
                      simp only [Act.put, List.setIfInBounds_toArray, List.set_cons_succ, List.set_cons_zero]
                      refine flow_val ?_ rfl (by kernel_rfl) (by rfl) (fun W hW => ?_) ?_
                      rotate_left 1
                      · go_simp <;> with_reducible rfl
                      simp only [Act.put, List.setIfInBounds_toArray, List.set_cons_succ, List.set_cons_zero]
                      refine flow_val ?_ rfl (by kernel_rfl) (by rfl) (fun W hW => ?_) ?_
                      rotate_left 1
                      · go_simp <;> with_reducible rfl
                      simp only [Act.put, List.setIfInBounds_toArray, List.set_cons_succ, List.set_cons_zero]
                      refine flow_done ?_
                      intro W hW
                      subst hW
                      have HT1 : Hid (IsTal W0.drew p xs d) := Lib.hid HS.out.1
                      go_wp2_with fail
                      refine (take_in p xs d i hi8 N W0.drew HT1.out v HVv.out).mono ?_
                      rintro e w4 ⟨rfl, hT4, hf4⟩
                      have hdec : decide (0 ≤ N ∧ N ≤ v) = false := by rw [decide_eq_false_iff_not]; omega
                      rw [hdec] at hT4 ⊢
                      simp only [Bool.false_eq_true, if_false] at hT4
                      have hf4' : Fr 0 [] [p] W0 w4 := (Fr.of_below (Below.refl _ W0).drew).trans hf4
                      have HE := Lib.hid (HS.out.turn hT4 hf4')
                      have HOE := Lib.hid ((hf4'.block b (lt_of_block HOB.out) (.inr ⟨by simp, by have := HPB.out; simp; omega⟩)).trans HOB.out)
                      clear hT4 hf4 hf4' o1 o2 qi0 qf0 hdec hdv
                      go_wp2_with fail
                      go_meet
                      exact ⟨_, _, rfl, HE.out, HOE.out⟩
                  · have hdv : decide (0 ≤ N) = false := by simp [hn0]
                    refine wp_region_flow (fun W => W = W0.drew) [0, 1, 2, 3, 4, 5, 6, 7, 8, 9, 10, 11, 12, 13, 14, 15] (by kernel_rfl) (by kernel_rfl) (by kernel_rfl) (rfl) ?_
                    refine flow_val ?_ rfl (by kernel_rfl) (by rfl) (fun W hW => ?_) ?_
                    rotate_left 1
                    · go_simp <;> with_reducible rfl
                    simp only [Act.put, List.setIfInBounds_toArray, List.set_cons_succ, List.set_cons_zero]
                    refine flow_val ?_ rfl (by kernel_rfl) (by rfl) (fun W hW => ?_) ?_
                    rotate_left 1
                    · go_simp <;> with_reducible rfl
                    simp only [Act.put, List.setIfInBounds_toArray, List.set_cons_succ, List.set_cons_zero]
                    refine flow_val ?_ rfl (by kernel_rfl) (by rfl) (fun W hW => ?_) ?_
                    rotate_left 1
                    · subst hW; have c1 := P1.out; have c2 := P2.out; have ci := QI.out; go_simp <;> with_reducible rfl
                    simp only [Act.put, List.setIfInBounds_toArray, List.set_cons_succ, List.set_cons_zero]
                    refine flow_val ?_ rfl (by kernel_rfl) (by rfl) (fun W hW => ?_) ?_
                    rotate_left 1
                    · subst hW; have c1 := P1.out; have c2 := P2.out; have ci := QI.out; go_simp <;> with_reducible rfl
                    simp only [Act.put, List.setIfInBounds_toArray, List.set_cons_succ, List.set_cons_zero]
                    refine flow_val ?_ rfl (by kernel_rfl) (by rfl) (fun W hW => ?_) ?_
                    rotate_left 1
                    · go_simp <;> with_reducible rfl
                    simp only [Act.put, List.setIfInBounds_toArray, List.set_cons_succ, List.set_cons_zero]
                    refine flow_val ?_ rfl (by kernel_rfl) (by rfl) (fun W hW => ?_) ?_
                    rotate_left 1
                    · go_simp <;> with_reducible rfl
                    simp only [Act.put, List.setIfInBounds_toArray, List.set_cons_succ, List.set_cons_zero]
                    refine flow_val ?_ rfl (by kernel_rfl) (by rfl) (fun W hW => ?_) ?_
                    rotate_left 1
                    · go_simp <;> with_reducible rfl
                    simp only [Act.put, List.setIfInBounds_toArray, List.set_cons_succ, List.set_cons_zero]
                    refine flow_off rfl (by kernel_rfl) (by rfl) ?_
                    simp only [Act.put, List.setIfInBounds_toArray, List.set_cons_succ, List.set_cons_zero]
                    refine flow_off rfl (by kernel_rfl) (by rfl) ?_
                    simp only [Act.put, List.setIfInBounds_toArray, List.set_cons_succ, List.set_cons_zero]
                    refine flow_off rfl (by kernel_rfl) (by rfl) ?_
                    simp only [Act.put, List.setIfInBounds_toArray, List.set_cons_succ, List.set_cons_zero]
                    refine flow_off rfl (by kernel_rfl) (by rfl) ?_
                    simp only [Act.put, List.setIfInBounds_toArray, List.set_cons_succ, List.set_cons_zero]
                    refine flow_off rfl (by kernel_rfl) (by rfl) ?_
                    simp only [Act.put, List.setIfInBounds_toArray, List.set_cons_succ, List.set_cons_zero]
                    refine flow_off rfl (by kernel_rfl) (by rfl) ?_
                    simp only [Act.put, List.setIfInBounds_toArray, List.set_cons_succ, List.set_cons_zero]
                    refine flow_off rfl (by kernel_rfl) (by rfl) ?_
                    simp only [Act.put, List.setIfInBounds_toArray, List.set_cons_succ, List.set_cons_zero]
                    refine flow_val ?_ rfl (by kernel_rfl) (by rfl) (fun W hW => ?_) ?_
                    rotate_left 1
                    · go_simp <;> with_reducible rfl
                    simp only [Act.put, List.setIfInBounds_toArray, List.set_cons_succ, List.set_cons_zero]
                    refine flow_val ?_ rfl (by kernel_rfl) (by rfl) (fun W hW => ?_) ?_
                    rotate_left 1
                    · go_simp <;> with_reducible rfl
                    simp only [Act.put, List.setIfInBounds_toArray, List.set_cons_succ, List.set_cons_zero]
                    refine flow_done ?_
                    intro W hW
                    subst hW
                    have HT1 : Hid (IsTal W0.drew p xs d) := Lib.hid HS.out.1
                    go_wp2_with fail
                    refine (take_in p xs d i hi8 N W0.drew HT1.out v HVv.out).mono ?_
                    rintro e w4 ⟨rfl, hT4, hf4⟩
                    have hdec : decide (0 ≤ N ∧ N ≤ v) = false := by rw [decide_eq_false_iff_not]; omega
                    rw [hdec] at hT4 ⊢
                    simp only [Bool.false_eq_true, if_false] at hT4
                    have hf4' : Fr 0 [] [p] W0 w4 := (Fr.of_below (Below.refl _ W0).drew).trans hf4
                    have HE := Lib.hid (HS.out.turn hT4 hf4')
                    have HOE := Lib.hid ((hf4'.block b (lt_of_block HOB.out) (.inr ⟨by simp, by have := HPB.out; simp; omega⟩)).trans HOB.out)
                    clear hT4 hf4 hf4' o1 o2 qi0 qf0 hdec hdv
                    go_wp2_with fail
                    go_meet
                    exact ⟨_, _, rfl, HE.out, HOE.out⟩
                · by_cases hK4 : K = 4
                  · have hq1 : (K == 1) = false := by simp [hK1]
                    have hq2 : (K == 2) = false := by simp [hK2]
                    have hq3 : (K == 3) = false := by simp [hK3]
                    have hq4 : (K == 4) = true := by simp [hK4]
                    clear hK1 hK2 hK3 hK4
                    cases d
                    · go_wp2_with fail
                      refine (start_first p xs W0 HS.out.1).mono ?_
                      rintro e w4 ⟨rfl, hT4, hf4⟩
                      have HE := Lib.hid (HS.out.turn hT4 hf4)
                      have HOE := Lib.hid ((hf4.block b (lt_of_block HOB.out) (.inr ⟨by simp, by have := HPB.out; simp; omega⟩)).trans HOB.out)
                      clear hT4 hf4 o0 o1 o2
                      go_wp2_with fail
                      go_meet
                      exact ⟨_, _, rfl, HE.out, HOE.out⟩
                    · go_wp2_with fail
                      refine (start_again p xs W0 HS.out.1).mono ?_
                      rintro e w4 ⟨rfl, hb4⟩
                      have HE := Lib.hid (HS.out.keep hb4)
                      have HOE := Lib.hid ((hb4.block b (lt_of_block HOB.out)).trans HOB.out)
                      clear hb4 o0 o1 o2
                      go_wp2_with fail
                      go_meet
                      exact ⟨_, _, rfl, HE.out, HOE.out⟩
                  · have hq1 : (K == 1) = false := by simp [hK1]
                    have hq2 : (K == 2) = false := by simp [hK2]
                    have hq3 : (K == 3) = false := by simp [hK3]
                    have hq4 : (K == 4) = false := by simp [hK4]
                    clear hK1 hK2 hK3 hK4
                    go_wp2_with fail
                    clear o0 o1 o2
                    have HE := HS
                    have HOE := HOB
                    go_meet
                    exact ⟨_, _, rfl, HE.out, HOE.out⟩
          case rest =>
            obtain ⟨xs', d', rfl, hE, hOE⟩ := hcut
            have HE := Lib.hid hE
            have HOE := Lib.hid hOE
            clear hE hOE o0 o1 o2
            have hE8 : (xs').length = 8 := HE.out.1.2
            obtain ⟨ys, hys⟩ : ∃ ys, (xs') = ys := ⟨_, rfl⟩
            rw [hys] at HE hE8
            clear hys
            obtain ⟨y0, y1, y2, y3, y4, y5, y6, y7, hy⟩ := eight ys hE8
            have hQ : ∀ W, Below (wc).heap.size (wc) W → StM w p q ys d' W ∧ W.cell? ⟨b, 1, none⟩ = some (.int .i64 ((i : Nat) : Int)) ∧ W.cell? ⟨q, 0, none⟩ = some (.int .i64 y0) ∧ W.cell? ⟨q, 1, none⟩ = some (.int .i64 y1) ∧ W.cell? ⟨q, 2, none⟩ = some (.int .i64 y2) ∧ W.cell? ⟨q, 3, none⟩ = some (.int .i64 y3) ∧ W.cell? ⟨q, 4, none⟩ = some (.int .i64 y4) ∧ W.cell? ⟨q, 5, none⟩ = some (.int .i64 y5) ∧ W.cell? ⟨q, 6, none⟩ = some (.int .i64 y6) ∧ W.cell? ⟨q, 7, none⟩ = some (.int .i64 y7) := fun W hW => by
              have hk := HE.out.keep hW
              have hx := hk.2.1
              rw [hy] at hx
              unfold IsX at hx
              exact ⟨hk, cell_at ((hW.block b (lt_of_block HOE.out)).trans HOE.out) 1, map_eight hx⟩
            have HQ := Lib.hid hQ
            have HY := Lib.hid hy
            clear hQ hy hE8
            go_wp2_with fail
            refine wp_region_flow (fun W => Below (wc).heap.size (wc) W) [0, 1, 2, 3, 4, 5, 6, 7, 8, 9, 10, 11, 12, 13, 14, 15, 16, 17, 18, 19, 20, 21, 22, 23, 24, 26, 25, 27, 28] (by kernel_rfl) (by kernel_rfl) (by kernel_rfl) ((Below.refl _ _).drew) ?_
            refine flow_val ?_ rfl (by kernel_rfl) (by rfl) (fun W hW => ?_) ?_
            rotate_left 1
            · go_simp <;> with_reducible rfl
            simp only [Act.put, List.setIfInBounds_toArray, List.set_cons_succ, List.set_cons_zero]
            refine flow_val ?_ rfl (by kernel_rfl) (by rfl) (fun W hW => ?_) ?_
            rotate_left 1
            · go_simp <;> with_reducible rfl
            simp only [Act.put, List.setIfInBounds_toArray, List.set_cons_succ, List.set_cons_zero]
            refine flow_val ?_ rfl (by kernel_rfl) (by rfl) (fun W hW => ?_) ?_
            rotate_left 1
            · go_simp <;> with_reducible rfl
            simp only [Act.put, List.setIfInBounds_toArray, List.set_cons_succ, List.set_cons_zero]
            refine flow_val ?_ rfl (by kernel_rfl) (by rfl) (fun W hW => ?_) ?_
            rotate_left 1
            · go_simp <;> with_reducible rfl
            simp only [Act.put, List.setIfInBounds_toArray, List.set_cons_succ, List.set_cons_zero]
            refine flow_val ?_ rfl (by kernel_rfl) (by rfl) (fun W hW => ?_) ?_
            rotate_left 1
            · obtain ⟨hS, qb, q0, q1, q2, q3, q4, q5, q6, q7⟩ := HQ.out W hW; clear hS; go_simp <;> with_reducible rfl
            simp only [Act.put, List.setIfInBounds_toArray, List.set_cons_succ, List.set_cons_zero]
            refine flow_quiet (.int .i64 (ys.getD i 0)) rfl (by kernel_rfl) (by rfl) (fun W hW => ⟨_, _, by go_simp, (getD_in p ys d' i hi8 W (HE.out.keep hW).1)⟩) ?_
            simp only [Act.put, List.setIfInBounds_toArray, List.set_cons_succ, List.set_cons_zero]
            refine flow_val ?_ rfl (by kernel_rfl) (by rfl) (fun W hW => ?_) ?_
            rotate_left 1
            · go_simp <;> with_reducible rfl
            simp only [Act.put, List.setIfInBounds_toArray, List.set_cons_succ, List.set_cons_zero]
            refine flow_val ?_ rfl (by kernel_rfl) (by rfl) (fun W hW => ?_) ?_
            rotate_left 1
            · obtain ⟨hS, qb, q0, q1, q2, q3, q4, q5, q6, q7⟩ := HQ.out W hW; clear hS; go_simp <;> with_reducible rfl
            simp only [Act.put, List.setIfInBounds_toArray, List.set_cons_succ, List.set_cons_zero]
            refine flow_val ?_ rfl (by kernel_rfl) (by rfl) (fun W hW => ?_) ?_
            rotate_left 1
            · go_simp <;> with_reducible rfl
            simp only [Act.put, List.setIfInBounds_toArray, List.set_cons_succ, List.set_cons_zero]
            refine flow_val ?_ rfl (by kernel_rfl) (by rfl) (fun W hW => ?_) ?_
            rotate_left 1
            · have qi := (HQ.out W hW).1.2.1.cellD (HQ.out W hW).1.1.2 hi8; go_simp <;> with_reducible rfl
            simp only [Act.put, List.setIfInBounds_toArray, List.set_cons_succ, List.set_cons_zero]
            refine flow_val ?_ rfl (by kernel_rfl) (by rfl) (fun W hW => ?_) ?_
            rotate_left 1
            · go_simp <;> with_reducible rfl
            simp only [Act.put, List.setIfInBounds_toArray, List.set_cons_succ, List.set_cons_zero]
            refine flow_val ?_ rfl (by kernel_rfl) (by rfl) (fun W hW => ?_) ?_
            rotate_left 1
            · go_simp <;> with_reducible rfl
            simp only [Act.put, List.setIfInBounds_toArray, List.set_cons_succ, List.set_cons_zero]
            refine flow_val ?_ rfl (by kernel_rfl) (by rfl) (fun W hW => ?_) ?_
            rotate_left 1
            · go_simp <;> with_reducible rfl
            simp only [Act.put, List.setIfInBounds_toArray, List.set_cons_succ, List.set_cons_zero]
            refine flow_val ?_ rfl (by kernel_rfl) (by rfl) (fun W hW => ?_) ?_
            rotate_left 1
            · go_simp <;> with_reducible rfl
            simp only [Act.put, List.setIfInBounds_toArray, List.set_cons_succ, List.set_cons_zero]
            refine flow_val ?_ rfl (by kernel_rfl) (by rfl) (fun W hW => ?_) ?_
            rotate_left 1
            · go_simp <;> with_reducible rfl
            simp only [Act.put, List.setIfInBounds_toArray, List.set_cons_succ, List.set_cons_zero]
            refine flow_val ?_ rfl (by kernel_rfl) (by rfl) (fun W hW => ?_) ?_
            rotate_left 1
            · go_simp <;> with_reducible rfl
            simp only [Act.put, List.setIfInBounds_toArray, List.set_cons_succ, List.set_cons_zero]
            refine flow_off rfl (by kernel_rfl) (by rfl) ?_
            simp only [Act.put, List.setIfInBounds_toArray, List.set_cons_succ, List.set_cons_zero]
            refine flow_off rfl (by kernel_rfl) (by rfl) ?_
            simp only [Act.put, List.setIfInBounds_toArray, List.set_cons_succ, List.set_cons_zero]
            refine flow_off rfl (by kernel_rfl) (by rfl) ?_
            simp only [Act.put, List.setIfInBounds_toArray, List.set_cons_succ, List.set_cons_zero]
            refine flow_off rfl (by kernel_rfl) (by rfl) ?_
            simp only [Act.put, List.setIfInBounds_toArray, List.set_cons_succ, List.set_cons_zero]
            refine flow_off rfl (by kernel_rfl) (by rfl) ?_
            simp only [Act.put, List.setIfInBounds_toArray, List.set_cons_succ, List.set_cons_zero]
            refine flow_val ?_ rfl (by kernel_rfl) (by rfl) (fun W hW => ?_) ?_
            rotate_left 1
            · go_simp <;> with_reducible rfl
            simp only [Act.put, List.setIfInBounds_toArray, List.set_cons_succ, List.set_cons_zero]
            refine flow_val ?_ rfl (by kernel_rfl) (by rfl) (fun W hW => ?_) ?_
            rotate_left 1
            · go_simp <;> with_reducible rfl
            simp only [Act.put, List.setIfInBounds_toArray, List.set_cons_succ, List.set_cons_zero]
            refine flow_val ?_ rfl (by kernel_rfl) (by rfl) (fun W hW => ?_) ?_
            rotate_left 1
            · go_simp <;> with_reducible rfl
            simp only [Act.put, List.setIfInBounds_toArray, List.set_cons_succ, List.set_cons_zero]
            refine flow_val ?_ rfl (by kernel_rfl) (by rfl) (fun W hW => ?_) ?_
            rotate_left 1
            · go_simp <;> with_reducible rfl
            simp only [Act.put, List.setIfInBounds_toArray, List.set_cons_succ, List.set_cons_zero]
            refine flow_val ?_ rfl (by kernel_rfl) (by rfl) (fun W hW => ?_) ?_
            rotate_left 1
            · obtain ⟨hS, qb, q0, q1, q2, q3, q4, q5, q6, q7⟩ := HQ.out W hW; clear hS; go_simp <;> with_reducible rfl
            simp only [Act.put, List.setIfInBounds_toArray, List.set_cons_succ, List.set_cons_zero]
            refine flow_call (.agg #[.int .i64 y0, .int .i64 y1, .int .i64 y2, .int .i64 y3, .int .i64 y4, .int .i64 y5, .int .i64 y6, .int .i64 y7]) rfl (by kernel_rfl) (by rfl) (by kernel_rfl) (fun W hW => ⟨_, _, _, by go_simp, (all_in p ys d' W (HE.out.keep hW).1).mono fun e w1 ⟨he, h⟩ => ⟨by rw [he, HY.out]; rfl, hW.trans (h.mono hW.size)⟩⟩) ?_
            simp only [Act.put, List.setIfInBounds_toArray, List.set_cons_succ, List.set_cons_zero]
            refine flow_val ?_ rfl (by kernel_rfl) (by rfl) (fun W hW => ?_) ?_
            rotate_left 1
            · have heq := eq8_same y0 y1 y2 y3 y4 y5 y6 y7 W; go_simp <;> with_reducible rfl
            simp only [Act.put, List.setIfInBounds_toArray, List.set_cons_succ, List.set_cons_zero]
            refine flow_val ?_ rfl (by kernel_rfl) (by rfl) (fun W hW => ?_) ?_
            rotate_left 1
            · go_simp <;> with_reducible rfl
            simp only [Act.put, List.setIfInBounds_toArray, List.set_cons_succ, List.set_cons_zero]
            refine flow_done ?_
            intro W hW
            have HF := Lib.hid (HE.out.keep hW.1)
            clear hW
            go_wp2_with fail
            go_roundw
            case rel => exact ⟨k + 1, ys, d', hlt, by go_num, rfl, HF.out⟩
            case measure => simp [intOf]; omega
    · have HSS := Lib.hid hs
      clear hs
      go_wp2
      go_ret
      exact ⟨rfl, HSS.out.2.2.2.2.2⟩
end Go.Proofs.Ytochhjdjfgiaeaa
