/- Unpack: what any bytes are as an end. -/
import Derived.Test.YtnmbblkfaoihfaaZLP32
namespace Go.Proofs.Ytnmbblkfaoihfaa
open Go.RowKit

/-- Where an item has been made, with its number and its body. -/
def RDU (w : World) (pt pe : Nat) (D : Option Nat) (s : List Nat × Bool) (v : Value) (l : List LIt) (o1 o2 sq : Int) (body : List Nat) (px : Nat) (bv : Value) (W : World) : Prop :=
  UE w 116 80 84 pt pe D s v l o1 o2 W ∧ W.heap[px]? = some (.cells #[.int .i64 sq, bv, .int .i64 0, .int .i64 0] 84 (0, 0)) ∧ ByO W bv body ∧ pe < px ∧ ∀ g, v.ownBlock = some g → g ≠ px

theorem rdu_made {w W : World} {pt pe px : Nat} {D : Option Nat} {s : List Nat × Bool} {v bv : Value} {l : List LIt} {o1 o2 sq : Int} {body : List Nat} (hU : UE w 116 80 84 pt pe D s v l o1 o2 W) (hX : W.heap[px]? = some (.cells #[.int .i64 0, .slice none 0 0, .int .i64 0, .int .i64 0] 84 (0, 0))) (hB : ByO W bv body) (hp : pe < px) (hg : ∀ g, v.ownBlock = some g → g ≠ px) :
    RDU w pt pe D s v l o1 o2 sq body px bv ((((W.setCell ⟨px, 0, none⟩ (.int .i64 sq)).setCell ⟨px, 1, none⟩ bv).setCell ⟨px, 2, none⟩ (.int .i64 0)).setCell ⟨px, 3, none⟩ (.int .i64 0)) := by
  have b0 := block_set hX 0 (.int .i64 sq)
  have b1 := block_set b0 1 bv
  have b2 := block_set b1 2 (.int .i64 0)
  have b3 := block_set b2 3 (.int .i64 0)
  have u3 := (((hU.set hp hg hX (by decide) 0 (.int .i64 sq)).set hp hg b0 (by decide) 1 bv).set hp hg b1 (by decide) 2 (.int .i64 0)).set hp hg b2 (by decide) 3 (.int .i64 0)
  have fs : ∀ (V : World) (i : Nat) (u : Value), Fr 0 [] [px] V (V.setCell ⟨px, i, none⟩ u) := fun V i u => (Fr.refl V).setCell (p := ⟨px, i, none⟩) _ (Nat.zero_le _) (.inl (by simp))
  exact ⟨u3, by simpa using b3, (((hB.far (fs _ 0 _) hX (by decide)).far (fs _ 1 _) b0 (by decide)).far (fs _ 2 _) b1 (by decide)).far (fs _ 3 _) b2 (by decide), hp, hg⟩

set_option maxRecDepth 100000 in
set_option maxHeartbeats 4000000 in
theorem lunpack_any (v : Value) (bs : List Nat) (w : World) (hv : Bs w v bs) (hb : ∀ b ∈ bs, b < 256) (ht : bs.length ≤ 140737488355328) :
    Calls Try.prog 36 #[v] w (RetUE 84 80 (.int .i64 0) (.int .i64 10) (unE bs) w) := by
  obtain ⟨i0, hi0, hz0, hz1, hz2⟩ := info_parts Try.infoItem
  have hun : unE bs = if (numT (bs, false) 0 9223372036854775807).1 < (numT (numT (numT (bs, false) 0 9223372036854775807).2 0 9223372036854775807).2 0 64).1 then none else endE (numT (bs, false) 0 9223372036854775807).1 (numT (numT (bs, false) 0 9223372036854775807).2 0 9223372036854775807).1 (okI (unI ((numT (bs, false) 0 9223372036854775807).1 - (numT (numT (numT (bs, false) 0 9223372036854775807).2 0 9223372036854775807).2 0 64).1 + 1) (numT (numT (numT (bs, false) 0 9223372036854775807).2 0 9223372036854775807).2 0 64).1.toNat [] (numT (numT (numT (bs, false) 0 9223372036854775807).2 0 9223372036854775807).2 0 64).2)) := rfl
  obtain ⟨o1, s1, e1⟩ : ∃ n s, numT (bs, false) 0 9223372036854775807 = (n, s) := ⟨_, _, rfl⟩
  obtain ⟨o2, s2, e2⟩ : ∃ n s, numT s1 0 9223372036854775807 = (n, s) := ⟨_, _, rfl⟩
  obtain ⟨o3, s3, e3⟩ : ∃ n s, numT s2 0 64 = (n, s) := ⟨_, _, rfl⟩
  have hr1 := numT_range (bs, false) 0 9223372036854775807
  have hr2 := numT_range s1 0 9223372036854775807
  have hrb : (∀ b ∈ s3.1, b < 256) ∧ s3.1.length ≤ bs.length := by
    have a1 := numT_lt (s := (bs, false)) hb 0 9223372036854775807
    have a2 := numT_le (bs, false) 0 9223372036854775807
    rw [e1] at a1 a2
    have a3 := numT_lt a1 0 9223372036854775807
    have a4 := numT_le s1 0 9223372036854775807
    rw [e2] at a3 a4
    have a5 := numT_lt a3 0 64
    have a6 := numT_le s2 0 64
    rw [e3] at a5 a6
    exact ⟨a5, by simp only at a2 a4 a6; omega⟩
  obtain ⟨n, hn, hn2⟩ := numT_nat s2 64 (by omega)
  rw [e1] at hun hr1
  simp only [e2] at hun hr2
  simp only [e3] at hun hn
  subst hn
  simp only [Int.toNat_natCast] at hun hr1
  have hn2 : n ≤ 64 := by omega
  have ho1 : 0 ≤ o1 ∧ o1 ≤ 9223372036854775807 := by omega
  have HUN := Lib.hid hun
  have E1 := Lib.hid e1
  have E2 := Lib.hid e2
  have E3 := Lib.hid e3
  have HV := Lib.hid hv
  have HBY := Lib.hid hb
  have HLEN := Lib.hid ht
  have HRB := Lib.hid hrb
  clear hun e1 e2 e3 hv hb ht hr1 hr2 hrb
  go_enter Try.func36, Try.ntmps36
  go_wp2_with fail
  refine (take_any v bs w HV.out HBY.out HLEN.out).mono ?_
  rintro e w1 ⟨pt, D, rfl, hlow, hT, hD, hDl, hb1⟩
  have HT := Lib.hid hT
  have HD : Hid (∀ d, D = some d → d < w1.heap.size ∧ d ≠ pt) := Lib.hid (fun d hd => ⟨(hDl d hd).2, fun e => hD (e ▸ hd)⟩)
  have HLOW := Lib.hid hlow
  have HB1 := Lib.hid hb1
  clear hT hD hDl hlow hb1
  go_wp2_with fail
  refine (tnum_any pt D _ 0 9223372036854775807 w1 HT.out (fun e => (HD.out _ e).2 rfl)).mono ?_
  rintro e w2 ⟨rfl, hT2, hf2⟩
  rw [E1.out] at hT2 ⊢
  have HT2 := Lib.hid hT2
  have HB2 : Hid (Below w.heap.size w w2) := Lib.hid (HB1.out.trans (hf2.belowT HLOW.out HB1.out.size))
  have HZ2 := Lib.hid hf2.size
  clear hT2 hf2
  go_wp2_with fail
  refine (tnum_any pt D _ 0 9223372036854775807 w2 HT2.out (fun e => (HD.out _ e).2 rfl)).mono ?_
  rintro e w3 ⟨rfl, hT3, hf3⟩
  rw [E2.out] at hT3 ⊢
  have HT3 := Lib.hid hT3
  have HB3 : Hid (Below w.heap.size w w3) := Lib.hid (HB2.out.trans (hf3.belowT HLOW.out HB2.out.size))
  have HZ3 := Lib.hid hf3.size
  clear hT3 hf3
  go_wp2_with fail
  obtain ⟨w4, hw4⟩ : ∃ w4, w3.alloc (.cells #[.slice none 0 0, .int .i64 o1, .int .i64 o2] 80) = w4 := ⟨_, rfl⟩
  obtain ⟨pe, hpe⟩ : ∃ pe, w3.heap.size = pe := ⟨_, rfl⟩
  have h4 : UE w 116 80 84 pt pe D s2 (.slice none 0 0) [] o1 o2 w4 := by
    have hb : Below w3.heap.size w3 w4 := by rw [← hw4]; exact (Below.refl _ w3).alloc (Nat.le_refl _) _
    have hlt := HT3.out.lt
    exact ⟨HT3.out.below hb, by omega, fun d hd => by have := HD.out d hd; have := HZ2.out; have := HZ3.out; omega, HLOW.out, by rw [← hw4, ← hpe]; exact block_new _ _, ⟨[], rfl, World.ownsRow_nil _ _ _ _, by simp⟩, HB3.out.trans (hb.mono HB3.out.size)⟩
  have H4 := Lib.hid h4
  rw [hw4, hpe]
  clear h4 hw4 hpe HT2 HT3 HT HB2 HB1 HB3
  refine (tnum_any pt D _ 0 64 w4 H4.out.t H4.out.dp).mono ?_
  intro e w5 hr
  obtain ⟨rfl, h5⟩ := H4.out.turn (by decide) hr
  rw [E3.out] at h5 ⊢
  have x5 : w5.cell? ⟨pe, 1, none⟩ = some (.int .i64 o1) := cell_at h5.e 1
  have H5 := Lib.hid h5
  clear hr h5 H4
  by_cases hgt : o1 < (n : Int)
  · have HR : Hid (unE bs = none) := Lib.hid (by rw [HUN.out, if_pos hgt])
    go_wp2_with fail
    refine bodyPost_ret (results_tmp2 rfl _ _ _) rfl ?_
    exact retUE_none HR.out H5.out.bel
  · have HU0 : Hid (unE bs = endE o1 o2 (okI (unI (o1 - n + 1) n [] s3))) := Lib.hid (by rw [HUN.out, if_neg hgt])
    go_wp2_with fail
    go_loopw [26] (fun iv wr => ∃ (k : Nat) (s : List Nat × Bool) (v : Value) (l : List LIt), k ≤ n ∧ l.length = k ∧ iv = .int .i64 k ∧ UE w 116 80 84 pt pe D s v l o1 o2 wr ∧ unI (o1 - n + 1) (n - k) l s = unI (o1 - n + 1) n [] s3 ∧ (∀ b ∈ s.1, b < 256) ∧ s.1.length ≤ bs.length) (fun iv _ => n - (intOf iv).toNat)
    case atStart => exact ⟨0, s3, _, [], Nat.zero_le _, rfl, rfl, H5.out, by simp, HRB.out.1, HRB.out.2⟩
    case round =>
      obtain ⟨k, s, vr, l, hk, hrs, rfl, hu, hok, hsb, hsl⟩ := hrel
      have HU := Lib.hid hu
      have HOK := Lib.hid hok
      have HRS := Lib.hid hrs
      have HSB := Lib.hid hsb
      have HSL := Lib.hid hsl
      clear hu hok hrs hsb hsl H5 x5
      by_cases hlt : k < n
      · obtain ⟨Av, cv, rfl, kv1, kv2, _⟩ : ∃ A c, vr = .slice A l.length c ∧ l.length ≤ c ∧ c ≤ maxLen ∧ True := by
          obtain ⟨xs, ho⟩ := HU.out.r.own
          obtain ⟨A, c, e, h1, h2, _⟩ := own_slice ho
          exact ⟨A, c, e, h1, h2, trivial⟩
        rw [HRS.out] at kv1
        have hw1 : IntKind.i64.wrap (o1 - (n : Int)) = o1 - n := IntWalk.i64_in _ (by omega)
        have hw2 : IntKind.i64.wrap (o1 - (n : Int) + 1) = o1 - n + 1 := IntWalk.i64_in _ (by omega)
        have hw3 : IntKind.i64.wrap (o1 - (n : Int) + 1 + (k : Int)) = o1 - n + 1 + k := IntWalk.i64_in _ (by omega)
        obtain ⟨ta, hta⟩ : ∃ y, textT s 2048 = y := ⟨_, rfl⟩
        have htb := textT_lt HSB.out 2048
        have htl := textT_le s 2048
        rw [hta] at htb htl
        have htr : ta.2.1.length ≤ s.1.length := by
          have h1 := numT_le s 0 2048
          rw [← hta]
          unfold textT
          generalize numT s 0 2048 = r at h1
          simp only
          split
          · exact h1
          · split
            · exact h1
            · simp only [List.length_drop]; omega
        have HTA := Lib.hid hta
        have HTB := Lib.hid htb
        have HTL : Hid (ta.1.length ≤ bs.length ∧ ta.2.1.length ≤ bs.length) := Lib.hid ⟨Nat.le_trans htl HSL.out, Nat.le_trans htr HSL.out⟩
        obtain ⟨S, hS⟩ : ∃ S, strOf ta.1 = S := ⟨_, rfl⟩
        have hsz : S.size ≤ maxLen := by rw [← hS, strOf_size]; have := HTL.out.1; have := HLEN.out; unfold maxLen; omega
        have hsl : S.size = ta.1.length := by rw [← hS, strOf_size]
        have hnat : natsOf S = ta.1 := by rw [← hS]; exact natsOf_strOf HTB.out.1
        have HSS := Lib.hid hS
        have HSZ := Lib.hid hsz
        have HSLN := Lib.hid hsl
        have HNAT := Lib.hid hnat
        have hpel := lt_of_block HU.out.e
        have hptl := HU.out.lt
        obtain ⟨sq, hsq⟩ : ∃ sq, o1 - (n : Int) + 1 + (k : Int) = sq := ⟨_, rfl⟩
        have HSQ := Lib.hid hsq
        rw [hsq] at hw3
        have hw3' : IntKind.i64.wrap (o1 - (n : Int) + 1 + (k : Int)) = sq := by rw [hsq]; exact hw3
        clear hta htb htl htr hS hsz hsl hnat hw3 hsq
        go_wp2_with fail
        apply wp_region_mid3 (M := fun px g c W => RDU w pt pe D ta.2 (.slice Av l.length cv) l o1 o2 sq ta.1 px (.slice (some ⟨g, 0, none⟩) S.size c) W) (hm := by kernel_rfl)
        case h =>
          refine ok_split 13 11 (by decide) ?_ ?_
          · simp only [addAfter, addL]
            refine ok_flow (fun W => Fr 0 [] [pt] wr W) (fun W => UE w 116 80 84 pt pe D s (.slice Av l.length cv) l o1 o2 W) [0, 1, 2, 3, 4, 5, 6, 7, 8, 9, 10, 11, 12, 13, 14] (fun _ => trivial) rfl (fun _ _ _ _ _ h => callsIn_wide.2 h) (by kernel_rfl) (by kernel_rfl) ((Fr.refl wr).drew) (HU.out.below (Below.refl _ wr).drew) ?_
            refine flow_val ?_ rfl (by kernel_rfl) (by rfl) (fun W hW => ?_) ?_
            rotate_left 1
            · go_simp <;> with_reducible rfl
            simp only [Act.put, List.setIfInBounds_toArray, List.set_cons_succ, List.set_cons_zero]
            refine flow_val ?_ rfl (by kernel_rfl) (by rfl) (fun W hW => ?_) ?_
            rotate_left 1
            · go_simp <;> with_reducible rfl
            simp only [Act.put, List.setIfInBounds_toArray, List.set_cons_succ, List.set_cons_zero]
            refine flow_val ?_ rfl (by kernel_rfl) (by rfl) (fun W hW => ?_) ?_
            rotate_left 1
            · go_simp <;> with_reducible rfl
            simp only [Act.put, List.setIfInBounds_toArray, List.set_cons_succ, List.set_cons_zero]
            refine flow_val ?_ rfl (by kernel_rfl) (by rfl) (fun W hW => ?_) ?_
            rotate_left 1
            · have c1 : W.cell? ⟨pe, 1, none⟩ = some (.int .i64 o1) := cell_at (hW.keep0 HU.out.e (by simp; omega)) 1; go_simp <;> with_reducible rfl
            simp only [Act.put, List.setIfInBounds_toArray, List.set_cons_succ, List.set_cons_zero]
            refine flow_val ?_ rfl (by kernel_rfl) (by rfl) (fun W hW => ?_) ?_
            rotate_left 1
            · go_simp <;> with_reducible rfl
            simp only [Act.put, List.setIfInBounds_toArray, List.set_cons_succ, List.set_cons_zero]
            refine flow_val ?_ rfl (by kernel_rfl) (by rfl) (fun W hW => ?_) ?_
            rotate_left 1
            · go_simp <;> with_reducible rfl
            simp only [Act.put, List.setIfInBounds_toArray, List.set_cons_succ, List.set_cons_zero]
            refine flow_val ?_ rfl (by kernel_rfl) (by rfl) (fun W hW => ?_) ?_
            rotate_left 1
            · go_simp <;> with_reducible rfl
            simp only [Act.put, List.setIfInBounds_toArray, List.set_cons_succ, List.set_cons_zero]
            refine flow_val ?_ rfl (by kernel_rfl) (by rfl) (fun W hW => ?_) ?_
            rotate_left 1
            · go_simp <;> with_reducible rfl
            simp only [Act.put, List.setIfInBounds_toArray, List.set_cons_succ, List.set_cons_zero]
            refine flow_val ?_ rfl (by kernel_rfl) (by rfl) (fun W hW => ?_) ?_
            rotate_left 1
            · go_simp <;> with_reducible rfl
            simp only [Act.put, List.setIfInBounds_toArray, List.set_cons_succ, List.set_cons_zero]
            refine flow_val ?_ rfl (by kernel_rfl) (by rfl) (fun W hW => ?_) ?_
            rotate_left 1
            · go_simp <;> with_reducible rfl
            simp only [Act.put, List.setIfInBounds_toArray, List.set_cons_succ, List.set_cons_zero]
            refine flow_turn (.string S) (fun W => UE w 116 80 84 pt pe D ta.2 (.slice Av l.length cv) l o1 o2 W) rfl (by kernel_rfl) (by rfl) (by kernel_rfl) (fun W hW hC => ?_) ?_
            · have hU := hC
              refine ⟨_, _, _, by go_simp, (ttext_any pt D s 2048 W hU.t hU.dp).mono fun e w1 hr => ?_⟩
              have h1 := hU.turn (by decide) hr
              rw [HTA.out, HSS.out] at h1
              exact ⟨h1.1, hW.trans hr.2.2, h1.2⟩
            simp only [Act.put, List.setIfInBounds_toArray, List.set_cons_succ, List.set_cons_zero]
            refine flow_gmake (fun v W => ∃ g c, v = .slice (some ⟨g, 0, none⟩) S.size c ∧ ByO W v ta.1 ∧ UE w 116 80 84 pt pe D ta.2 (.slice Av l.length cv) l o1 o2 W) rfl (by kernel_rfl) (by rfl) (by kernel_rfl) (fun W hW hC => ?_) ?_
            · have hU := hC
              obtain ⟨c2, W', hcv, hbo, hb, _⟩ := str_body W S HSZ.out
              rw [HNAT.out] at hbo
              refine ⟨_, W', by go_simp <;> with_reducible rfl, ⟨hW.1.then hb, trivial⟩, W.heap.size, c2, rfl, hbo, hU.below hb⟩
            rintro v40 ⟨_, _, g40, c40, rfl, _, _⟩
            simp only [Act.put, List.setIfInBounds_toArray, List.set_cons_succ, List.set_cons_zero]
            refine flow_val ?_ rfl (by kernel_rfl) (by rfl) (fun W hW => ?_) ?_
            rotate_left 1
            · go_simp <;> with_reducible rfl
            simp only [Act.put, List.setIfInBounds_toArray, List.set_cons_succ, List.set_cons_zero]
            refine flow_gmake (fun v W => ∃ g, v = .pointer (some ⟨g, 0, none⟩) ∧ pe < g ∧ (∀ j, (Value.slice Av l.length cv).ownBlock = some j → j ≠ g) ∧ W.heap[g]? = some (.cells #[.int .i64 0, .slice none 0 0, .int .i64 0, .int .i64 0] 84 (0, 0)) ∧ UE w 116 80 84 pt pe D ta.2 (.slice Av l.length cv) l o1 o2 W ∧ ByO W (.slice (some ⟨g40, 0, none⟩) S.size c40) ta.1) rfl (by kernel_rfl) (by rfl) (by kernel_rfl) (fun W hW hC => ?_) ?_
            · obtain ⟨g2, c2, e2, hBo, hU⟩ := hC
              injection e2 with e2 _ _
              injection e2 with e2
              injection e2 with e2 _ _
              subst e2
              have hb : Below W.heap.size W (W.alloc (.cells #[.int .i64 0, .slice none 0 0, .int .i64 0, .int .i64 0] 84)) := (Below.refl _ W).alloc (Nat.le_refl _) _
              exact ⟨_, _, by go_simp <;> with_reducible rfl, ⟨⟨hW.1.1.then hb, trivial⟩, trivial⟩, ⟨_, rfl, lt_of_block hU.e, fun j hj => by have := (hU.ownb j hj).2.1; omega, block_new _ _, hU.below hb, hBo.below hb⟩⟩
            rintro v8 ⟨_, _, px, rfl, hpx, hgx, _, _, _⟩
            simp only [Act.put, List.setIfInBounds_toArray, List.set_cons_succ, List.set_cons_zero]
            refine flow_bar (fun W => RDU w pt pe D ta.2 (.slice Av l.length cv) l o1 o2 sq ta.1 px (.slice (some ⟨g40, 0, none⟩) S.size c40) W) (fun _ => True) rfl (by kernel_rfl) (by rfl) (by kernel_rfl) (by kernel_rfl) (fun W hW hC => ?_) ?_
            · obtain ⟨g2, e2, _, _, hX, hU, hBo⟩ := hC
              injection e2 with e2
              injection e2 with e2
              injection e2 with e2 _ _
              subst e2
              have q0 := cell_at hX 0
              have z0 := frozen_at hX 0
              have q1 := cell_at hX 1
              have z1 := frozen_at hX 1
              have q2 := cell_at hX 2
              have z2 := frozen_at hX 2
              have q3 := cell_at hX 3
              have z3 := frozen_at hX 3
              have HX := Lib.hid hX
              have HUU := Lib.hid hU
              have HBo := Lib.hid hBo
              clear hX hU hBo hW
              refine ⟨_, by go_simp <;> with_reducible rfl, ?_, trivial⟩
              exact rdu_made HUU.out HX.out HBo.out hpx hgx
            simp only [Act.put]
            refine flow_end ?_
            rintro W ⟨hR, _⟩ _
            exact .inl ⟨by trivial, px, g40, c40, rfl, hR⟩
          · refine ok_split 13 10 (by decide) ?_ ?_
            · simp only [addAfter, addL]
              refine ok_flow (fun W => Fr 0 [] [pt] wr W) (fun W => UE w 116 80 84 pt pe D s (.slice Av l.length cv) l o1 o2 W) [0, 1, 2, 3, 4, 5, 6, 7, 8, 9, 10, 13, 11, 12, 14] (fun _ => trivial) rfl (fun _ _ _ _ _ h => callsIn_wide.2 h) (by kernel_rfl) (by kernel_rfl) ((Fr.refl wr).drew) (HU.out.below (Below.refl _ wr).drew) ?_
              refine flow_val ?_ rfl (by kernel_rfl) (by rfl) (fun W hW => ?_) ?_
              rotate_left 1
              · go_simp <;> with_reducible rfl
              simp only [Act.put, List.setIfInBounds_toArray, List.set_cons_succ, List.set_cons_zero]
              refine flow_val ?_ rfl (by kernel_rfl) (by rfl) (fun W hW => ?_) ?_
              rotate_left 1
              · go_simp <;> with_reducible rfl
              simp only [Act.put, List.setIfInBounds_toArray, List.set_cons_succ, List.set_cons_zero]
              refine flow_val ?_ rfl (by kernel_rfl) (by rfl) (fun W hW => ?_) ?_
              rotate_left 1
              · go_simp <;> with_reducible rfl
              simp only [Act.put, List.setIfInBounds_toArray, List.set_cons_succ, List.set_cons_zero]
              refine flow_val ?_ rfl (by kernel_rfl) (by rfl) (fun W hW => ?_) ?_
              rotate_left 1
              · have c1 : W.cell? ⟨pe, 1, none⟩ = some (.int .i64 o1) := cell_at (hW.keep0 HU.out.e (by simp; omega)) 1; go_simp <;> with_reducible rfl
              simp only [Act.put, List.setIfInBounds_toArray, List.set_cons_succ, List.set_cons_zero]
              refine flow_val ?_ rfl (by kernel_rfl) (by rfl) (fun W hW => ?_) ?_
              rotate_left 1
              · go_simp <;> with_reducible rfl
              simp only [Act.put, List.setIfInBounds_toArray, List.set_cons_succ, List.set_cons_zero]
              refine flow_val ?_ rfl (by kernel_rfl) (by rfl) (fun W hW => ?_) ?_
              rotate_left 1
              · go_simp <;> with_reducible rfl
              simp only [Act.put, List.setIfInBounds_toArray, List.set_cons_succ, List.set_cons_zero]
              refine flow_val ?_ rfl (by kernel_rfl) (by rfl) (fun W hW => ?_) ?_
              rotate_left 1
              · go_simp <;> with_reducible rfl
              simp only [Act.put, List.setIfInBounds_toArray, List.set_cons_succ, List.set_cons_zero]
              refine flow_val ?_ rfl (by kernel_rfl) (by rfl) (fun W hW => ?_) ?_
              rotate_left 1
              · go_simp <;> with_reducible rfl
              simp only [Act.put, List.setIfInBounds_toArray, List.set_cons_succ, List.set_cons_zero]
              refine flow_val ?_ rfl (by kernel_rfl) (by rfl) (fun W hW => ?_) ?_
              rotate_left 1
              · go_simp <;> with_reducible rfl
              simp only [Act.put, List.setIfInBounds_toArray, List.set_cons_succ, List.set_cons_zero]
              refine flow_val ?_ rfl (by kernel_rfl) (by rfl) (fun W hW => ?_) ?_
              rotate_left 1
              · go_simp <;> with_reducible rfl
              simp only [Act.put, List.setIfInBounds_toArray, List.set_cons_succ, List.set_cons_zero]
              refine flow_turn (.string S) (fun W => UE w 116 80 84 pt pe D ta.2 (.slice Av l.length cv) l o1 o2 W) rfl (by kernel_rfl) (by rfl) (by kernel_rfl) (fun W hW hC => ?_) ?_
              · have hU := hC
                refine ⟨_, _, _, by go_simp, (ttext_any pt D s 2048 W hU.t hU.dp).mono fun e w1 hr => ?_⟩
                have h1 := hU.turn (by decide) hr
                rw [HTA.out, HSS.out] at h1
                exact ⟨h1.1, hW.trans hr.2.2, h1.2⟩
              simp only [Act.put, List.setIfInBounds_toArray, List.set_cons_succ, List.set_cons_zero]
              refine flow_gmake (fun v W => ∃ g, v = .pointer (some ⟨g, 0, none⟩) ∧ pe < g ∧ (∀ j, (Value.slice Av l.length cv).ownBlock = some j → j ≠ g) ∧ W.heap[g]? = some (.cells #[.int .i64 0, .slice none 0 0, .int .i64 0, .int .i64 0] 84 (0, 0)) ∧ UE w 116 80 84 pt pe D ta.2 (.slice Av l.length cv) l o1 o2 W) rfl (by kernel_rfl) (by rfl) (by kernel_rfl) (fun W hW hC => ?_) ?_
              · have hU := hC
                have hb : Below W.heap.size W (W.alloc (.cells #[.int .i64 0, .slice none 0 0, .int .i64 0, .int .i64 0] 84)) := (Below.refl _ W).alloc (Nat.le_refl _) _
                exact ⟨_, _, by go_simp <;> with_reducible rfl, ⟨hW.1.then hb, trivial⟩, ⟨_, rfl, lt_of_block hU.e, fun j hj => by have := (hU.ownb j hj).2.1; omega, block_new _ _, hU.below hb⟩⟩
              rintro v8 ⟨_, _, px, rfl, hpx, hgx, _, _⟩
              simp only [Act.put, List.setIfInBounds_toArray, List.set_cons_succ, List.set_cons_zero]
              refine flow_gmake (fun v W => ∃ g c, v = .slice (some ⟨g, 0, none⟩) S.size c ∧ ByO W v ta.1 ∧ UE w 116 80 84 pt pe D ta.2 (.slice Av l.length cv) l o1 o2 W ∧ W.heap[px]? = some (.cells #[.int .i64 0, .slice none 0 0, .int .i64 0, .int .i64 0] 84 (0, 0))) rfl (by kernel_rfl) (by rfl) (by kernel_rfl) (fun W hW hC => ?_) ?_
              · obtain ⟨g2, e2, hpx2, hgx2, hX, hU⟩ := hC
                injection e2 with e2
                injection e2 with e2
                injection e2 with e2 _ _
                subst e2
                obtain ⟨c2, W', hcv, hbo, hb, _⟩ := str_body W S HSZ.out
                rw [HNAT.out] at hbo
                refine ⟨_, W', by go_simp <;> with_reducible rfl, ⟨⟨hW.1.1.then hb, trivial⟩, trivial⟩, W.heap.size, c2, rfl, hbo, hU.below hb, (hb.block _ (lt_of_block hX)).trans hX⟩
              rintro v40 ⟨_, _, g40, c40, rfl, _, _, _⟩
              simp only [Act.put, List.setIfInBounds_toArray, List.set_cons_succ, List.set_cons_zero]
              refine flow_val ?_ rfl (by kernel_rfl) (by rfl) (fun W hW => ?_) ?_
              rotate_left 1
              · go_simp <;> with_reducible rfl
              simp only [Act.put, List.setIfInBounds_toArray, List.set_cons_succ, List.set_cons_zero]
              refine flow_bar (fun W => RDU w pt pe D ta.2 (.slice Av l.length cv) l o1 o2 sq ta.1 px (.slice (some ⟨g40, 0, none⟩) S.size c40) W) (fun _ => True) rfl (by kernel_rfl) (by rfl) (by kernel_rfl) (by kernel_rfl) (fun W hW hC => ?_) ?_
              · obtain ⟨g2, c2, e2, hBo, hU, hX⟩ := hC
                have q0 := cell_at hX 0
                have z0 := frozen_at hX 0
                have q1 := cell_at hX 1
                have z1 := frozen_at hX 1
                have q2 := cell_at hX 2
                have z2 := frozen_at hX 2
                have q3 := cell_at hX 3
                have z3 := frozen_at hX 3
                have HX := Lib.hid hX
                have HUU := Lib.hid hU
                have HBo := Lib.hid hBo
                clear hX hU hBo hW e2
                refine ⟨_, by go_simp <;> with_reducible rfl, ?_, trivial⟩
                exact rdu_made HUU.out HX.out HBo.out hpx hgx
              simp only [Act.put]
              refine flow_end ?_
              rintro W ⟨hR, _⟩ _
              exact .inl ⟨by trivial, px, g40, c40, rfl, hR⟩
            · simp only [addAfter, addL]
              refine ok_flow (fun W => Fr 0 [] [pt] wr W) (fun W => UE w 116 80 84 pt pe D s (.slice Av l.length cv) l o1 o2 W) [0, 1, 2, 3, 4, 5, 6, 7, 8, 9, 13, 10, 11, 12, 14] (fun _ => trivial) rfl (fun _ _ _ _ _ h => callsIn_wide.2 h) (by kernel_rfl) (by kernel_rfl) ((Fr.refl wr).drew) (HU.out.below (Below.refl _ wr).drew) ?_
              refine flow_val ?_ rfl (by kernel_rfl) (by rfl) (fun W hW => ?_) ?_
              rotate_left 1
              · go_simp <;> with_reducible rfl
              simp only [Act.put, List.setIfInBounds_toArray, List.set_cons_succ, List.set_cons_zero]
              refine flow_val ?_ rfl (by kernel_rfl) (by rfl) (fun W hW => ?_) ?_
              rotate_left 1
              · go_simp <;> with_reducible rfl
              simp only [Act.put, List.setIfInBounds_toArray, List.set_cons_succ, List.set_cons_zero]
              refine flow_val ?_ rfl (by kernel_rfl) (by rfl) (fun W hW => ?_) ?_
              rotate_left 1
              · go_simp <;> with_reducible rfl
              simp only [Act.put, List.setIfInBounds_toArray, List.set_cons_succ, List.set_cons_zero]
              refine flow_val ?_ rfl (by kernel_rfl) (by rfl) (fun W hW => ?_) ?_
              rotate_left 1
              · have c1 : W.cell? ⟨pe, 1, none⟩ = some (.int .i64 o1) := cell_at (hW.keep0 HU.out.e (by simp; omega)) 1; go_simp <;> with_reducible rfl
              simp only [Act.put, List.setIfInBounds_toArray, List.set_cons_succ, List.set_cons_zero]
              refine flow_val ?_ rfl (by kernel_rfl) (by rfl) (fun W hW => ?_) ?_
              rotate_left 1
              · go_simp <;> with_reducible rfl
              simp only [Act.put, List.setIfInBounds_toArray, List.set_cons_succ, List.set_cons_zero]
              refine flow_val ?_ rfl (by kernel_rfl) (by rfl) (fun W hW => ?_) ?_
              rotate_left 1
              · go_simp <;> with_reducible rfl
              simp only [Act.put, List.setIfInBounds_toArray, List.set_cons_succ, List.set_cons_zero]
              refine flow_val ?_ rfl (by kernel_rfl) (by rfl) (fun W hW => ?_) ?_
              rotate_left 1
              · go_simp <;> with_reducible rfl
              simp only [Act.put, List.setIfInBounds_toArray, List.set_cons_succ, List.set_cons_zero]
              refine flow_val ?_ rfl (by kernel_rfl) (by rfl) (fun W hW => ?_) ?_
              rotate_left 1
              · go_simp <;> with_reducible rfl
              simp only [Act.put, List.setIfInBounds_toArray, List.set_cons_succ, List.set_cons_zero]
              refine flow_val ?_ rfl (by kernel_rfl) (by rfl) (fun W hW => ?_) ?_
              rotate_left 1
              · go_simp <;> with_reducible rfl
              simp only [Act.put, List.setIfInBounds_toArray, List.set_cons_succ, List.set_cons_zero]
              refine flow_val ?_ rfl (by kernel_rfl) (by rfl) (fun W hW => ?_) ?_
              rotate_left 1
              · go_simp <;> with_reducible rfl
              simp only [Act.put, List.setIfInBounds_toArray, List.set_cons_succ, List.set_cons_zero]
              refine flow_gmake (fun v W => ∃ g, v = .pointer (some ⟨g, 0, none⟩) ∧ pe < g ∧ (∀ j, (Value.slice Av l.length cv).ownBlock = some j → j ≠ g) ∧ W.heap[g]? = some (.cells #[.int .i64 0, .slice none 0 0, .int .i64 0, .int .i64 0] 84 (0, 0)) ∧ UE w 116 80 84 pt pe D s (.slice Av l.length cv) l o1 o2 W) rfl (by kernel_rfl) (by rfl) (by kernel_rfl) (fun W hW hC => ?_) ?_
              · have hU := hC
                have hb : Below W.heap.size W (W.alloc (.cells #[.int .i64 0, .slice none 0 0, .int .i64 0, .int .i64 0] 84)) := (Below.refl _ W).alloc (Nat.le_refl _) _
                exact ⟨_, _, by go_simp <;> with_reducible rfl, hW.then hb, ⟨_, rfl, lt_of_block hU.e, fun j hj => by have := (hU.ownb j hj).2.1; omega, block_new _ _, hU.below hb⟩⟩
              rintro v8 ⟨_, _, px, rfl, hpx, hgx, _, _⟩
              simp only [Act.put, List.setIfInBounds_toArray, List.set_cons_succ, List.set_cons_zero]
              refine flow_turn (.string S) (fun W => UE w 116 80 84 pt pe D ta.2 (.slice Av l.length cv) l o1 o2 W ∧ W.heap[px]? = some (.cells #[.int .i64 0, .slice none 0 0, .int .i64 0, .int .i64 0] 84 (0, 0))) rfl (by kernel_rfl) (by rfl) (by kernel_rfl) (fun W hW hC => ?_) ?_
              · obtain ⟨g2, e2, hpx2, hgx2, hX, hU⟩ := hC
                injection e2 with e2
                injection e2 with e2
                injection e2 with e2 _ _
                subst e2
                refine ⟨_, _, _, by go_simp, (ttext_any pt D s 2048 W hU.t hU.dp).mono fun e w1 hr => ?_⟩
                have h1 := hU.turn (by decide) hr
                rw [HTA.out, HSS.out] at h1
                exact ⟨h1.1, ⟨hW.1.trans hr.2.2, trivial⟩, ⟨h1.2, hr.2.2.keep0 hX (by simp; omega)⟩⟩
              simp only [Act.put, List.setIfInBounds_toArray, List.set_cons_succ, List.set_cons_zero]
              refine flow_gmake (fun v W => ∃ g c, v = .slice (some ⟨g, 0, none⟩) S.size c ∧ ByO W v ta.1 ∧ UE w 116 80 84 pt pe D ta.2 (.slice Av l.length cv) l o1 o2 W ∧ W.heap[px]? = some (.cells #[.int .i64 0, .slice none 0 0, .int .i64 0, .int .i64 0] 84 (0, 0))) rfl (by kernel_rfl) (by rfl) (by kernel_rfl) (fun W hW hC => ?_) ?_
              · obtain ⟨hU, hX⟩ := hC
                obtain ⟨c2, W', hcv, hbo, hb, _⟩ := str_body W S HSZ.out
                rw [HNAT.out] at hbo
                refine ⟨_, W', by go_simp <;> with_reducible rfl, ⟨⟨hW.1.1.then hb, trivial⟩, trivial⟩, W.heap.size, c2, rfl, hbo, hU.below hb, (hb.block _ (lt_of_block hX)).trans hX⟩
              rintro v40 ⟨_, _, g40, c40, rfl, _, _, _⟩
              simp only [Act.put, List.setIfInBounds_toArray, List.set_cons_succ, List.set_cons_zero]
              refine flow_val ?_ rfl (by kernel_rfl) (by rfl) (fun W hW => ?_) ?_
              rotate_left 1
              · go_simp <;> with_reducible rfl
              simp only [Act.put, List.setIfInBounds_toArray, List.set_cons_succ, List.set_cons_zero]
              refine flow_bar (fun W => RDU w pt pe D ta.2 (.slice Av l.length cv) l o1 o2 sq ta.1 px (.slice (some ⟨g40, 0, none⟩) S.size c40) W) (fun _ => True) rfl (by kernel_rfl) (by rfl) (by kernel_rfl) (by kernel_rfl) (fun W hW hC => ?_) ?_
              · obtain ⟨g2, c2, e2, hBo, hU, hX⟩ := hC
                have q0 := cell_at hX 0
                have z0 := frozen_at hX 0
                have q1 := cell_at hX 1
                have z1 := frozen_at hX 1
                have q2 := cell_at hX 2
                have z2 := frozen_at hX 2
                have q3 := cell_at hX 3
                have z3 := frozen_at hX 3
                have HX := Lib.hid hX
                have HUU := Lib.hid hU
                have HBo := Lib.hid hBo
                clear hX hU hBo hW e2
                refine ⟨_, by go_simp <;> with_reducible rfl, ?_, trivial⟩
                exact rdu_made HUU.out HX.out HBo.out hpx hgx
              simp only [Act.put]
              refine flow_end ?_
              rintro W ⟨hR, _⟩ _
              exact .inl ⟨by trivial, px, g40, c40, rfl, hR⟩
        case hk =>
          rintro px g40 cb W0 ⟨m1, m2, m3, hpex, m5⟩
          obtain ⟨nb, hnb⟩ : ∃ nb, S.size = nb := ⟨_, rfl⟩
          obtain ⟨Ab, hAb⟩ : ∃ Ab : Option Addr, some ⟨g40, 0, none⟩ = Ab := ⟨_, rfl⟩
          rw [hnb, hAb] at m2 m3
          have HUW0 := Lib.hid m1
          have HQW0 := Lib.hid m2
          have HBW0 := Lib.hid m3
          have HGX := Lib.hid m5
          simp only [hnb, hAb]
          clear m1 m2 m3 m5 hnb hAb hw1 hw2 hw3'
          go_wp2_with fail
          refine (tnum_any pt D _ 1 9223372036854775807 W0 HUW0.out.t HUW0.out.dp).mono ?_
          intro e w7 hr
          have hf := hr.2.2
          have hptw7 : ∃ cs, W0.heap[pt]? = some (.cells cs 116 (0, 0)) := by obtain ⟨_, _, h, _⟩ := id HUW0.out.t; exact ⟨_, h⟩
          obtain ⟨rfl, hB⟩ := HUW0.out.turn (by decide) hr
          obtain ⟨tb, htb⟩ : ∃ y, numT ta.2 1 9223372036854775807 = y := ⟨_, rfl⟩
          rw [htb] at hB ⊢
          have Htb := Lib.hid htb
          have hqB := hf.keep0 HQW0.out (by simp; omega)
          have hbB := HBW0.out.frame hf (by simp) (ne_u8 hptw7.choose_spec (by decide))
          have hfs : Fr 0 [] [px] w7 (w7.setCell ⟨px, 2, none⟩ (.int .i64 tb.1)) := (Fr.refl w7).setCell (p := ⟨px, 2, none⟩) _ (Nat.zero_le _) (.inl (by simp))
          have HUsw7 := Lib.hid (hB.set hpex HGX.out hqB (by decide) 2 (.int .i64 tb.1))
          have HQsw7 := Lib.hid (block_set hqB 2 (.int .i64 tb.1))
          have HBsw7 := Lib.hid (hbB.far hfs hqB (by decide))
          have y7 : w7.cell? ⟨px, 2, none⟩ = some (.int .i64 0) := cell_at hqB 2
          have z7 := frozen_at hqB 2
          clear hr hf hptw7 hB htb hqB hbB hfs
          go_wp2_with fail
          obtain ⟨w7s, hww7⟩ : ∃ z, w7.setCell ⟨px, 2, none⟩ (.int .i64 tb.1) = z := ⟨_, rfl⟩
          rw [hww7] at HUsw7 HQsw7 HBsw7 ⊢
          clear y7 z7 hww7
          refine (tnum_any pt D _ (-9223372036854775808) 9223372036854775807 w7s HUsw7.out.t HUsw7.out.dp).mono ?_
          intro e w8 hr
          have hf := hr.2.2
          have hptw8 : ∃ cs, w7s.heap[pt]? = some (.cells cs 116 (0, 0)) := by obtain ⟨_, _, h, _⟩ := id HUsw7.out.t; exact ⟨_, h⟩
          obtain ⟨rfl, hB⟩ := HUsw7.out.turn (by decide) hr
          obtain ⟨tc, htc⟩ : ∃ y, numT tb.2 (-9223372036854775808) 9223372036854775807 = y := ⟨_, rfl⟩
          rw [htc] at hB ⊢
          have Htc := Lib.hid htc
          have hqB := hf.keep0 HQsw7.out (by simp; omega)
          have hbB := HBsw7.out.frame hf (by simp) (ne_u8 hptw8.choose_spec (by decide))
          have hfs : Fr 0 [] [px] w8 (w8.setCell ⟨px, 3, none⟩ (.int .i64 tc.1)) := (Fr.refl w8).setCell (p := ⟨px, 3, none⟩) _ (Nat.zero_le _) (.inl (by simp))
          have HUsw8 := Lib.hid (hB.set hpex HGX.out hqB (by decide) 3 (.int .i64 tc.1))
          have HQsw8 := Lib.hid (block_set hqB 3 (.int .i64 tc.1))
          have HBsw8 := Lib.hid (hbB.far hfs hqB (by decide))
          have y7 : w8.cell? ⟨px, 3, none⟩ = some (.int .i64 0) := cell_at hqB 3
          have z7 := frozen_at hqB 3
          clear hr hf hptw8 hB htc hqB hbB hfs
          go_wp2_with fail
          obtain ⟨w8s, hww8⟩ : ∃ z, w8.setCell ⟨px, 3, none⟩ (.int .i64 tc.1) = z := ⟨_, rfl⟩
          rw [hww8] at HUsw8 HQsw8 HBsw8 ⊢
          clear y7 z7 hww8
          have HUw9 := HUsw8
          have hxe : (⟨sq, ta.1, tb.1, tc.1⟩ : LIt) = (itT (o1 - n + 1 + l.length) s).1 := by
            unfold itT
            simp only [HTA.out, Htb.out, Htc.out, HRS.out, HSQ.out]
          have hstep : unI (o1 - n + 1) (n - k) l s = unI (o1 - n + 1) (n - (k + 1)) (l ++ [⟨sq, ta.1, tb.1, tc.1⟩]) tc.2 := by
            rw [show n - k = n - (k + 1) + 1 by omega, unI, ← hxe]
            unfold itT
            simp only [HTA.out, Htb.out, Htc.out]
          have HSTEP := Lib.hid hstep
          have hsn : (∀ b ∈ tc.2.1, b < 256) ∧ tc.2.1.length ≤ bs.length := by
            have a1 := numT_lt HTB.out.2 1 9223372036854775807
            have a2 := numT_le ta.2 1 9223372036854775807
            rw [Htb.out] at a1 a2
            have a3 := numT_lt a1 (-9223372036854775808) 9223372036854775807
            have a4 := numT_le tb.2 (-9223372036854775808) 9223372036854775807
            rw [Htc.out] at a3 a4
            exact ⟨a3, Nat.le_trans a4 (Nat.le_trans a2 HTL.out.2)⟩
          have HSN := Lib.hid hsn
          obtain ⟨x, hx⟩ : ∃ x : LIt, (⟨sq, ta.1, tb.1, tc.1⟩ : LIt) = x := ⟨_, rfl⟩
          have HU9 : Hid (UE w 116 80 84 pt pe D tc.2 (.slice Av l.length cv) l o1 o2 w8s) := HUsw8
          have HB9 : Hid (ByO w8s (.slice Ab nb cb) x.body) := Lib.hid (by rw [← hx]; exact HBsw8.out)
          have HQ9 := HQsw8
          have HXE : Hid (encL ⟨x, .slice Ab nb cb⟩ = [.int .i64 sq, .slice Ab nb cb, .int .i64 tb.1, .int .i64 tc.1]) := Lib.hid (by rw [← hx]; rfl)
          rw [hx] at HSTEP
          obtain ⟨b1, hb1⟩ : ∃ b1, tb.1 = b1 := ⟨_, rfl⟩
          obtain ⟨c1, hc1⟩ : ∃ c1, tc.1 = c1 := ⟨_, rfl⟩
          obtain ⟨s9, hs9⟩ : ∃ s9, tc.2 = s9 := ⟨_, rfl⟩
          rw [hb1, hc1] at HQ9 HXE
          rw [hs9] at HU9 HSTEP HSN
          obtain ⟨w9, hw9⟩ : ∃ w9, w8s = w9 := ⟨_, rfl⟩
          rw [hw9] at HU9 HB9 HQ9
          simp only [hw9]
          clear hxe hstep hsn hx hb1 hc1 hs9 hw9 HUw9 HUsw8 HBsw8 HQsw8
          refine wp_region_flow2 (fun W => Fr 0 [84] [] w9 W ∧ W.heap[px]? = some (.cells #[.int .i64 sq, .slice Ab nb cb, .int .i64 b1, .int .i64 c1] 84 (0, 0))) (fun W => UE w 116 80 84 pt pe D s9 (.slice Av l.length cv) l o1 o2 W) [0, 1, 2, 3, 4, 5, 6, 7, 8, 9, 10] (by kernel_rfl) (by kernel_rfl) (by kernel_rfl) (⟨(Fr.refl w9).drew, HQ9.out⟩) ((HU9.out.below (Below.refl _ w9).drew)) ?_
          refine flow_val ?_ rfl (by kernel_rfl) (by rfl) (fun W hW => ?_) ?_
          rotate_left 1
          · go_simp <;> with_reducible rfl
          simp only [Act.put, List.setIfInBounds_toArray, List.set_cons_succ, List.set_cons_zero]
          refine flow_val ?_ rfl (by kernel_rfl) (by rfl) (fun W hW => ?_) ?_
          rotate_left 1
          · go_simp <;> with_reducible rfl
          simp only [Act.put, List.setIfInBounds_toArray, List.set_cons_succ, List.set_cons_zero]
          refine flow_val ?_ rfl (by kernel_rfl) (by rfl) (fun W hW => ?_) ?_
          rotate_left 1
          · go_simp <;> with_reducible rfl
          simp only [Act.put, List.setIfInBounds_toArray, List.set_cons_succ, List.set_cons_zero]
          refine flow_val ?_ rfl (by kernel_rfl) (by rfl) (fun W hW => ?_) ?_
          rotate_left 1
          · go_simp <;> with_reducible rfl
          simp only [Act.put, List.setIfInBounds_toArray, List.set_cons_succ, List.set_cons_zero]
          refine flow_val ?_ rfl (by kernel_rfl) (by rfl) (fun W hW => ?_) ?_
          rotate_left 1
          · have e1 : W.cell? ⟨pe, 0, none⟩ = some (.slice Av l.length cv) := cell_at (hW.1.keep HU9.out.e (by decide) (by simp)) 0; go_simp <;> with_reducible rfl
          simp only [Act.put, List.setIfInBounds_toArray, List.set_cons_succ, List.set_cons_zero]
          refine flow_val ?_ rfl (by kernel_rfl) (by rfl) (fun W hW => ?_) ?_
          rotate_left 1
          · have e1 : W.cell? ⟨px, 0, none⟩ = some (.int .i64 sq) := cell_at hW.2 0; have e2 : W.cell? ⟨px, 1, none⟩ = some (.slice Ab nb cb) := cell_at hW.2 1; have e3 : W.cell? ⟨px, 2, none⟩ = some (.int .i64 b1) := cell_at hW.2 2; have e4 : W.cell? ⟨px, 3, none⟩ = some (.int .i64 c1) := cell_at hW.2 3; go_simp <;> with_reducible rfl
          simp only [Act.put, List.setIfInBounds_toArray, List.set_cons_succ, List.set_cons_zero]
          refine flow_gmake (fun v W => ∃ g', v = .slice (some ⟨g', 0, none⟩) 1 1 ∧ W.heap[g']? = some (.cells #[.int .i64 sq, .slice Ab nb cb, .int .i64 b1, .int .i64 c1] 84 (0, 0)) ∧ UE w 116 80 84 pt pe D s9 (.slice Av l.length cv) l o1 o2 W) rfl (by kernel_rfl) (by rfl) (by kernel_rfl) (fun W hW hC => ?_) ?_
          · have hb : Below W.heap.size W (W.alloc (.cells #[.int .i64 sq, .slice Ab nb cb, .int .i64 b1, .int .i64 c1] 84)) := (Below.refl _ W).alloc (Nat.le_refl _) _
            exact ⟨_, _, by go_simp <;> with_reducible rfl, ⟨hW.1.then hb, (hb.block _ (lt_of_block hW.2)).trans hW.2⟩, ⟨_, rfl, block_new _ _, hC.below hb⟩⟩
          rintro v54 ⟨_, _, g54, rfl, _, _⟩
          simp only [Act.put, List.setIfInBounds_toArray, List.set_cons_succ, List.set_cons_zero]
          refine flow_gmake (fun v W => UF w 116 80 84 pt pe D s9 (.slice Av l.length cv) v (l ++ [x]) o1 o2 W) rfl (by kernel_rfl) (by rfl) (by kernel_rfl) (fun W hW hC => ?_) ?_
          · obtain ⟨g2, e2, hg2, hC2⟩ := hC
            injection e2 with e2 _ _
            injection e2 with e2
            injection e2 with e2 _ _
            subst e2
            obtain ⟨zs, hz, ho, hbo⟩ := hC2.r
            have hbx := (HB9.out.frame hW.1.1 (by decide) (by simp))
            refine exec_append_rd (.tmp 52) (.tmp 54) 78 rfl pe 84 i0 (.agg #[.int .i64 0, .slice none 0 0, .int .i64 0, .int .i64 0]) 4 48 Try.underlying78 hi0 hz0 hz1 hz2 rfl (by decide) (.slice Av l.length cv) l.length (zs.flatMap encL) rfl ho (some ⟨g54, 0, none⟩) 1 1 (encL ⟨x, .slice Ab nb cb⟩) rfl ⟨rfl, fun _ => ⟨_, _, rfl, lt_of_block hg2, fun j u hu => ?_⟩⟩ (by simp [encL, Value.oneCell']) (by rw [HRS.out]; unfold maxLen; omega) (by rw [HRS.out]; omega) (by have := lt_of_block hC2.e; omega) (fun v' w' x2 x3 => ?_)
            · rw [HXE.out] at hu
              match j, hu with
              | 0, hu => simp at hu; subst hu; rw [cell_at hg2]; rfl
              | 1, hu => simp at hu; subst hu; rw [cell_at hg2]; rfl
              | 2, hu => simp at hu; subst hu; rw [cell_at hg2]; rfl
              | 3, hu => simp at hu; subst hu; rw [cell_at hg2]; rfl
              | j + 4, hu => simp at hu
            · refine ⟨⟨⟨hW.1.1.trans (UE.fr ho x3 0 (Nat.zero_le _)), ?_⟩, trivial⟩, hC2.app (by decide) (by decide) hz ho hbo hbx x2 x3⟩
              rw [x3.block px (lt_of_block hW.1.2) (fun e => HGX.out px e.symm rfl)]
              exact hW.1.2
          rintro v55 ⟨_, _, hv55⟩
          simp only [Act.put, List.setIfInBounds_toArray, List.set_cons_succ, List.set_cons_zero]
          obtain ⟨xs55, ho55⟩ := hv55.r.own
          obtain ⟨A55, c55, e55, _, _, _, _⟩ := own_slice ho55
          rw [List.length_append, HRS.out] at e55
          subst e55
          clear hv55 ho55
          refine flow_val ?_ rfl (by kernel_rfl) (by rfl) (fun W hW => ?_) ?_
          rotate_left 1
          · go_simp <;> with_reducible rfl
          simp only [Act.put, List.setIfInBounds_toArray, List.set_cons_succ, List.set_cons_zero]
          refine flow_val ?_ rfl (by kernel_rfl) (by rfl) (fun W hW => ?_) ?_
          rotate_left 1
          · go_simp <;> with_reducible rfl
          simp only [Act.put, List.setIfInBounds_toArray, List.set_cons_succ, List.set_cons_zero]
          refine flow_bar (fun W => UE w 116 80 84 pt pe D s9 (.slice A55 (k + [x].length) c55) (l ++ [x]) o1 o2 W) (fun _ => True) rfl (by kernel_rfl) (by rfl) (by kernel_rfl) (by kernel_rfl) (fun W hW hC => ?_) ?_
          · have q1 := cell_at hC.e 0
            have q2 := frozen_at hC.e 0
            have HC := Lib.hid hC
            clear hC hW
            refine ⟨_, by go_simp <;> with_reducible rfl, ?_, trivial⟩
            exact HC.out.store (by decide)
          simp only [Act.put]
          refine flow_done2 ?_
          intro W hW _
          have H10 := Lib.hid hW
          clear hW
          go_wp2_with fail
          go_roundw
          case rel => exact ⟨k + 1, _, _, l ++ [x], hlt, by rw [List.length_append, HRS.out]; rfl, by go_num, H10.out.1, by rw [← HSTEP.out, HOK.out], HSN.out.1, HSN.out.2⟩
          case measure => simp [intOf]; omega
      · obtain rfl : k = n := by omega
        have HFIN : Hid (unE bs = endE o1 o2 (okI (l, s))) := Lib.hid (by rw [HU0.out, ← HOK.out, Nat.sub_self]; rfl)
        clear hlt
        go_wp2_with fail
        refine (tdone_any pt D s wr HU.out.t).mono ?_
        rintro e w10 ⟨rfl, rfl⟩
        obtain ⟨d, hd⟩ : ∃ d, doneT s = d := ⟨_, rfl⟩
        have HD2 := Lib.hid hd
        rw [hd]
        clear hd
        by_cases hd0 : d = 0
        · subst hd0
          have HR : Hid (unE bs = some ⟨l, o1, o2⟩) := Lib.hid (by rw [HFIN.out]; simp [okI, HD2.out, endE])
          go_wp2_with fail
          refine bodyPost_ret (results_tmp2 rfl _ _ _) rfl ?_
          exact retUE_some HR.out HU.out
        · have HR : Hid (unE bs = none) := Lib.hid (by rw [HFIN.out]; simp [okI, HD2.out, hd0, endE])
          have hd1 : (d != 0) = true := by simpa using hd0
          clear hd0
          go_wp2_with fail
          refine bodyPost_ret (results_tmp2 rfl _ _ _) rfl ?_
          exact retUE_none HR.out HU.out.bel
end Go.Proofs.Ytnmbblkfaoihfaa
