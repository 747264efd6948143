/- The law LinkCodes: the code of any packet, and what any bytes are as one. The walk. -/
import Derived.Test.YtnmbblkfaoihfaaLRDec
import Derived.Test.YtnmbblkfaoihfaaLLives
namespace Go.Proofs.Ytnmbblkfaoihfaa
open Go.RowKit

/-- What Encode answers. -/
def codeP (k : LPk) : List Nat := if mayL k = true then packP k else []
theorem lenc_any (k : LPk) (A : Option Addr) (c : Nat) (w : World) (hb : Bs w (.slice A k.body.length c) k.body) (hl : k.body.length ≤ 9223372036854775807) (h256 : ∀ x ∈ k.body, x < 256) :
    Calls Try.prog 28 #[.agg #[.int .i64 k.seq, .int .i64 k.ack, .slice A k.body.length c]] w fun e w' => ∃ x, e = .returned (.tuple #[x, .int .i64 (if mayL k = true then 0 else 1)]) ∧ Bs w' x (codeP k) ∧ Below w.heap.size w w' := by
  cases hm : mayL k
  · refine (lenc_not k A c w hl hm).mono ?_
    rintro e w1 ⟨rfl, hb⟩
    exact ⟨_, rfl, by unfold codeP; rw [hm]; exact bs_nil _, hb⟩
  · refine (lenc_ok k A c w hb h256 hm).mono ?_
    rintro e w1 ⟨x, rfl, hx, hb⟩
    exact ⟨x, rfl, by unfold codeP; rw [hm]; exact hx, hb⟩
theorem unP_pack {k : LPk} (hm : mayL k = true) : unP (packP k) = (k, true) := by
  have h := mayL_len hm
  unfold unP packP
  rw [numT_put k.seq ⟨by omega, by omega⟩ _ (by omega) (by omega)]
  simp only
  rw [numT_put k.ack ⟨by omega, by omega⟩ _ (by omega) (by omega)]
  simp only
  have e := textT_put k.body [] (most := 2048) (by omega) (by omega)
  rw [List.append_nil] at e
  rw [e]
  simp only
  rw [if_pos ⟨by simp [doneT], hm⟩]
theorem packP_lt {k : LPk} (h : ∀ x ∈ k.body, x < 256) : ∀ b ∈ packP k, b < 256 := by
  intro b hb
  unfold packP textB at hb
  simp only [List.mem_append] at hb
  rcases hb with hb | hb | hb | hb
  · exact numB_lt _ b hb
  · exact numB_lt _ b hb
  · exact numB_lt _ b hb
  · exact h b hb
theorem packP_len {k : LPk} (h : k.body.length ≤ 2048) : (packP k).length ≤ 4096 := by
  have h1 := numB_le k.body.length
  have h2 := numB_le k.seq
  have h3 := numB_le k.ack
  simp [packP, textB]
  omega
theorem unP_lt {bs : List Nat} (hl : ∀ b ∈ bs, b < 256) : ∀ b ∈ (unP bs).1.body, b < 256 := by
  have h1 := numT_lt (s := (bs, false)) hl 0 1099511627776
  have h2 := numT_lt h1 0 1099511627776
  have h3 := (textT_lt h2 2048).1
  unfold unP
  simp only
  split
  · exact h3
  · simp
/-- A packet in a block of its own. -/
theorem pkt_cells {W : World} {g : Nat} {x y z : Value} (h : W.heap[g]? = some (.cells #[x, y, z] 43 (0, 0))) : W.cell? ⟨g, 0, none⟩ = some x ∧ W.cell? ⟨g, 1, none⟩ = some y ∧ W.cell? ⟨g, 2, none⟩ = some z := ⟨cell_at h 0, cell_at h 1, cell_at h 2⟩

set_option maxRecDepth 100000 in
set_option maxHeartbeats 1000000 in
theorem codes_any (k : LPk) (A : Option Addr) (c : Nat) (Ab : Option Addr) (cb : Nat) (bs : List Nat) (w : World) (hp : IsBy w A c k.body) (hb : IsBy w Ab cb bs) :
    Calls Try.prog 8 #[.agg #[.int .i64 k.seq, .int .i64 k.ack, .slice A k.body.length c], .slice Ab bs.length cb] w fun e w' => e = .returned (.bool true) ∧ Below w.heap.size w w' := by
  obtain ⟨i0, hi0, hz0, hz1, hz2⟩ := info_parts Try.infoByte
  have hkl : k.body.length ≤ 140737488351232 := Nat.le_trans hp.1 hp.2.1
  have hbl : bs.length ≤ 140737488351232 := Nat.le_trans hb.1 hb.2.1
  have hkm : k.body.length ≤ 9223372036854775807 := by omega
  have hcm : c ≤ 9223372036854775807 := by have := hp.2.1; omega
  have hcb : cb ≤ 9223372036854775807 := by have := hb.2.1; omega
  have HKL := Lib.hid hkl
  have HBL := Lib.hid hbl
  have HKM := Lib.hid hkm
  have HP := Lib.hid hp
  have HB := Lib.hid hb
  obtain ⟨w0, hw0⟩ : ∃ w0, w.alloc (.cells #[.int .i64 k.seq, .int .i64 k.ack, .slice A k.body.length c] 43) = w0 := ⟨_, rfl⟩
  have hb0 : Below w.heap.size w w0 := by rw [← hw0]; exact (Below.refl _ w).alloc (Nat.le_refl _) _
  have hq0 : w0.heap[w.heap.size]? = some (.cells #[.int .i64 k.seq, .int .i64 k.ack, .slice A k.body.length c] 43 (0, 0)) := by rw [← hw0]; exact block_new w _
  have HW0 := Lib.hid hw0
  have HB0 := Lib.hid hb0
  have HQ0 := Lib.hid hq0
  clear hkl hkm hp hb hw0 hb0 hq0
  go_enter Try.func8, Try.ntmps8
  go_wp2_with fail
  rw [HW0.out]
  refine (lenc_any k A c w0 (HP.out.bs.below HB0.out) HKM.out HP.out.2.2.2.1).mono ?_
  rintro e w1 ⟨x1, rfl, hx1, hb1⟩
  obtain ⟨E, hE⟩ : ∃ E : Int, (if mayL k = true then 0 else 1) = E := ⟨_, rfl⟩
  rw [hE]
  have HE := Lib.hid hE
  clear hE
  have HX1 := Lib.hid hx1
  have HB1 := Lib.hid (HB0.out.trans (hb1.mono HB0.out.size))
  have HQ1 := Lib.hid ((hb1.block _ (lt_of_block HQ0.out)).trans HQ0.out)
  obtain ⟨A1, c1, rfl, hn1, hm1, _⟩ := hx1
  have hc1 : c1 ≤ 9223372036854775807 := by unfold maxLen at hm1; omega
  clear hb1 hm1
  go_wp2_with (first
    | (at_builtin
       refine wpList_append_rd _ rfl (.tmp 19) (.tmp 20) 41 rfl w1.heap.size 5 i0 (.int .u8 0) 1 1 Try.underlying41 hi0 hz0 hz1 hz2 rfl (by decide) (.slice (some ⟨w1.heap.size, 0, none⟩) 0 0) 0 [] rfl (own_of_cells w1 #[] 0 (Nat.zero_le _) rfl) Ab bs.length cb (bs.map u8v) rfl ((HB.out.2.2.1.below HB1.out).below ((Below.refl _ _).alloc (Nat.le_refl _) _)) (u8_one' _) (by unfold maxLen; omega) (by omega) (by simp) ?_
       intro v2 w2 hown2 hgrow2 _
       have HO2 := Lib.hid hown2
       have hG2 := Fr.grown (B := w1.heap.size) (T := [5]) (S := []) ((Fr.refl w1).alloc (.cells #[] 5)) hgrow2 (fun j hj => by
         simp [Value.ownBlock] at hj
         subst hj
         exact ⟨Nat.le_refl _, .inr ⟨_, _, _, block_new _ _, by simp⟩⟩)
       have HB12 := Lib.hid (hG2.below (Nat.le_refl _))
       clear hown2 hgrow2 hG2)
    | fail)
  have hbs2 : Bs w2 v2 bs := Bs.own_lt (n := bs.length) (by simpa using HO2.out)
  have HBS2 := Lib.hid hbs2
  obtain ⟨A2, c2, rfl, _, km2, _⟩ := hbs2
  have hc2 : c2 ≤ 9223372036854775807 := by unfold maxLen at km2; omega
  have HB2 := Lib.hid (HB1.out.trans (HB12.out.mono HB1.out.size))
  have HQ2 := Lib.hid ((HB12.out.block _ (lt_of_block HQ1.out)).trans HQ1.out)
  have HX2 := Lib.hid (HX1.out.below HB12.out)
  clear hi0 hz0 hz1 hz2 km2 HO2 hbl
  go_wp2_with fail
  obtain ⟨K, u, hu⟩ : ∃ K u, unP bs = (K, u) := ⟨_, _, rfl⟩
  have hK := unP_lt HB.out.2.2.2.1
  rw [hu] at hK
  have HK := Lib.hid hK
  have HU := Lib.hid hu
  refine (ldec_any _ bs w2 HBS2.out HB.out.2.2.2.1 (by have := HBL.out; omega)).mono ?_
  rintro e w3 ⟨x3, rfl, hx3, hb3⟩
  rw [HU.out] at hx3 ⊢
  simp only at hx3 ⊢
  obtain ⟨F, hF⟩ : ∃ F : Int, (if u = true then 0 else 10) = F := ⟨_, rfl⟩
  have hF' : (if u = true then Value.int .i64 0 else Value.int .i64 10) = .int .i64 F := by rw [← hF]; cases u <;> rfl
  rw [hF']
  have HF := Lib.hid hF
  have HX3 := Lib.hid hx3
  obtain ⟨A3, c3, rfl, _, _, _⟩ := hx3
  obtain ⟨w4, hw4⟩ : ∃ w4, w3.alloc (.cells #[.int .i64 K.seq, .int .i64 K.ack, .slice A3 K.body.length c3] 43) = w4 := ⟨_, rfl⟩
  have hb34 : Below w3.heap.size w3 w4 := by rw [← hw4]; exact (Below.refl _ _).alloc (Nat.le_refl _) _
  have hq4 : w4.heap[w3.heap.size]? = some (.cells #[.int .i64 K.seq, .int .i64 K.ack, .slice A3 K.body.length c3] 43 (0, 0)) := by rw [← hw4]; exact block_new w3 _
  have hb24 : Below w2.heap.size w2 w4 := hb3.trans (hb34.mono hb3.size)
  have HB4 := Lib.hid (HB2.out.trans (hb24.mono HB2.out.size))
  have HQ4 := Lib.hid ((hb24.block _ (lt_of_block HQ2.out)).trans HQ2.out)
  have HX14 := Lib.hid (HX2.out.below hb24)
  have HBS4 := Lib.hid (HBS2.out.below hb24)
  have HX34 := Lib.hid (HX3.out.below hb34)
  have HW4 := Lib.hid hw4
  have HR4 := Lib.hid hq4
  clear hK hu hF hF' hb3 hw4 hb34 hq4 hb24
  go_wp2_with fail
  rw [HW4.out]
  refine (rdec_any Ab cb bs w4 (HB.out.below HB4.out)).mono ?_
  rintro e w5 ⟨x5, rfl, hx5, hb5⟩
  rw [HU.out] at hx5 ⊢
  simp only at hx5 ⊢
  have hG : (if u = true then Value.bool true else Value.bool false) = .bool u := by cases u <;> rfl
  rw [hG]
  have HX5 := Lib.hid hx5
  obtain ⟨A5, c5, rfl, _, _, _⟩ := hx5
  obtain ⟨w6, hw6⟩ : ∃ w6, w5.alloc (.cells #[.int .i64 K.seq, .int .i64 K.ack, .slice A5 K.body.length c5] 43) = w6 := ⟨_, rfl⟩
  have hb56 : Below w5.heap.size w5 w6 := by rw [← hw6]; exact (Below.refl _ _).alloc (Nat.le_refl _) _
  have hq6 : w6.heap[w5.heap.size]? = some (.cells #[.int .i64 K.seq, .int .i64 K.ack, .slice A5 K.body.length c5] 43 (0, 0)) := by rw [← hw6]; exact block_new w5 _
  have hb46 : Below w4.heap.size w4 w6 := hb5.trans (hb56.mono hb5.size)
  have HB6 := Lib.hid (HB4.out.trans (hb46.mono HB4.out.size))
  have hqa := (hb46.block _ (lt_of_block HQ4.out)).trans HQ4.out
  have hqb := (hb46.block _ (lt_of_block HR4.out)).trans HR4.out
  have HX16 := Lib.hid (HX14.out.below hb46)
  have HBS6 := Lib.hid (HBS4.out.below hb46)
  have HX36 := Lib.hid (HX34.out.below hb46)
  have HX56 := Lib.hid (HX5.out.below hb56)
  have HP6 := Lib.hid (HP.out.below HB6.out)
  have HB_6 := Lib.hid (HB.out.below HB6.out)
  have HW6 := Lib.hid hw6
  have hQ : ∀ W, Below w6.heap.size w6 W → (W.cell? ⟨w.heap.size, 0, none⟩ = some (.int .i64 k.seq) ∧ W.cell? ⟨w.heap.size, 1, none⟩ = some (.int .i64 k.ack) ∧ W.cell? ⟨w.heap.size, 2, none⟩ = some (.slice A k.body.length c)) ∧
      (W.cell? ⟨w3.heap.size, 0, none⟩ = some (.int .i64 K.seq) ∧ W.cell? ⟨w3.heap.size, 1, none⟩ = some (.int .i64 K.ack) ∧ W.cell? ⟨w3.heap.size, 2, none⟩ = some (.slice A3 K.body.length c3)) ∧
      (W.cell? ⟨w5.heap.size, 0, none⟩ = some (.int .i64 K.seq) ∧ W.cell? ⟨w5.heap.size, 1, none⟩ = some (.int .i64 K.ack) ∧ W.cell? ⟨w5.heap.size, 2, none⟩ = some (.slice A5 K.body.length c5)) ∧
      (convert 41 9 (.slice A2 bs.length c2)).run Try.prog W = .ok (.string (strOf bs)) W ∧ (convert 41 9 (.slice Ab bs.length cb)).run Try.prog W = .ok (.string (strOf bs)) W := fun W hW =>
    ⟨pkt_cells ((hW.block _ (lt_of_block hqa)).trans hqa), pkt_cells ((hW.block _ (lt_of_block hqb)).trans hqb), pkt_cells ((hW.block _ (lt_of_block hq6)).trans hq6), run_str W A2 _ c2 bs (bs_rd (HBS6.out.below hW)) HB.out.2.2.2.1, run_str W Ab _ cb bs (bs_rd (HB_6.out.bs.below hW)) HB.out.2.2.2.1⟩
  obtain ⟨S, hS⟩ : ∃ S, strOf bs = S := ⟨_, rfl⟩
  rw [hS] at hQ
  have HQ := Lib.hid hQ
  have HQA := Lib.hid hqa
  obtain ⟨ga, hga⟩ : ∃ ga, w.heap.size = ga := ⟨_, rfl⟩
  have HGA := Lib.hid hga
  obtain ⟨gb, hgb⟩ : ∃ gb, w3.heap.size = gb := ⟨_, rfl⟩
  obtain ⟨gc, hgc⟩ : ∃ gc, w5.heap.size = gc := ⟨_, rfl⟩
  rw [hga, hgb, hgc] at HQ
  rw [hga] at HQA ⊢
  rw [hgb]
  clear hG hb5 hw6 hb56 hq6 hb46 hqa hqb hS hQ hga hgb
  go_wp2_with fail
  rw [HW6.out]
  clear hgc
  cases hm : mayL k
  · have HM := Lib.hid hm
    obtain rfl : E = 1 := by rw [← HE.out, hm]; rfl
    clear hm
    cases u
    · obtain rfl : F = 10 := by rw [← HF.out]; rfl
      refine wp_region_flow (fun W => Below w6.heap.size w6 W) [0, 1, 2, 3, 5, 4, 6, 7, 8, 9, 10, 11, 12, 13, 14, 15, 16, 17, 18, 19, 20, 21, 22, 23, 24, 25, 26, 27, 28, 29, 30, 31, 32, 33, 34, 35, 36, 37, 38, 39, 40, 41, 42] (by kernel_rfl) (by kernel_rfl) (by kernel_rfl) ((Below.refl _ _).drew) ?_
      refine flow_call (.bool true) rfl (by kernel_rfl) (by rfl) (by kernel_rfl) (fun W hW => ⟨_, _, _, by go_simp, (lives_any W).mono fun e w1 ⟨he, h⟩ => ⟨he, (hW).trans (h.mono (hW).size)⟩⟩) ?_
      simp only [Act.put, List.setIfInBounds_toArray, List.set_cons_succ, List.set_cons_zero]
      refine flow_val ?_ rfl (by kernel_rfl) (by rfl) (fun W hW => ?_) ?_
      rotate_left 1
      · go_simp <;> with_reducible rfl
      simp only [Act.put, List.setIfInBounds_toArray, List.set_cons_succ, List.set_cons_zero]
      refine flow_val ?_ rfl (by kernel_rfl) (by rfl) (fun W hW => ?_) ?_
      rotate_left 1
      · go_simp <;> with_reducible rfl
      simp only [Act.put, List.setIfInBounds_toArray, List.set_cons_succ, List.set_cons_zero]
      refine flow_val ?_ rfl (by kernel_rfl) (by rfl) (fun W hW => ?_) ?_
      rotate_left 1
      · obtain ⟨⟨a0, a1, a2⟩, ⟨b0, b1, b2⟩, ⟨c0, c1, c2⟩, f1, f2⟩ := HQ.out W (hW.1); go_simp <;> with_reducible rfl
      simp only [Act.put, List.setIfInBounds_toArray, List.set_cons_succ, List.set_cons_zero]
      refine flow_val ?_ rfl (by kernel_rfl) (by rfl) (fun W hW => ?_) ?_
      rotate_left 1
      · obtain ⟨⟨a0, a1, a2⟩, ⟨b0, b1, b2⟩, ⟨c0, c1, c2⟩, f1, f2⟩ := HQ.out W (hW.1); go_simp <;> with_reducible rfl
      simp only [Act.put, List.setIfInBounds_toArray, List.set_cons_succ, List.set_cons_zero]
      refine flow_call (.bool false) rfl (by kernel_rfl) (by rfl) (by kernel_rfl) (fun W hW => ⟨_, _, _, by go_simp, (lmay_any k A c W HKM.out).mono fun e w1 ⟨he, h⟩ => ⟨by rw [HM.out] at he; exact he, ⟨(hW.1).trans (h.mono (hW.1).size), trivial⟩⟩⟩) ?_
      simp only [Act.put, List.setIfInBounds_toArray, List.set_cons_succ, List.set_cons_zero]
      refine flow_call (.bool false) rfl (by kernel_rfl) (by rfl) (by kernel_rfl) (fun W hW => ⟨_, _, _, by go_simp, (rmay_any k A c W HKM.out).mono fun e w1 ⟨he, h⟩ => ⟨by rw [HM.out] at he; exact he, ⟨⟨(hW.1.1).trans (h.mono (hW.1.1).size), trivial⟩, trivial⟩⟩⟩) ?_
      simp only [Act.put, List.setIfInBounds_toArray, List.set_cons_succ, List.set_cons_zero]
      refine flow_val ?_ rfl (by kernel_rfl) (by rfl) (fun W hW => ?_) ?_
      rotate_left 1
      · go_simp <;> with_reducible rfl
      simp only [Act.put, List.setIfInBounds_toArray, List.set_cons_succ, List.set_cons_zero]
      refine flow_val ?_ rfl (by kernel_rfl) (by rfl) (fun W hW => ?_) ?_
      rotate_left 1
      · go_simp <;> with_reducible rfl
      simp only [Act.put, List.setIfInBounds_toArray, List.set_cons_succ, List.set_cons_zero]
      refine flow_val ?_ rfl (by kernel_rfl) (by rfl) (fun W hW => ?_) ?_
      rotate_left 1
      · go_simp <;> with_reducible rfl
      simp only [Act.put, List.setIfInBounds_toArray, List.set_cons_succ, List.set_cons_zero]
      refine flow_val ?_ rfl (by kernel_rfl) (by rfl) (fun W hW => ?_) ?_
      rotate_left 1
      · go_simp <;> with_reducible rfl
      simp only [Act.put, List.setIfInBounds_toArray, List.set_cons_succ, List.set_cons_zero]
      refine flow_val ?_ rfl (by kernel_rfl) (by rfl) (fun W hW => ?_) ?_
      rotate_left 1
      · go_simp <;> with_reducible rfl
      simp only [Act.put, List.setIfInBounds_toArray, List.set_cons_succ, List.set_cons_zero]
      refine flow_val ?_ rfl (by kernel_rfl) (by rfl) (fun W hW => ?_) ?_
      rotate_left 1
      · obtain ⟨⟨a0, a1, a2⟩, ⟨b0, b1, b2⟩, ⟨c0, c1, c2⟩, f1, f2⟩ := HQ.out W (hW.1.1.1); go_simp <;> with_reducible rfl
      simp only [Act.put, List.setIfInBounds_toArray, List.set_cons_succ, List.set_cons_zero]
      refine flow_call (.bool false) rfl (by kernel_rfl) (by rfl) (by kernel_rfl) (fun W hW => ⟨_, _, _, by go_simp, (rmay_any k A c W HKM.out).mono fun e w1 ⟨he, h⟩ => ⟨by rw [HM.out] at he; exact he, ⟨⟨⟨(hW.1.1.1).trans (h.mono (hW.1.1.1).size), trivial⟩, trivial⟩, trivial⟩⟩⟩) ?_
      simp only [Act.put, List.setIfInBounds_toArray, List.set_cons_succ, List.set_cons_zero]
      refine flow_val ?_ rfl (by kernel_rfl) (by rfl) (fun W hW => ?_) ?_
      rotate_left 1
      · go_simp <;> with_reducible rfl
      simp only [Act.put, List.setIfInBounds_toArray, List.set_cons_succ, List.set_cons_zero]
      refine flow_val ?_ rfl (by kernel_rfl) (by rfl) (fun W hW => ?_) ?_
      rotate_left 1
      · go_simp <;> with_reducible rfl
      simp only [Act.put, List.setIfInBounds_toArray, List.set_cons_succ, List.set_cons_zero]
      refine flow_val ?_ rfl (by kernel_rfl) (by rfl) (fun W hW => ?_) ?_
      rotate_left 1
      · go_simp <;> with_reducible rfl
      simp only [Act.put, List.setIfInBounds_toArray, List.set_cons_succ, List.set_cons_zero]
      refine flow_val ?_ rfl (by kernel_rfl) (by rfl) (fun W hW => ?_) ?_
      rotate_left 1
      · obtain ⟨⟨a0, a1, a2⟩, ⟨b0, b1, b2⟩, ⟨c0, c1, c2⟩, f1, f2⟩ := HQ.out W (hW.1.1.1.1); go_simp <;> with_reducible rfl
      simp only [Act.put, List.setIfInBounds_toArray, List.set_cons_succ, List.set_cons_zero]
      refine flow_val ?_ rfl (by kernel_rfl) (by rfl) (fun W hW => ?_) ?_
      rotate_left 1
      · obtain ⟨⟨a0, a1, a2⟩, ⟨b0, b1, b2⟩, ⟨c0, c1, c2⟩, f1, f2⟩ := HQ.out W (hW.1.1.1.1); go_simp <;> with_reducible rfl
      simp only [Act.put, List.setIfInBounds_toArray, List.set_cons_succ, List.set_cons_zero]
      refine flow_call (.bool true) rfl (by kernel_rfl) (by rfl) (by kernel_rfl) (fun W hW => ⟨_, _, _, by go_simp, (same_eq K A3 A5 c3 c5 W (HX36.out.below (hW.1.1.1.1)) (HX56.out.below (hW.1.1.1.1)) HK.out).mono fun e w1 ⟨he, h⟩ => ⟨he, ⟨⟨⟨⟨(hW.1.1.1.1).trans (h.mono (hW.1.1.1.1).size), trivial⟩, trivial⟩, trivial⟩, trivial⟩⟩⟩) ?_
      simp only [Act.put, List.setIfInBounds_toArray, List.set_cons_succ, List.set_cons_zero]
      refine flow_val ?_ rfl (by kernel_rfl) (by rfl) (fun W hW => ?_) ?_
      rotate_left 1
      · go_simp <;> with_reducible rfl
      simp only [Act.put, List.setIfInBounds_toArray, List.set_cons_succ, List.set_cons_zero]
      refine flow_val ?_ rfl (by kernel_rfl) (by rfl) (fun W hW => ?_) ?_
      rotate_left 1
      · go_simp <;> with_reducible rfl
      simp only [Act.put, List.setIfInBounds_toArray, List.set_cons_succ, List.set_cons_zero]
      refine flow_val ?_ rfl (by kernel_rfl) (by rfl) (fun W hW => ?_) ?_
      rotate_left 1
      · go_simp <;> with_reducible rfl
      simp only [Act.put, List.setIfInBounds_toArray, List.set_cons_succ, List.set_cons_zero]
      refine flow_val ?_ rfl (by kernel_rfl) (by rfl) (fun W hW => ?_) ?_
      rotate_left 1
      · go_simp <;> with_reducible rfl
      simp only [Act.put, List.setIfInBounds_toArray, List.set_cons_succ, List.set_cons_zero]
      refine flow_val ?_ rfl (by kernel_rfl) (by rfl) (fun W hW => ?_) ?_
      rotate_left 1
      · go_simp <;> with_reducible rfl
      simp only [Act.put, List.setIfInBounds_toArray, List.set_cons_succ, List.set_cons_zero]
      refine flow_val ?_ rfl (by kernel_rfl) (by rfl) (fun W hW => ?_) ?_
      rotate_left 1
      · go_simp <;> with_reducible rfl
      simp only [Act.put, List.setIfInBounds_toArray, List.set_cons_succ, List.set_cons_zero]
      refine flow_val ?_ rfl (by kernel_rfl) (by rfl) (fun W hW => ?_) ?_
      rotate_left 1
      · go_simp <;> with_reducible rfl
      simp only [Act.put, List.setIfInBounds_toArray, List.set_cons_succ, List.set_cons_zero]
      refine flow_val ?_ rfl (by kernel_rfl) (by rfl) (fun W hW => ?_) ?_
      rotate_left 1
      · go_simp <;> with_reducible rfl
      simp only [Act.put, List.setIfInBounds_toArray, List.set_cons_succ, List.set_cons_zero]
      refine flow_val ?_ rfl (by kernel_rfl) (by rfl) (fun W hW => ?_) ?_
      rotate_left 1
      · go_simp <;> with_reducible rfl
      simp only [Act.put, List.setIfInBounds_toArray, List.set_cons_succ, List.set_cons_zero]
      refine flow_val ?_ rfl (by kernel_rfl) (by rfl) (fun W hW => ?_) ?_
      rotate_left 1
      · go_simp <;> with_reducible rfl
      simp only [Act.put, List.setIfInBounds_toArray, List.set_cons_succ, List.set_cons_zero]
      refine flow_val ?_ rfl (by kernel_rfl) (by rfl) (fun W hW => ?_) ?_
      rotate_left 1
      · go_simp <;> with_reducible rfl
      simp only [Act.put, List.setIfInBounds_toArray, List.set_cons_succ, List.set_cons_zero]
      refine flow_val ?_ rfl (by kernel_rfl) (by rfl) (fun W hW => ?_) ?_
      rotate_left 1
      · go_simp <;> with_reducible rfl
      simp only [Act.put, List.setIfInBounds_toArray, List.set_cons_succ, List.set_cons_zero]
      refine flow_val ?_ rfl (by kernel_rfl) (by rfl) (fun W hW => ?_) ?_
      rotate_left 1
      · go_simp <;> with_reducible rfl
      simp only [Act.put, List.setIfInBounds_toArray, List.set_cons_succ, List.set_cons_zero]
      refine flow_val ?_ rfl (by kernel_rfl) (by rfl) (fun W hW => ?_) ?_
      rotate_left 1
      · go_simp <;> with_reducible rfl
      simp only [Act.put, List.setIfInBounds_toArray, List.set_cons_succ, List.set_cons_zero]
      refine flow_val ?_ rfl (by kernel_rfl) (by rfl) (fun W hW => ?_) ?_
      rotate_left 1
      · go_simp <;> with_reducible rfl
      simp only [Act.put, List.setIfInBounds_toArray, List.set_cons_succ, List.set_cons_zero]
      refine flow_val ?_ rfl (by kernel_rfl) (by rfl) (fun W hW => ?_) ?_
      rotate_left 1
      · go_simp <;> with_reducible rfl
      simp only [Act.put, List.setIfInBounds_toArray, List.set_cons_succ, List.set_cons_zero]
      refine flow_val ?_ rfl (by kernel_rfl) (by rfl) (fun W hW => ?_) ?_
      rotate_left 1
      · go_simp <;> with_reducible rfl
      simp only [Act.put, List.setIfInBounds_toArray, List.set_cons_succ, List.set_cons_zero]
      refine flow_val ?_ rfl (by kernel_rfl) (by rfl) (fun W hW => ?_) ?_
      rotate_left 1
      · go_simp <;> with_reducible rfl
      simp only [Act.put, List.setIfInBounds_toArray, List.set_cons_succ, List.set_cons_zero]
      refine flow_val ?_ rfl (by kernel_rfl) (by rfl) (fun W hW => ?_) ?_
      rotate_left 1
      · obtain ⟨⟨a0, a1, a2⟩, ⟨b0, b1, b2⟩, ⟨c0, c1, c2⟩, f1, f2⟩ := HQ.out W (hW.1.1.1.1.1); go_simp <;> with_reducible rfl
      simp only [Act.put, List.setIfInBounds_toArray, List.set_cons_succ, List.set_cons_zero]
      refine flow_val ?_ rfl (by kernel_rfl) (by rfl) (fun W hW => ?_) ?_
      rotate_left 1
      · go_simp <;> with_reducible rfl
      simp only [Act.put, List.setIfInBounds_toArray, List.set_cons_succ, List.set_cons_zero]
      refine flow_val ?_ rfl (by kernel_rfl) (by rfl) (fun W hW => ?_) ?_
      rotate_left 1
      · obtain ⟨⟨a0, a1, a2⟩, ⟨b0, b1, b2⟩, ⟨c0, c1, c2⟩, f1, f2⟩ := HQ.out W (hW.1.1.1.1.1); go_simp <;> with_reducible rfl
      simp only [Act.put, List.setIfInBounds_toArray, List.set_cons_succ, List.set_cons_zero]
      refine flow_val ?_ rfl (by kernel_rfl) (by rfl) (fun W hW => ?_) ?_
      rotate_left 1
      · go_simp <;> with_reducible rfl
      simp only [Act.put, List.setIfInBounds_toArray, List.set_cons_succ, List.set_cons_zero]
      refine flow_val ?_ rfl (by kernel_rfl) (by rfl) (fun W hW => ?_) ?_
      rotate_left 1
      · go_simp <;> with_reducible rfl
      simp only [Act.put, List.setIfInBounds_toArray, List.set_cons_succ, List.set_cons_zero]
      refine flow_done ?_
      intro W hW
      have HWB := Lib.hid (HB6.out.trans (hW.1.1.1.1.1.mono HB6.out.size))
      clear hW
      have hz : (codeP k).length = 0 := by unfold codeP; rw [HM.out]; rfl
      rw [hz]
      clear hz HX1 hn1
      go_wp2
      go_ret
      exact ⟨rfl, HGA.out ▸ HWB.out⟩
    · obtain rfl : F = 0 := by rw [← HF.out]; rfl
      refine wp_region_flow (fun W => Below w6.heap.size w6 W) [0, 1, 2, 3, 5, 4, 6, 7, 8, 9, 10, 11, 12, 13, 14, 15, 16, 17, 18, 19, 20, 21, 22, 23, 24, 25, 26, 27, 28, 29, 30, 31, 32, 33, 34, 35, 36, 37, 38, 39, 40, 41, 42] (by kernel_rfl) (by kernel_rfl) (by kernel_rfl) ((Below.refl _ _).drew) ?_
      refine flow_call (.bool true) rfl (by kernel_rfl) (by rfl) (by kernel_rfl) (fun W hW => ⟨_, _, _, by go_simp, (lives_any W).mono fun e w1 ⟨he, h⟩ => ⟨he, (hW).trans (h.mono (hW).size)⟩⟩) ?_
      simp only [Act.put, List.setIfInBounds_toArray, List.set_cons_succ, List.set_cons_zero]
      refine flow_val ?_ rfl (by kernel_rfl) (by rfl) (fun W hW => ?_) ?_
      rotate_left 1
      · go_simp <;> with_reducible rfl
      simp only [Act.put, List.setIfInBounds_toArray, List.set_cons_succ, List.set_cons_zero]
      refine flow_val ?_ rfl (by kernel_rfl) (by rfl) (fun W hW => ?_) ?_
      rotate_left 1
      · go_simp <;> with_reducible rfl
      simp only [Act.put, List.setIfInBounds_toArray, List.set_cons_succ, List.set_cons_zero]
      refine flow_val ?_ rfl (by kernel_rfl) (by rfl) (fun W hW => ?_) ?_
      rotate_left 1
      · obtain ⟨⟨a0, a1, a2⟩, ⟨b0, b1, b2⟩, ⟨c0, c1, c2⟩, f1, f2⟩ := HQ.out W (hW.1); go_simp <;> with_reducible rfl
      simp only [Act.put, List.setIfInBounds_toArray, List.set_cons_succ, List.set_cons_zero]
      refine flow_val ?_ rfl (by kernel_rfl) (by rfl) (fun W hW => ?_) ?_
      rotate_left 1
      · obtain ⟨⟨a0, a1, a2⟩, ⟨b0, b1, b2⟩, ⟨c0, c1, c2⟩, f1, f2⟩ := HQ.out W (hW.1); go_simp <;> with_reducible rfl
      simp only [Act.put, List.setIfInBounds_toArray, List.set_cons_succ, List.set_cons_zero]
      refine flow_call (.bool false) rfl (by kernel_rfl) (by rfl) (by kernel_rfl) (fun W hW => ⟨_, _, _, by go_simp, (lmay_any k A c W HKM.out).mono fun e w1 ⟨he, h⟩ => ⟨by rw [HM.out] at he; exact he, ⟨(hW.1).trans (h.mono (hW.1).size), trivial⟩⟩⟩) ?_
      simp only [Act.put, List.setIfInBounds_toArray, List.set_cons_succ, List.set_cons_zero]
      refine flow_call (.bool false) rfl (by kernel_rfl) (by rfl) (by kernel_rfl) (fun W hW => ⟨_, _, _, by go_simp, (rmay_any k A c W HKM.out).mono fun e w1 ⟨he, h⟩ => ⟨by rw [HM.out] at he; exact he, ⟨⟨(hW.1.1).trans (h.mono (hW.1.1).size), trivial⟩, trivial⟩⟩⟩) ?_
      simp only [Act.put, List.setIfInBounds_toArray, List.set_cons_succ, List.set_cons_zero]
      refine flow_val ?_ rfl (by kernel_rfl) (by rfl) (fun W hW => ?_) ?_
      rotate_left 1
      · go_simp <;> with_reducible rfl
      simp only [Act.put, List.setIfInBounds_toArray, List.set_cons_succ, List.set_cons_zero]
      refine flow_val ?_ rfl (by kernel_rfl) (by rfl) (fun W hW => ?_) ?_
      rotate_left 1
      · go_simp <;> with_reducible rfl
      simp only [Act.put, List.setIfInBounds_toArray, List.set_cons_succ, List.set_cons_zero]
      refine flow_val ?_ rfl (by kernel_rfl) (by rfl) (fun W hW => ?_) ?_
      rotate_left 1
      · go_simp <;> with_reducible rfl
      simp only [Act.put, List.setIfInBounds_toArray, List.set_cons_succ, List.set_cons_zero]
      refine flow_val ?_ rfl (by kernel_rfl) (by rfl) (fun W hW => ?_) ?_
      rotate_left 1
      · go_simp <;> with_reducible rfl
      simp only [Act.put, List.setIfInBounds_toArray, List.set_cons_succ, List.set_cons_zero]
      refine flow_val ?_ rfl (by kernel_rfl) (by rfl) (fun W hW => ?_) ?_
      rotate_left 1
      · go_simp <;> with_reducible rfl
      simp only [Act.put, List.setIfInBounds_toArray, List.set_cons_succ, List.set_cons_zero]
      refine flow_val ?_ rfl (by kernel_rfl) (by rfl) (fun W hW => ?_) ?_
      rotate_left 1
      · obtain ⟨⟨a0, a1, a2⟩, ⟨b0, b1, b2⟩, ⟨c0, c1, c2⟩, f1, f2⟩ := HQ.out W (hW.1.1.1); go_simp <;> with_reducible rfl
      simp only [Act.put, List.setIfInBounds_toArray, List.set_cons_succ, List.set_cons_zero]
      refine flow_call (.bool false) rfl (by kernel_rfl) (by rfl) (by kernel_rfl) (fun W hW => ⟨_, _, _, by go_simp, (rmay_any k A c W HKM.out).mono fun e w1 ⟨he, h⟩ => ⟨by rw [HM.out] at he; exact he, ⟨⟨⟨(hW.1.1.1).trans (h.mono (hW.1.1.1).size), trivial⟩, trivial⟩, trivial⟩⟩⟩) ?_
      simp only [Act.put, List.setIfInBounds_toArray, List.set_cons_succ, List.set_cons_zero]
      refine flow_val ?_ rfl (by kernel_rfl) (by rfl) (fun W hW => ?_) ?_
      rotate_left 1
      · go_simp <;> with_reducible rfl
      simp only [Act.put, List.setIfInBounds_toArray, List.set_cons_succ, List.set_cons_zero]
      refine flow_val ?_ rfl (by kernel_rfl) (by rfl) (fun W hW => ?_) ?_
      rotate_left 1
      · go_simp <;> with_reducible rfl
      simp only [Act.put, List.setIfInBounds_toArray, List.set_cons_succ, List.set_cons_zero]
      refine flow_val ?_ rfl (by kernel_rfl) (by rfl) (fun W hW => ?_) ?_
      rotate_left 1
      · go_simp <;> with_reducible rfl
      simp only [Act.put, List.setIfInBounds_toArray, List.set_cons_succ, List.set_cons_zero]
      refine flow_val ?_ rfl (by kernel_rfl) (by rfl) (fun W hW => ?_) ?_
      rotate_left 1
      · obtain ⟨⟨a0, a1, a2⟩, ⟨b0, b1, b2⟩, ⟨c0, c1, c2⟩, f1, f2⟩ := HQ.out W (hW.1.1.1.1); go_simp <;> with_reducible rfl
      simp only [Act.put, List.setIfInBounds_toArray, List.set_cons_succ, List.set_cons_zero]
      refine flow_val ?_ rfl (by kernel_rfl) (by rfl) (fun W hW => ?_) ?_
      rotate_left 1
      · obtain ⟨⟨a0, a1, a2⟩, ⟨b0, b1, b2⟩, ⟨c0, c1, c2⟩, f1, f2⟩ := HQ.out W (hW.1.1.1.1); go_simp <;> with_reducible rfl
      simp only [Act.put, List.setIfInBounds_toArray, List.set_cons_succ, List.set_cons_zero]
      refine flow_call (.bool true) rfl (by kernel_rfl) (by rfl) (by kernel_rfl) (fun W hW => ⟨_, _, _, by go_simp, (same_eq K A3 A5 c3 c5 W (HX36.out.below (hW.1.1.1.1)) (HX56.out.below (hW.1.1.1.1)) HK.out).mono fun e w1 ⟨he, h⟩ => ⟨he, ⟨⟨⟨⟨(hW.1.1.1.1).trans (h.mono (hW.1.1.1.1).size), trivial⟩, trivial⟩, trivial⟩, trivial⟩⟩⟩) ?_
      simp only [Act.put, List.setIfInBounds_toArray, List.set_cons_succ, List.set_cons_zero]
      refine flow_val ?_ rfl (by kernel_rfl) (by rfl) (fun W hW => ?_) ?_
      rotate_left 1
      · go_simp <;> with_reducible rfl
      simp only [Act.put, List.setIfInBounds_toArray, List.set_cons_succ, List.set_cons_zero]
      refine flow_val ?_ rfl (by kernel_rfl) (by rfl) (fun W hW => ?_) ?_
      rotate_left 1
      · go_simp <;> with_reducible rfl
      simp only [Act.put, List.setIfInBounds_toArray, List.set_cons_succ, List.set_cons_zero]
      refine flow_val ?_ rfl (by kernel_rfl) (by rfl) (fun W hW => ?_) ?_
      rotate_left 1
      · go_simp <;> with_reducible rfl
      simp only [Act.put, List.setIfInBounds_toArray, List.set_cons_succ, List.set_cons_zero]
      refine flow_val ?_ rfl (by kernel_rfl) (by rfl) (fun W hW => ?_) ?_
      rotate_left 1
      · go_simp <;> with_reducible rfl
      simp only [Act.put, List.setIfInBounds_toArray, List.set_cons_succ, List.set_cons_zero]
      refine flow_val ?_ rfl (by kernel_rfl) (by rfl) (fun W hW => ?_) ?_
      rotate_left 1
      · go_simp <;> with_reducible rfl
      simp only [Act.put, List.setIfInBounds_toArray, List.set_cons_succ, List.set_cons_zero]
      refine flow_val ?_ rfl (by kernel_rfl) (by rfl) (fun W hW => ?_) ?_
      rotate_left 1
      · go_simp <;> with_reducible rfl
      simp only [Act.put, List.setIfInBounds_toArray, List.set_cons_succ, List.set_cons_zero]
      refine flow_val ?_ rfl (by kernel_rfl) (by rfl) (fun W hW => ?_) ?_
      rotate_left 1
      · go_simp <;> with_reducible rfl
      simp only [Act.put, List.setIfInBounds_toArray, List.set_cons_succ, List.set_cons_zero]
      refine flow_val ?_ rfl (by kernel_rfl) (by rfl) (fun W hW => ?_) ?_
      rotate_left 1
      · go_simp <;> with_reducible rfl
      simp only [Act.put, List.setIfInBounds_toArray, List.set_cons_succ, List.set_cons_zero]
      refine flow_val ?_ rfl (by kernel_rfl) (by rfl) (fun W hW => ?_) ?_
      rotate_left 1
      · go_simp <;> with_reducible rfl
      simp only [Act.put, List.setIfInBounds_toArray, List.set_cons_succ, List.set_cons_zero]
      refine flow_val ?_ rfl (by kernel_rfl) (by rfl) (fun W hW => ?_) ?_
      rotate_left 1
      · go_simp <;> with_reducible rfl
      simp only [Act.put, List.setIfInBounds_toArray, List.set_cons_succ, List.set_cons_zero]
      refine flow_val ?_ rfl (by kernel_rfl) (by rfl) (fun W hW => ?_) ?_
      rotate_left 1
      · go_simp <;> with_reducible rfl
      simp only [Act.put, List.setIfInBounds_toArray, List.set_cons_succ, List.set_cons_zero]
      refine flow_val ?_ rfl (by kernel_rfl) (by rfl) (fun W hW => ?_) ?_
      rotate_left 1
      · go_simp <;> with_reducible rfl
      simp only [Act.put, List.setIfInBounds_toArray, List.set_cons_succ, List.set_cons_zero]
      refine flow_off rfl (by kernel_rfl) (by rfl) ?_
      simp only [Act.put, List.setIfInBounds_toArray, List.set_cons_succ, List.set_cons_zero]
      refine flow_off rfl (by kernel_rfl) (by rfl) ?_
      simp only [Act.put, List.setIfInBounds_toArray, List.set_cons_succ, List.set_cons_zero]
      refine flow_val ?_ rfl (by kernel_rfl) (by rfl) (fun W hW => ?_) ?_
      rotate_left 1
      · go_simp <;> with_reducible rfl
      simp only [Act.put, List.setIfInBounds_toArray, List.set_cons_succ, List.set_cons_zero]
      refine flow_val ?_ rfl (by kernel_rfl) (by rfl) (fun W hW => ?_) ?_
      rotate_left 1
      · go_simp <;> with_reducible rfl
      simp only [Act.put, List.setIfInBounds_toArray, List.set_cons_succ, List.set_cons_zero]
      refine flow_val ?_ rfl (by kernel_rfl) (by rfl) (fun W hW => ?_) ?_
      rotate_left 1
      · go_simp <;> with_reducible rfl
      simp only [Act.put, List.setIfInBounds_toArray, List.set_cons_succ, List.set_cons_zero]
      refine flow_val ?_ rfl (by kernel_rfl) (by rfl) (fun W hW => ?_) ?_
      rotate_left 1
      · go_simp <;> with_reducible rfl
      simp only [Act.put, List.setIfInBounds_toArray, List.set_cons_succ, List.set_cons_zero]
      refine flow_val ?_ rfl (by kernel_rfl) (by rfl) (fun W hW => ?_) ?_
      rotate_left 1
      · obtain ⟨⟨a0, a1, a2⟩, ⟨b0, b1, b2⟩, ⟨c0, c1, c2⟩, f1, f2⟩ := HQ.out W (hW.1.1.1.1.1); go_simp <;> with_reducible rfl
      simp only [Act.put, List.setIfInBounds_toArray, List.set_cons_succ, List.set_cons_zero]
      refine flow_val ?_ rfl (by kernel_rfl) (by rfl) (fun W hW => ?_) ?_
      rotate_left 1
      · go_simp <;> with_reducible rfl
      simp only [Act.put, List.setIfInBounds_toArray, List.set_cons_succ, List.set_cons_zero]
      refine flow_val ?_ rfl (by kernel_rfl) (by rfl) (fun W hW => ?_) ?_
      rotate_left 1
      · obtain ⟨⟨a0, a1, a2⟩, ⟨b0, b1, b2⟩, ⟨c0, c1, c2⟩, f1, f2⟩ := HQ.out W (hW.1.1.1.1.1); go_simp <;> with_reducible rfl
      simp only [Act.put, List.setIfInBounds_toArray, List.set_cons_succ, List.set_cons_zero]
      refine flow_val ?_ rfl (by kernel_rfl) (by rfl) (fun W hW => ?_) ?_
      rotate_left 1
      · go_simp <;> with_reducible rfl
      simp only [Act.put, List.setIfInBounds_toArray, List.set_cons_succ, List.set_cons_zero]
      refine flow_val ?_ rfl (by kernel_rfl) (by rfl) (fun W hW => ?_) ?_
      rotate_left 1
      · go_simp <;> with_reducible rfl
      simp only [Act.put, List.setIfInBounds_toArray, List.set_cons_succ, List.set_cons_zero]
      refine flow_done ?_
      intro W hW
      have HWB := Lib.hid (HB6.out.trans (hW.1.1.1.1.1.mono HB6.out.size))
      clear hW
      have hz : (codeP k).length = 0 := by unfold codeP; rw [HM.out]; rfl
      rw [hz]
      clear hz HX1 hn1
      go_wp2
      go_ret
      exact ⟨rfl, HGA.out ▸ HWB.out⟩
  · have HM := Lib.hid hm
    obtain rfl : E = 0 := by rw [← HE.out, hm]; rfl
    clear hm
    cases u
    · obtain rfl : F = 10 := by rw [← HF.out]; rfl
      refine wp_region_flow (fun W => Below w6.heap.size w6 W) [0, 1, 2, 3, 5, 4, 6, 7, 8, 9, 10, 11, 12, 13, 14, 15, 16, 17, 18, 19, 20, 21, 22, 23, 24, 25, 26, 27, 28, 29, 30, 31, 32, 33, 34, 35, 36, 37, 38, 39, 40, 41, 42] (by kernel_rfl) (by kernel_rfl) (by kernel_rfl) ((Below.refl _ _).drew) ?_
      refine flow_call (.bool true) rfl (by kernel_rfl) (by rfl) (by kernel_rfl) (fun W hW => ⟨_, _, _, by go_simp, (lives_any W).mono fun e w1 ⟨he, h⟩ => ⟨he, (hW).trans (h.mono (hW).size)⟩⟩) ?_
      simp only [Act.put, List.setIfInBounds_toArray, List.set_cons_succ, List.set_cons_zero]
      refine flow_val ?_ rfl (by kernel_rfl) (by rfl) (fun W hW => ?_) ?_
      rotate_left 1
      · go_simp <;> with_reducible rfl
      simp only [Act.put, List.setIfInBounds_toArray, List.set_cons_succ, List.set_cons_zero]
      refine flow_val ?_ rfl (by kernel_rfl) (by rfl) (fun W hW => ?_) ?_
      rotate_left 1
      · go_simp <;> with_reducible rfl
      simp only [Act.put, List.setIfInBounds_toArray, List.set_cons_succ, List.set_cons_zero]
      refine flow_val ?_ rfl (by kernel_rfl) (by rfl) (fun W hW => ?_) ?_
      rotate_left 1
      · obtain ⟨⟨a0, a1, a2⟩, ⟨b0, b1, b2⟩, ⟨c0, c1, c2⟩, f1, f2⟩ := HQ.out W (hW.1); go_simp <;> with_reducible rfl
      simp only [Act.put, List.setIfInBounds_toArray, List.set_cons_succ, List.set_cons_zero]
      refine flow_val ?_ rfl (by kernel_rfl) (by rfl) (fun W hW => ?_) ?_
      rotate_left 1
      · obtain ⟨⟨a0, a1, a2⟩, ⟨b0, b1, b2⟩, ⟨c0, c1, c2⟩, f1, f2⟩ := HQ.out W (hW.1); go_simp <;> with_reducible rfl
      simp only [Act.put, List.setIfInBounds_toArray, List.set_cons_succ, List.set_cons_zero]
      refine flow_call (.bool true) rfl (by kernel_rfl) (by rfl) (by kernel_rfl) (fun W hW => ⟨_, _, _, by go_simp, (lmay_any k A c W HKM.out).mono fun e w1 ⟨he, h⟩ => ⟨by rw [HM.out] at he; exact he, ⟨(hW.1).trans (h.mono (hW.1).size), trivial⟩⟩⟩) ?_
      simp only [Act.put, List.setIfInBounds_toArray, List.set_cons_succ, List.set_cons_zero]
      refine flow_call (.bool true) rfl (by kernel_rfl) (by rfl) (by kernel_rfl) (fun W hW => ⟨_, _, _, by go_simp, (rmay_any k A c W HKM.out).mono fun e w1 ⟨he, h⟩ => ⟨by rw [HM.out] at he; exact he, ⟨⟨(hW.1.1).trans (h.mono (hW.1.1).size), trivial⟩, trivial⟩⟩⟩) ?_
      simp only [Act.put, List.setIfInBounds_toArray, List.set_cons_succ, List.set_cons_zero]
      refine flow_val ?_ rfl (by kernel_rfl) (by rfl) (fun W hW => ?_) ?_
      rotate_left 1
      · go_simp <;> with_reducible rfl
      simp only [Act.put, List.setIfInBounds_toArray, List.set_cons_succ, List.set_cons_zero]
      refine flow_val ?_ rfl (by kernel_rfl) (by rfl) (fun W hW => ?_) ?_
      rotate_left 1
      · go_simp <;> with_reducible rfl
      simp only [Act.put, List.setIfInBounds_toArray, List.set_cons_succ, List.set_cons_zero]
      refine flow_val ?_ rfl (by kernel_rfl) (by rfl) (fun W hW => ?_) ?_
      rotate_left 1
      · go_simp <;> with_reducible rfl
      simp only [Act.put, List.setIfInBounds_toArray, List.set_cons_succ, List.set_cons_zero]
      refine flow_val ?_ rfl (by kernel_rfl) (by rfl) (fun W hW => ?_) ?_
      rotate_left 1
      · go_simp <;> with_reducible rfl
      simp only [Act.put, List.setIfInBounds_toArray, List.set_cons_succ, List.set_cons_zero]
      refine flow_val ?_ rfl (by kernel_rfl) (by rfl) (fun W hW => ?_) ?_
      rotate_left 1
      · go_simp <;> with_reducible rfl
      simp only [Act.put, List.setIfInBounds_toArray, List.set_cons_succ, List.set_cons_zero]
      refine flow_val ?_ rfl (by kernel_rfl) (by rfl) (fun W hW => ?_) ?_
      rotate_left 1
      · obtain ⟨⟨a0, a1, a2⟩, ⟨b0, b1, b2⟩, ⟨c0, c1, c2⟩, f1, f2⟩ := HQ.out W (hW.1.1.1); go_simp <;> with_reducible rfl
      simp only [Act.put, List.setIfInBounds_toArray, List.set_cons_succ, List.set_cons_zero]
      refine flow_call (.bool true) rfl (by kernel_rfl) (by rfl) (by kernel_rfl) (fun W hW => ⟨_, _, _, by go_simp, (rmay_any k A c W HKM.out).mono fun e w1 ⟨he, h⟩ => ⟨by rw [HM.out] at he; exact he, ⟨⟨⟨(hW.1.1.1).trans (h.mono (hW.1.1.1).size), trivial⟩, trivial⟩, trivial⟩⟩⟩) ?_
      simp only [Act.put, List.setIfInBounds_toArray, List.set_cons_succ, List.set_cons_zero]
      refine flow_val ?_ rfl (by kernel_rfl) (by rfl) (fun W hW => ?_) ?_
      rotate_left 1
      · go_simp <;> with_reducible rfl
      simp only [Act.put, List.setIfInBounds_toArray, List.set_cons_succ, List.set_cons_zero]
      refine flow_val ?_ rfl (by kernel_rfl) (by rfl) (fun W hW => ?_) ?_
      rotate_left 1
      · go_simp <;> with_reducible rfl
      simp only [Act.put, List.setIfInBounds_toArray, List.set_cons_succ, List.set_cons_zero]
      refine flow_val ?_ rfl (by kernel_rfl) (by rfl) (fun W hW => ?_) ?_
      rotate_left 1
      · go_simp <;> with_reducible rfl
      simp only [Act.put, List.setIfInBounds_toArray, List.set_cons_succ, List.set_cons_zero]
      refine flow_val ?_ rfl (by kernel_rfl) (by rfl) (fun W hW => ?_) ?_
      rotate_left 1
      · obtain ⟨⟨a0, a1, a2⟩, ⟨b0, b1, b2⟩, ⟨c0, c1, c2⟩, f1, f2⟩ := HQ.out W (hW.1.1.1.1); go_simp <;> with_reducible rfl
      simp only [Act.put, List.setIfInBounds_toArray, List.set_cons_succ, List.set_cons_zero]
      refine flow_val ?_ rfl (by kernel_rfl) (by rfl) (fun W hW => ?_) ?_
      rotate_left 1
      · obtain ⟨⟨a0, a1, a2⟩, ⟨b0, b1, b2⟩, ⟨c0, c1, c2⟩, f1, f2⟩ := HQ.out W (hW.1.1.1.1); go_simp <;> with_reducible rfl
      simp only [Act.put, List.setIfInBounds_toArray, List.set_cons_succ, List.set_cons_zero]
      refine flow_call (.bool true) rfl (by kernel_rfl) (by rfl) (by kernel_rfl) (fun W hW => ⟨_, _, _, by go_simp, (same_eq K A3 A5 c3 c5 W (HX36.out.below (hW.1.1.1.1)) (HX56.out.below (hW.1.1.1.1)) HK.out).mono fun e w1 ⟨he, h⟩ => ⟨he, ⟨⟨⟨⟨(hW.1.1.1.1).trans (h.mono (hW.1.1.1.1).size), trivial⟩, trivial⟩, trivial⟩, trivial⟩⟩⟩) ?_
      simp only [Act.put, List.setIfInBounds_toArray, List.set_cons_succ, List.set_cons_zero]
      refine flow_val ?_ rfl (by kernel_rfl) (by rfl) (fun W hW => ?_) ?_
      rotate_left 1
      · go_simp <;> with_reducible rfl
      simp only [Act.put, List.setIfInBounds_toArray, List.set_cons_succ, List.set_cons_zero]
      refine flow_val ?_ rfl (by kernel_rfl) (by rfl) (fun W hW => ?_) ?_
      rotate_left 1
      · go_simp <;> with_reducible rfl
      simp only [Act.put, List.setIfInBounds_toArray, List.set_cons_succ, List.set_cons_zero]
      refine flow_val ?_ rfl (by kernel_rfl) (by rfl) (fun W hW => ?_) ?_
      rotate_left 1
      · go_simp <;> with_reducible rfl
      simp only [Act.put, List.setIfInBounds_toArray, List.set_cons_succ, List.set_cons_zero]
      refine flow_val ?_ rfl (by kernel_rfl) (by rfl) (fun W hW => ?_) ?_
      rotate_left 1
      · go_simp <;> with_reducible rfl
      simp only [Act.put, List.setIfInBounds_toArray, List.set_cons_succ, List.set_cons_zero]
      refine flow_val ?_ rfl (by kernel_rfl) (by rfl) (fun W hW => ?_) ?_
      rotate_left 1
      · go_simp <;> with_reducible rfl
      simp only [Act.put, List.setIfInBounds_toArray, List.set_cons_succ, List.set_cons_zero]
      refine flow_val ?_ rfl (by kernel_rfl) (by rfl) (fun W hW => ?_) ?_
      rotate_left 1
      · go_simp <;> with_reducible rfl
      simp only [Act.put, List.setIfInBounds_toArray, List.set_cons_succ, List.set_cons_zero]
      refine flow_val ?_ rfl (by kernel_rfl) (by rfl) (fun W hW => ?_) ?_
      rotate_left 1
      · go_simp <;> with_reducible rfl
      simp only [Act.put, List.setIfInBounds_toArray, List.set_cons_succ, List.set_cons_zero]
      refine flow_val ?_ rfl (by kernel_rfl) (by rfl) (fun W hW => ?_) ?_
      rotate_left 1
      · go_simp <;> with_reducible rfl
      simp only [Act.put, List.setIfInBounds_toArray, List.set_cons_succ, List.set_cons_zero]
      refine flow_val ?_ rfl (by kernel_rfl) (by rfl) (fun W hW => ?_) ?_
      rotate_left 1
      · go_simp <;> with_reducible rfl
      simp only [Act.put, List.setIfInBounds_toArray, List.set_cons_succ, List.set_cons_zero]
      refine flow_val ?_ rfl (by kernel_rfl) (by rfl) (fun W hW => ?_) ?_
      rotate_left 1
      · go_simp <;> with_reducible rfl
      simp only [Act.put, List.setIfInBounds_toArray, List.set_cons_succ, List.set_cons_zero]
      refine flow_val ?_ rfl (by kernel_rfl) (by rfl) (fun W hW => ?_) ?_
      rotate_left 1
      · go_simp <;> with_reducible rfl
      simp only [Act.put, List.setIfInBounds_toArray, List.set_cons_succ, List.set_cons_zero]
      refine flow_val ?_ rfl (by kernel_rfl) (by rfl) (fun W hW => ?_) ?_
      rotate_left 1
      · go_simp <;> with_reducible rfl
      simp only [Act.put, List.setIfInBounds_toArray, List.set_cons_succ, List.set_cons_zero]
      refine flow_val ?_ rfl (by kernel_rfl) (by rfl) (fun W hW => ?_) ?_
      rotate_left 1
      · go_simp <;> with_reducible rfl
      simp only [Act.put, List.setIfInBounds_toArray, List.set_cons_succ, List.set_cons_zero]
      refine flow_val ?_ rfl (by kernel_rfl) (by rfl) (fun W hW => ?_) ?_
      rotate_left 1
      · go_simp <;> with_reducible rfl
      simp only [Act.put, List.setIfInBounds_toArray, List.set_cons_succ, List.set_cons_zero]
      refine flow_val ?_ rfl (by kernel_rfl) (by rfl) (fun W hW => ?_) ?_
      rotate_left 1
      · go_simp <;> with_reducible rfl
      simp only [Act.put, List.setIfInBounds_toArray, List.set_cons_succ, List.set_cons_zero]
      refine flow_val ?_ rfl (by kernel_rfl) (by rfl) (fun W hW => ?_) ?_
      rotate_left 1
      · go_simp <;> with_reducible rfl
      simp only [Act.put, List.setIfInBounds_toArray, List.set_cons_succ, List.set_cons_zero]
      refine flow_val ?_ rfl (by kernel_rfl) (by rfl) (fun W hW => ?_) ?_
      rotate_left 1
      · go_simp <;> with_reducible rfl
      simp only [Act.put, List.setIfInBounds_toArray, List.set_cons_succ, List.set_cons_zero]
      refine flow_val ?_ rfl (by kernel_rfl) (by rfl) (fun W hW => ?_) ?_
      rotate_left 1
      · go_simp <;> with_reducible rfl
      simp only [Act.put, List.setIfInBounds_toArray, List.set_cons_succ, List.set_cons_zero]
      refine flow_val ?_ rfl (by kernel_rfl) (by rfl) (fun W hW => ?_) ?_
      rotate_left 1
      · obtain ⟨⟨a0, a1, a2⟩, ⟨b0, b1, b2⟩, ⟨c0, c1, c2⟩, f1, f2⟩ := HQ.out W (hW.1.1.1.1.1); go_simp <;> with_reducible rfl
      simp only [Act.put, List.setIfInBounds_toArray, List.set_cons_succ, List.set_cons_zero]
      refine flow_val ?_ rfl (by kernel_rfl) (by rfl) (fun W hW => ?_) ?_
      rotate_left 1
      · go_simp <;> with_reducible rfl
      simp only [Act.put, List.setIfInBounds_toArray, List.set_cons_succ, List.set_cons_zero]
      refine flow_val ?_ rfl (by kernel_rfl) (by rfl) (fun W hW => ?_) ?_
      rotate_left 1
      · obtain ⟨⟨a0, a1, a2⟩, ⟨b0, b1, b2⟩, ⟨c0, c1, c2⟩, f1, f2⟩ := HQ.out W (hW.1.1.1.1.1); go_simp <;> with_reducible rfl
      simp only [Act.put, List.setIfInBounds_toArray, List.set_cons_succ, List.set_cons_zero]
      refine flow_val ?_ rfl (by kernel_rfl) (by rfl) (fun W hW => ?_) ?_
      rotate_left 1
      · go_simp <;> with_reducible rfl
      simp only [Act.put, List.setIfInBounds_toArray, List.set_cons_succ, List.set_cons_zero]
      refine flow_val ?_ rfl (by kernel_rfl) (by rfl) (fun W hW => ?_) ?_
      rotate_left 1
      · go_simp <;> with_reducible rfl
      simp only [Act.put, List.setIfInBounds_toArray, List.set_cons_succ, List.set_cons_zero]
      refine flow_done ?_
      intro W hW
      have HWB := Lib.hid hW.1.1.1.1.1
      clear hW
      go_wp2_with fail
      have hcode : codeP k = packP k := by unfold codeP; rw [HM.out]; rfl
      have hx1 := HX16.out.below HWB.out
      rw [hcode] at hx1 ⊢
      have HX1p := Lib.hid hx1
      refine (ldec_any _ (packP k) _ hx1 (packP_lt HP.out.2.2.2.1) (by have := packP_len (mayL_len HM.out).1; omega)).mono ?_
      rintro e w7 ⟨x7, rfl, hx7, hb7⟩
      rw [unP_pack HM.out] at hx7 ⊢
      simp only [if_true] at hx7 ⊢
      have HX7 := Lib.hid hx7
      obtain ⟨A7, c7, rfl, _, _, _⟩ := hx7
      obtain ⟨w8, hw8⟩ : ∃ w8, w7.alloc (.cells #[.int .i64 k.seq, .int .i64 k.ack, .slice A7 k.body.length c7] 43) = w8 := ⟨_, rfl⟩
      have hb78 : Below w7.heap.size w7 w8 := by rw [← hw8]; exact (Below.refl _ _).alloc (Nat.le_refl _) _
      have hq8 : w8.heap[w7.heap.size]? = some (.cells #[.int .i64 k.seq, .int .i64 k.ack, .slice A7 k.body.length c7] 43 (0, 0)) := by rw [← hw8]; exact block_new w7 _
      have hb68 : Below w6.heap.size w6 w8 := HWB.out.trans ((hb7.mono HWB.out.size).trans (hb78.mono (Nat.le_trans HWB.out.size hb7.size)))
      have HB8 := Lib.hid (HB6.out.trans (hb68.mono HB6.out.size))
      have hqa := (hb68.block _ (lt_of_block HQA.out)).trans HQA.out
      have HX18 := Lib.hid (HX16.out.below hb68)
      have HX8 := Lib.hid (HX7.out.below hb78)
      have HP8 := Lib.hid (HP6.out.below hb68)
      have HX18p := Lib.hid (hcode ▸ HX18.out : Bs w8 (.slice A1 (packP k).length c1) (packP k))
      have hQ2 : ∀ W, Below w8.heap.size w8 W → (W.cell? ⟨ga, 0, none⟩ = some (.int .i64 k.seq) ∧ W.cell? ⟨ga, 1, none⟩ = some (.int .i64 k.ack) ∧ W.cell? ⟨ga, 2, none⟩ = some (.slice A k.body.length c)) ∧
          (W.cell? ⟨w7.heap.size, 0, none⟩ = some (.int .i64 k.seq) ∧ W.cell? ⟨w7.heap.size, 1, none⟩ = some (.int .i64 k.ack) ∧ W.cell? ⟨w7.heap.size, 2, none⟩ = some (.slice A7 k.body.length c7)) ∧
          (convert 41 9 (.slice A1 (packP k).length c1)).run Try.prog W = .ok (.string (strOf (packP k))) W := fun W hW =>
        ⟨pkt_cells ((hW.block _ (lt_of_block hqa)).trans hqa), pkt_cells ((hW.block _ (lt_of_block hq8)).trans hq8), run_str W A1 _ c1 (packP k) (bs_rd (HX18p.out.below hW)) (packP_lt HP.out.2.2.2.1)⟩
      obtain ⟨S2, hS2⟩ : ∃ S2, strOf (packP k) = S2 := ⟨_, rfl⟩
      rw [hS2] at hQ2
      have HQ2 := Lib.hid hQ2
      have HS2 := Lib.hid hS2
      have HW8 := Lib.hid hw8
      clear hcode hx1 hb7 hw8 hb78 hq8 hb68 hqa hQ2 hS2 hn1
      go_wp2_with fail
      rw [HW8.out]
      refine wp_region_flow (fun W => Below w8.heap.size w8 W) [0, 1, 2, 3, 4, 5, 6, 7, 8, 9, 10, 11, 12, 13, 14, 15] (by kernel_rfl) (by kernel_rfl) (by kernel_rfl) ((Below.refl _ _).drew) ?_
      refine flow_val ?_ rfl (by kernel_rfl) (by rfl) (fun W hW => ?_) ?_
      rotate_left 1
      · go_simp <;> with_reducible rfl
      simp only [Act.put, List.setIfInBounds_toArray, List.set_cons_succ, List.set_cons_zero]
      refine flow_val ?_ rfl (by kernel_rfl) (by rfl) (fun W hW => ?_) ?_
      rotate_left 1
      · obtain ⟨_, _, f1⟩ := HQ2.out W hW; go_simp <;> with_reducible rfl
      simp only [Act.put, List.setIfInBounds_toArray, List.set_cons_succ, List.set_cons_zero]
      refine flow_val ?_ rfl (by kernel_rfl) (by rfl) (fun W hW => ?_) ?_
      rotate_left 1
      · obtain ⟨⟨a0, a1, a2⟩, _, _⟩ := HQ2.out W hW; go_simp <;> with_reducible rfl
      simp only [Act.put, List.setIfInBounds_toArray, List.set_cons_succ, List.set_cons_zero]
      refine flow_new (fun v W => Bs W v (packP k)) rfl (by kernel_rfl) (by rfl) (by kernel_rfl) (fun W hW => ⟨_, _, _, by go_simp, (renc_ok k A c W (HP8.out.bs.below hW) HP.out.2.2.2.1 HM.out).mono fun e w1 ⟨x, he, hx, h⟩ => ⟨x, he, hW.trans (h.mono hW.size), hx⟩⟩) ?_
      rintro v ⟨W0, _, hv⟩
      simp only [Act.put, List.setIfInBounds_toArray, List.set_cons_succ, List.set_cons_zero]
      obtain ⟨A9, c9, rfl, _, _, _⟩ := hv
      refine flow_val ?_ rfl (by kernel_rfl) (by rfl) (fun W hW => ?_) ?_
      rotate_left 1
      · have f2 := run_str W A9 _ c9 (packP k) (bs_rd hW.2) (packP_lt HP.out.2.2.2.1); rw [HS2.out] at f2; go_simp <;> with_reducible rfl
      simp only [Act.put, List.setIfInBounds_toArray, List.set_cons_succ, List.set_cons_zero]
      refine flow_val ?_ rfl (by kernel_rfl) (by rfl) (fun W hW => ?_) ?_
      rotate_left 1
      · go_simp <;> with_reducible rfl
      simp only [Act.put, List.setIfInBounds_toArray, List.set_cons_succ, List.set_cons_zero]
      refine flow_val ?_ rfl (by kernel_rfl) (by rfl) (fun W hW => ?_) ?_
      rotate_left 1
      · go_simp <;> with_reducible rfl
      simp only [Act.put, List.setIfInBounds_toArray, List.set_cons_succ, List.set_cons_zero]
      refine flow_val ?_ rfl (by kernel_rfl) (by rfl) (fun W hW => ?_) ?_
      rotate_left 1
      · go_simp <;> with_reducible rfl
      simp only [Act.put, List.setIfInBounds_toArray, List.set_cons_succ, List.set_cons_zero]
      refine flow_val ?_ rfl (by kernel_rfl) (by rfl) (fun W hW => ?_) ?_
      rotate_left 1
      · go_simp <;> with_reducible rfl
      simp only [Act.put, List.setIfInBounds_toArray, List.set_cons_succ, List.set_cons_zero]
      refine flow_val ?_ rfl (by kernel_rfl) (by rfl) (fun W hW => ?_) ?_
      rotate_left 1
      · go_simp <;> with_reducible rfl
      simp only [Act.put, List.setIfInBounds_toArray, List.set_cons_succ, List.set_cons_zero]
      refine flow_val ?_ rfl (by kernel_rfl) (by rfl) (fun W hW => ?_) ?_
      rotate_left 1
      · go_simp <;> with_reducible rfl
      simp only [Act.put, List.setIfInBounds_toArray, List.set_cons_succ, List.set_cons_zero]
      refine flow_val ?_ rfl (by kernel_rfl) (by rfl) (fun W hW => ?_) ?_
      rotate_left 1
      · obtain ⟨⟨a0, a1, a2⟩, ⟨b0, b1, b2⟩, _⟩ := HQ2.out W hW.1; go_simp <;> with_reducible rfl
      simp only [Act.put, List.setIfInBounds_toArray, List.set_cons_succ, List.set_cons_zero]
      refine flow_val ?_ rfl (by kernel_rfl) (by rfl) (fun W hW => ?_) ?_
      rotate_left 1
      · obtain ⟨⟨a0, a1, a2⟩, ⟨b0, b1, b2⟩, _⟩ := HQ2.out W hW.1; go_simp <;> with_reducible rfl
      simp only [Act.put, List.setIfInBounds_toArray, List.set_cons_succ, List.set_cons_zero]
      refine flow_call (.bool true) rfl (by kernel_rfl) (by rfl) (by kernel_rfl) (fun W hW => ⟨_, _, _, by go_simp, (same_eq k A7 A c7 c W (HX8.out.below hW.1) (HP8.out.bs.below hW.1) HP.out.2.2.2.1).mono fun e w1 ⟨he, h⟩ => ⟨he, hW.1.trans (h.mono hW.1.size), hW.2.below h⟩⟩) ?_
      simp only [Act.put, List.setIfInBounds_toArray, List.set_cons_succ, List.set_cons_zero]
      refine flow_val ?_ rfl (by kernel_rfl) (by rfl) (fun W hW => ?_) ?_
      rotate_left 1
      · go_simp <;> with_reducible rfl
      simp only [Act.put, List.setIfInBounds_toArray, List.set_cons_succ, List.set_cons_zero]
      refine flow_val ?_ rfl (by kernel_rfl) (by rfl) (fun W hW => ?_) ?_
      rotate_left 1
      · go_simp <;> with_reducible rfl
      simp only [Act.put, List.setIfInBounds_toArray, List.set_cons_succ, List.set_cons_zero]
      refine flow_done ?_
      intro W hW
      have HW_ := Lib.hid (HB8.out.trans (hW.1.1.mono HB8.out.size))
      clear hW
      go_wp2
      go_ret
      exact ⟨rfl, HGA.out ▸ HW_.out⟩
    · obtain rfl : F = 0 := by rw [← HF.out]; rfl
      refine wp_region_flow (fun W => Below w6.heap.size w6 W) [0, 1, 2, 3, 5, 4, 6, 7, 8, 9, 10, 11, 12, 13, 14, 15, 16, 17, 18, 19, 20, 21, 22, 23, 24, 25, 26, 27, 28, 29, 30, 31, 32, 33, 34, 35, 36, 37, 38, 39, 40, 41, 42] (by kernel_rfl) (by kernel_rfl) (by kernel_rfl) ((Below.refl _ _).drew) ?_
      refine flow_call (.bool true) rfl (by kernel_rfl) (by rfl) (by kernel_rfl) (fun W hW => ⟨_, _, _, by go_simp, (lives_any W).mono fun e w1 ⟨he, h⟩ => ⟨he, (hW).trans (h.mono (hW).size)⟩⟩) ?_
      simp only [Act.put, List.setIfInBounds_toArray, List.set_cons_succ, List.set_cons_zero]
      refine flow_val ?_ rfl (by kernel_rfl) (by rfl) (fun W hW => ?_) ?_
      rotate_left 1
      · go_simp <;> with_reducible rfl
      simp only [Act.put, List.setIfInBounds_toArray, List.set_cons_succ, List.set_cons_zero]
      refine flow_val ?_ rfl (by kernel_rfl) (by rfl) (fun W hW => ?_) ?_
      rotate_left 1
      · go_simp <;> with_reducible rfl
      simp only [Act.put, List.setIfInBounds_toArray, List.set_cons_succ, List.set_cons_zero]
      refine flow_val ?_ rfl (by kernel_rfl) (by rfl) (fun W hW => ?_) ?_
      rotate_left 1
      · obtain ⟨⟨a0, a1, a2⟩, ⟨b0, b1, b2⟩, ⟨c0, c1, c2⟩, f1, f2⟩ := HQ.out W (hW.1); go_simp <;> with_reducible rfl
      simp only [Act.put, List.setIfInBounds_toArray, List.set_cons_succ, List.set_cons_zero]
      refine flow_val ?_ rfl (by kernel_rfl) (by rfl) (fun W hW => ?_) ?_
      rotate_left 1
      · obtain ⟨⟨a0, a1, a2⟩, ⟨b0, b1, b2⟩, ⟨c0, c1, c2⟩, f1, f2⟩ := HQ.out W (hW.1); go_simp <;> with_reducible rfl
      simp only [Act.put, List.setIfInBounds_toArray, List.set_cons_succ, List.set_cons_zero]
      refine flow_call (.bool true) rfl (by kernel_rfl) (by rfl) (by kernel_rfl) (fun W hW => ⟨_, _, _, by go_simp, (lmay_any k A c W HKM.out).mono fun e w1 ⟨he, h⟩ => ⟨by rw [HM.out] at he; exact he, ⟨(hW.1).trans (h.mono (hW.1).size), trivial⟩⟩⟩) ?_
      simp only [Act.put, List.setIfInBounds_toArray, List.set_cons_succ, List.set_cons_zero]
      refine flow_call (.bool true) rfl (by kernel_rfl) (by rfl) (by kernel_rfl) (fun W hW => ⟨_, _, _, by go_simp, (rmay_any k A c W HKM.out).mono fun e w1 ⟨he, h⟩ => ⟨by rw [HM.out] at he; exact he, ⟨⟨(hW.1.1).trans (h.mono (hW.1.1).size), trivial⟩, trivial⟩⟩⟩) ?_
      simp only [Act.put, List.setIfInBounds_toArray, List.set_cons_succ, List.set_cons_zero]
      refine flow_val ?_ rfl (by kernel_rfl) (by rfl) (fun W hW => ?_) ?_
      rotate_left 1
      · go_simp <;> with_reducible rfl
      simp only [Act.put, List.setIfInBounds_toArray, List.set_cons_succ, List.set_cons_zero]
      refine flow_val ?_ rfl (by kernel_rfl) (by rfl) (fun W hW => ?_) ?_
      rotate_left 1
      · go_simp <;> with_reducible rfl
      simp only [Act.put, List.setIfInBounds_toArray, List.set_cons_succ, List.set_cons_zero]
      refine flow_val ?_ rfl (by kernel_rfl) (by rfl) (fun W hW => ?_) ?_
      rotate_left 1
      · go_simp <;> with_reducible rfl
      simp only [Act.put, List.setIfInBounds_toArray, List.set_cons_succ, List.set_cons_zero]
      refine flow_val ?_ rfl (by kernel_rfl) (by rfl) (fun W hW => ?_) ?_
      rotate_left 1
      · go_simp <;> with_reducible rfl
      simp only [Act.put, List.setIfInBounds_toArray, List.set_cons_succ, List.set_cons_zero]
      refine flow_val ?_ rfl (by kernel_rfl) (by rfl) (fun W hW => ?_) ?_
      rotate_left 1
      · go_simp <;> with_reducible rfl
      simp only [Act.put, List.setIfInBounds_toArray, List.set_cons_succ, List.set_cons_zero]
      refine flow_val ?_ rfl (by kernel_rfl) (by rfl) (fun W hW => ?_) ?_
      rotate_left 1
      · obtain ⟨⟨a0, a1, a2⟩, ⟨b0, b1, b2⟩, ⟨c0, c1, c2⟩, f1, f2⟩ := HQ.out W (hW.1.1.1); go_simp <;> with_reducible rfl
      simp only [Act.put, List.setIfInBounds_toArray, List.set_cons_succ, List.set_cons_zero]
      refine flow_call (.bool true) rfl (by kernel_rfl) (by rfl) (by kernel_rfl) (fun W hW => ⟨_, _, _, by go_simp, (rmay_any k A c W HKM.out).mono fun e w1 ⟨he, h⟩ => ⟨by rw [HM.out] at he; exact he, ⟨⟨⟨(hW.1.1.1).trans (h.mono (hW.1.1.1).size), trivial⟩, trivial⟩, trivial⟩⟩⟩) ?_
      simp only [Act.put, List.setIfInBounds_toArray, List.set_cons_succ, List.set_cons_zero]
      refine flow_val ?_ rfl (by kernel_rfl) (by rfl) (fun W hW => ?_) ?_
      rotate_left 1
      · go_simp <;> with_reducible rfl
      simp only [Act.put, List.setIfInBounds_toArray, List.set_cons_succ, List.set_cons_zero]
      refine flow_val ?_ rfl (by kernel_rfl) (by rfl) (fun W hW => ?_) ?_
      rotate_left 1
      · go_simp <;> with_reducible rfl
      simp only [Act.put, List.setIfInBounds_toArray, List.set_cons_succ, List.set_cons_zero]
      refine flow_val ?_ rfl (by kernel_rfl) (by rfl) (fun W hW => ?_) ?_
      rotate_left 1
      · go_simp <;> with_reducible rfl
      simp only [Act.put, List.setIfInBounds_toArray, List.set_cons_succ, List.set_cons_zero]
      refine flow_val ?_ rfl (by kernel_rfl) (by rfl) (fun W hW => ?_) ?_
      rotate_left 1
      · obtain ⟨⟨a0, a1, a2⟩, ⟨b0, b1, b2⟩, ⟨c0, c1, c2⟩, f1, f2⟩ := HQ.out W (hW.1.1.1.1); go_simp <;> with_reducible rfl
      simp only [Act.put, List.setIfInBounds_toArray, List.set_cons_succ, List.set_cons_zero]
      refine flow_val ?_ rfl (by kernel_rfl) (by rfl) (fun W hW => ?_) ?_
      rotate_left 1
      · obtain ⟨⟨a0, a1, a2⟩, ⟨b0, b1, b2⟩, ⟨c0, c1, c2⟩, f1, f2⟩ := HQ.out W (hW.1.1.1.1); go_simp <;> with_reducible rfl
      simp only [Act.put, List.setIfInBounds_toArray, List.set_cons_succ, List.set_cons_zero]
      refine flow_call (.bool true) rfl (by kernel_rfl) (by rfl) (by kernel_rfl) (fun W hW => ⟨_, _, _, by go_simp, (same_eq K A3 A5 c3 c5 W (HX36.out.below (hW.1.1.1.1)) (HX56.out.below (hW.1.1.1.1)) HK.out).mono fun e w1 ⟨he, h⟩ => ⟨he, ⟨⟨⟨⟨(hW.1.1.1.1).trans (h.mono (hW.1.1.1.1).size), trivial⟩, trivial⟩, trivial⟩, trivial⟩⟩⟩) ?_
      simp only [Act.put, List.setIfInBounds_toArray, List.set_cons_succ, List.set_cons_zero]
      refine flow_val ?_ rfl (by kernel_rfl) (by rfl) (fun W hW => ?_) ?_
      rotate_left 1
      · go_simp <;> with_reducible rfl
      simp only [Act.put, List.setIfInBounds_toArray, List.set_cons_succ, List.set_cons_zero]
      refine flow_val ?_ rfl (by kernel_rfl) (by rfl) (fun W hW => ?_) ?_
      rotate_left 1
      · go_simp <;> with_reducible rfl
      simp only [Act.put, List.setIfInBounds_toArray, List.set_cons_succ, List.set_cons_zero]
      refine flow_val ?_ rfl (by kernel_rfl) (by rfl) (fun W hW => ?_) ?_
      rotate_left 1
      · go_simp <;> with_reducible rfl
      simp only [Act.put, List.setIfInBounds_toArray, List.set_cons_succ, List.set_cons_zero]
      refine flow_val ?_ rfl (by kernel_rfl) (by rfl) (fun W hW => ?_) ?_
      rotate_left 1
      · go_simp <;> with_reducible rfl
      simp only [Act.put, List.setIfInBounds_toArray, List.set_cons_succ, List.set_cons_zero]
      refine flow_val ?_ rfl (by kernel_rfl) (by rfl) (fun W hW => ?_) ?_
      rotate_left 1
      · go_simp <;> with_reducible rfl
      simp only [Act.put, List.setIfInBounds_toArray, List.set_cons_succ, List.set_cons_zero]
      refine flow_val ?_ rfl (by kernel_rfl) (by rfl) (fun W hW => ?_) ?_
      rotate_left 1
      · go_simp <;> with_reducible rfl
      simp only [Act.put, List.setIfInBounds_toArray, List.set_cons_succ, List.set_cons_zero]
      refine flow_val ?_ rfl (by kernel_rfl) (by rfl) (fun W hW => ?_) ?_
      rotate_left 1
      · go_simp <;> with_reducible rfl
      simp only [Act.put, List.setIfInBounds_toArray, List.set_cons_succ, List.set_cons_zero]
      refine flow_val ?_ rfl (by kernel_rfl) (by rfl) (fun W hW => ?_) ?_
      rotate_left 1
      · go_simp <;> with_reducible rfl
      simp only [Act.put, List.setIfInBounds_toArray, List.set_cons_succ, List.set_cons_zero]
      refine flow_val ?_ rfl (by kernel_rfl) (by rfl) (fun W hW => ?_) ?_
      rotate_left 1
      · go_simp <;> with_reducible rfl
      simp only [Act.put, List.setIfInBounds_toArray, List.set_cons_succ, List.set_cons_zero]
      refine flow_val ?_ rfl (by kernel_rfl) (by rfl) (fun W hW => ?_) ?_
      rotate_left 1
      · go_simp <;> with_reducible rfl
      simp only [Act.put, List.setIfInBounds_toArray, List.set_cons_succ, List.set_cons_zero]
      refine flow_val ?_ rfl (by kernel_rfl) (by rfl) (fun W hW => ?_) ?_
      rotate_left 1
      · go_simp <;> with_reducible rfl
      simp only [Act.put, List.setIfInBounds_toArray, List.set_cons_succ, List.set_cons_zero]
      refine flow_val ?_ rfl (by kernel_rfl) (by rfl) (fun W hW => ?_) ?_
      rotate_left 1
      · go_simp <;> with_reducible rfl
      simp only [Act.put, List.setIfInBounds_toArray, List.set_cons_succ, List.set_cons_zero]
      refine flow_off rfl (by kernel_rfl) (by rfl) ?_
      simp only [Act.put, List.setIfInBounds_toArray, List.set_cons_succ, List.set_cons_zero]
      refine flow_off rfl (by kernel_rfl) (by rfl) ?_
      simp only [Act.put, List.setIfInBounds_toArray, List.set_cons_succ, List.set_cons_zero]
      refine flow_val ?_ rfl (by kernel_rfl) (by rfl) (fun W hW => ?_) ?_
      rotate_left 1
      · go_simp <;> with_reducible rfl
      simp only [Act.put, List.setIfInBounds_toArray, List.set_cons_succ, List.set_cons_zero]
      refine flow_val ?_ rfl (by kernel_rfl) (by rfl) (fun W hW => ?_) ?_
      rotate_left 1
      · go_simp <;> with_reducible rfl
      simp only [Act.put, List.setIfInBounds_toArray, List.set_cons_succ, List.set_cons_zero]
      refine flow_val ?_ rfl (by kernel_rfl) (by rfl) (fun W hW => ?_) ?_
      rotate_left 1
      · go_simp <;> with_reducible rfl
      simp only [Act.put, List.setIfInBounds_toArray, List.set_cons_succ, List.set_cons_zero]
      refine flow_val ?_ rfl (by kernel_rfl) (by rfl) (fun W hW => ?_) ?_
      rotate_left 1
      · go_simp <;> with_reducible rfl
      simp only [Act.put, List.setIfInBounds_toArray, List.set_cons_succ, List.set_cons_zero]
      refine flow_val ?_ rfl (by kernel_rfl) (by rfl) (fun W hW => ?_) ?_
      rotate_left 1
      · obtain ⟨⟨a0, a1, a2⟩, ⟨b0, b1, b2⟩, ⟨c0, c1, c2⟩, f1, f2⟩ := HQ.out W (hW.1.1.1.1.1); go_simp <;> with_reducible rfl
      simp only [Act.put, List.setIfInBounds_toArray, List.set_cons_succ, List.set_cons_zero]
      refine flow_val ?_ rfl (by kernel_rfl) (by rfl) (fun W hW => ?_) ?_
      rotate_left 1
      · go_simp <;> with_reducible rfl
      simp only [Act.put, List.setIfInBounds_toArray, List.set_cons_succ, List.set_cons_zero]
      refine flow_val ?_ rfl (by kernel_rfl) (by rfl) (fun W hW => ?_) ?_
      rotate_left 1
      · obtain ⟨⟨a0, a1, a2⟩, ⟨b0, b1, b2⟩, ⟨c0, c1, c2⟩, f1, f2⟩ := HQ.out W (hW.1.1.1.1.1); go_simp <;> with_reducible rfl
      simp only [Act.put, List.setIfInBounds_toArray, List.set_cons_succ, List.set_cons_zero]
      refine flow_val ?_ rfl (by kernel_rfl) (by rfl) (fun W hW => ?_) ?_
      rotate_left 1
      · go_simp <;> with_reducible rfl
      simp only [Act.put, List.setIfInBounds_toArray, List.set_cons_succ, List.set_cons_zero]
      refine flow_val ?_ rfl (by kernel_rfl) (by rfl) (fun W hW => ?_) ?_
      rotate_left 1
      · go_simp <;> with_reducible rfl
      simp only [Act.put, List.setIfInBounds_toArray, List.set_cons_succ, List.set_cons_zero]
      refine flow_done ?_
      intro W hW
      have HWB := Lib.hid hW.1.1.1.1.1
      clear hW
      go_wp2_with fail
      have hcode : codeP k = packP k := by unfold codeP; rw [HM.out]; rfl
      have hx1 := HX16.out.below HWB.out
      rw [hcode] at hx1 ⊢
      have HX1p := Lib.hid hx1
      refine (ldec_any _ (packP k) _ hx1 (packP_lt HP.out.2.2.2.1) (by have := packP_len (mayL_len HM.out).1; omega)).mono ?_
      rintro e w7 ⟨x7, rfl, hx7, hb7⟩
      rw [unP_pack HM.out] at hx7 ⊢
      simp only [if_true] at hx7 ⊢
      have HX7 := Lib.hid hx7
      obtain ⟨A7, c7, rfl, _, _, _⟩ := hx7
      obtain ⟨w8, hw8⟩ : ∃ w8, w7.alloc (.cells #[.int .i64 k.seq, .int .i64 k.ack, .slice A7 k.body.length c7] 43) = w8 := ⟨_, rfl⟩
      have hb78 : Below w7.heap.size w7 w8 := by rw [← hw8]; exact (Below.refl _ _).alloc (Nat.le_refl _) _
      have hq8 : w8.heap[w7.heap.size]? = some (.cells #[.int .i64 k.seq, .int .i64 k.ack, .slice A7 k.body.length c7] 43 (0, 0)) := by rw [← hw8]; exact block_new w7 _
      have hb68 : Below w6.heap.size w6 w8 := HWB.out.trans ((hb7.mono HWB.out.size).trans (hb78.mono (Nat.le_trans HWB.out.size hb7.size)))
      have HB8 := Lib.hid (HB6.out.trans (hb68.mono HB6.out.size))
      have hqa := (hb68.block _ (lt_of_block HQA.out)).trans HQA.out
      have HX18 := Lib.hid (HX16.out.below hb68)
      have HX8 := Lib.hid (HX7.out.below hb78)
      have HP8 := Lib.hid (HP6.out.below hb68)
      have HX18p := Lib.hid (hcode ▸ HX18.out : Bs w8 (.slice A1 (packP k).length c1) (packP k))
      have hQ2 : ∀ W, Below w8.heap.size w8 W → (W.cell? ⟨ga, 0, none⟩ = some (.int .i64 k.seq) ∧ W.cell? ⟨ga, 1, none⟩ = some (.int .i64 k.ack) ∧ W.cell? ⟨ga, 2, none⟩ = some (.slice A k.body.length c)) ∧
          (W.cell? ⟨w7.heap.size, 0, none⟩ = some (.int .i64 k.seq) ∧ W.cell? ⟨w7.heap.size, 1, none⟩ = some (.int .i64 k.ack) ∧ W.cell? ⟨w7.heap.size, 2, none⟩ = some (.slice A7 k.body.length c7)) ∧
          (convert 41 9 (.slice A1 (packP k).length c1)).run Try.prog W = .ok (.string (strOf (packP k))) W := fun W hW =>
        ⟨pkt_cells ((hW.block _ (lt_of_block hqa)).trans hqa), pkt_cells ((hW.block _ (lt_of_block hq8)).trans hq8), run_str W A1 _ c1 (packP k) (bs_rd (HX18p.out.below hW)) (packP_lt HP.out.2.2.2.1)⟩
      obtain ⟨S2, hS2⟩ : ∃ S2, strOf (packP k) = S2 := ⟨_, rfl⟩
      rw [hS2] at hQ2
      have HQ2 := Lib.hid hQ2
      have HS2 := Lib.hid hS2
      have HW8 := Lib.hid hw8
      clear hcode hx1 hb7 hw8 hb78 hq8 hb68 hqa hQ2 hS2 hn1
      go_wp2_with fail
      rw [HW8.out]
      refine wp_region_flow (fun W => Below w8.heap.size w8 W) [0, 1, 2, 3, 4, 5, 6, 7, 8, 9, 10, 11, 12, 13, 14, 15] (by kernel_rfl) (by kernel_rfl) (by kernel_rfl) ((Below.refl _ _).drew) ?_
      refine flow_val ?_ rfl (by kernel_rfl) (by rfl) (fun W hW => ?_) ?_
      rotate_left 1
      · go_simp <;> with_reducible rfl
      simp only [Act.put, List.setIfInBounds_toArray, List.set_cons_succ, List.set_cons_zero]
      refine flow_val ?_ rfl (by kernel_rfl) (by rfl) (fun W hW => ?_) ?_
      rotate_left 1
      · obtain ⟨_, _, f1⟩ := HQ2.out W hW; go_simp <;> with_reducible rfl
      simp only [Act.put, List.setIfInBounds_toArray, List.set_cons_succ, List.set_cons_zero]
      refine flow_val ?_ rfl (by kernel_rfl) (by rfl) (fun W hW => ?_) ?_
      rotate_left 1
      · obtain ⟨⟨a0, a1, a2⟩, _, _⟩ := HQ2.out W hW; go_simp <;> with_reducible rfl
      simp only [Act.put, List.setIfInBounds_toArray, List.set_cons_succ, List.set_cons_zero]
      refine flow_new (fun v W => Bs W v (packP k)) rfl (by kernel_rfl) (by rfl) (by kernel_rfl) (fun W hW => ⟨_, _, _, by go_simp, (renc_ok k A c W (HP8.out.bs.below hW) HP.out.2.2.2.1 HM.out).mono fun e w1 ⟨x, he, hx, h⟩ => ⟨x, he, hW.trans (h.mono hW.size), hx⟩⟩) ?_
      rintro v ⟨W0, _, hv⟩
      simp only [Act.put, List.setIfInBounds_toArray, List.set_cons_succ, List.set_cons_zero]
      obtain ⟨A9, c9, rfl, _, _, _⟩ := hv
      refine flow_val ?_ rfl (by kernel_rfl) (by rfl) (fun W hW => ?_) ?_
      rotate_left 1
      · have f2 := run_str W A9 _ c9 (packP k) (bs_rd hW.2) (packP_lt HP.out.2.2.2.1); rw [HS2.out] at f2; go_simp <;> with_reducible rfl
      simp only [Act.put, List.setIfInBounds_toArray, List.set_cons_succ, List.set_cons_zero]
      refine flow_val ?_ rfl (by kernel_rfl) (by rfl) (fun W hW => ?_) ?_
      rotate_left 1
      · go_simp <;> with_reducible rfl
      simp only [Act.put, List.setIfInBounds_toArray, List.set_cons_succ, List.set_cons_zero]
      refine flow_val ?_ rfl (by kernel_rfl) (by rfl) (fun W hW => ?_) ?_
      rotate_left 1
      · go_simp <;> with_reducible rfl
      simp only [Act.put, List.setIfInBounds_toArray, List.set_cons_succ, List.set_cons_zero]
      refine flow_val ?_ rfl (by kernel_rfl) (by rfl) (fun W hW => ?_) ?_
      rotate_left 1
      · go_simp <;> with_reducible rfl
      simp only [Act.put, List.setIfInBounds_toArray, List.set_cons_succ, List.set_cons_zero]
      refine flow_val ?_ rfl (by kernel_rfl) (by rfl) (fun W hW => ?_) ?_
      rotate_left 1
      · go_simp <;> with_reducible rfl
      simp only [Act.put, List.setIfInBounds_toArray, List.set_cons_succ, List.set_cons_zero]
      refine flow_val ?_ rfl (by kernel_rfl) (by rfl) (fun W hW => ?_) ?_
      rotate_left 1
      · go_simp <;> with_reducible rfl
      simp only [Act.put, List.setIfInBounds_toArray, List.set_cons_succ, List.set_cons_zero]
      refine flow_val ?_ rfl (by kernel_rfl) (by rfl) (fun W hW => ?_) ?_
      rotate_left 1
      · go_simp <;> with_reducible rfl
      simp only [Act.put, List.setIfInBounds_toArray, List.set_cons_succ, List.set_cons_zero]
      refine flow_val ?_ rfl (by kernel_rfl) (by rfl) (fun W hW => ?_) ?_
      rotate_left 1
      · obtain ⟨⟨a0, a1, a2⟩, ⟨b0, b1, b2⟩, _⟩ := HQ2.out W hW.1; go_simp <;> with_reducible rfl
      simp only [Act.put, List.setIfInBounds_toArray, List.set_cons_succ, List.set_cons_zero]
      refine flow_val ?_ rfl (by kernel_rfl) (by rfl) (fun W hW => ?_) ?_
      rotate_left 1
      · obtain ⟨⟨a0, a1, a2⟩, ⟨b0, b1, b2⟩, _⟩ := HQ2.out W hW.1; go_simp <;> with_reducible rfl
      simp only [Act.put, List.setIfInBounds_toArray, List.set_cons_succ, List.set_cons_zero]
      refine flow_call (.bool true) rfl (by kernel_rfl) (by rfl) (by kernel_rfl) (fun W hW => ⟨_, _, _, by go_simp, (same_eq k A7 A c7 c W (HX8.out.below hW.1) (HP8.out.bs.below hW.1) HP.out.2.2.2.1).mono fun e w1 ⟨he, h⟩ => ⟨he, hW.1.trans (h.mono hW.1.size), hW.2.below h⟩⟩) ?_
      simp only [Act.put, List.setIfInBounds_toArray, List.set_cons_succ, List.set_cons_zero]
      refine flow_val ?_ rfl (by kernel_rfl) (by rfl) (fun W hW => ?_) ?_
      rotate_left 1
      · go_simp <;> with_reducible rfl
      simp only [Act.put, List.setIfInBounds_toArray, List.set_cons_succ, List.set_cons_zero]
      refine flow_val ?_ rfl (by kernel_rfl) (by rfl) (fun W hW => ?_) ?_
      rotate_left 1
      · go_simp <;> with_reducible rfl
      simp only [Act.put, List.setIfInBounds_toArray, List.set_cons_succ, List.set_cons_zero]
      refine flow_done ?_
      intro W hW
      have HW_ := Lib.hid (HB8.out.trans (hW.1.1.mono HB8.out.size))
      clear hW
      go_wp2
      go_ret
      exact ⟨rfl, HGA.out ▸ HW_.out⟩
end Go.Proofs.Ytnmbblkfaoihfaa
