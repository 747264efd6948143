/- Joined: ask.put, ask.Body and ask.Encode. ask.Encode. A variable that names a maker. Whether a kind has an answer, as its text tells. -/
import Derived.Test.YtpccbobomppdbaaZR17
import Derived.Test.YtpccbobomppdbaaZR9
import Derived.Test.YtpccbobomppdbaaZR7
import Derived.Test.YtpccbobomppdbaaZR11
namespace Go.Proofs.Ytpccbobomppdbaa
open Go.RowKit Go.Shelf
attribute [local go_sem] Oper.semAt_some

theorem LimA.pit {a : Ak} (h : LimA a) : ∀ z ∈ a.items, z.good.size ≤ 16 ∧ -9223372036854775808 ≤ z.n ∧ z.n ≤ 9223372036854775807 := fun z hz => by
  obtain ⟨h1, h2, h3⟩ := mayI_item h.c9 z hz
  exact ⟨h1, by omega, by omega⟩
theorem putS_app {s c : List Nat} (h : s.length + c.length ≤ 262144) : putS (s, false) c = (s ++ c, false) := putS_fits rfl (by simp only; omega)
/-- What holds between two rounds of put. -/
def PutI (w0 : World) (p px : Nat) (s : List Nat) (pre : List PIt) (W : World) : Prop := Mk w0 p (s ++ itemsB (pre.map (·.1)), false) W ∧ W.heap[px]? = some (.cells #[.pointer (some ⟨p, 0, none⟩)] 47 (0, 0)) ∧ w0.heap.size ≤ px
theorem putI_own {w0 : World} {p px B : Nat} {s : List Nat} (hB : w0.heap.size ≤ B) : OwnFrom B (PutI w0 p px s) := by
  rintro pre W W' row ⟨⟨G, ⟨v, h1, h2, h3⟩, h4, h5, h6⟩, h7, h8⟩ hg hr
  have hr' : ∀ r, row = some r → ∃ o : Obj, W.heap[r]? = some o ∧ o.isCells = false := fun r e => (hr r e).2
  exact ⟨⟨G, ⟨v, block_grown h1 hg hr', own_grown h2 hg hr', h3⟩, h4, h5, h6.grown hg h6.size (fun k e => Nat.le_trans hB (hr k e).1)⟩, block_grown h7 hg hr', h8⟩
theorem putI_next {s : List Nat} {pre : List PIt} {x : PIt} (hs : s.length ≤ 1000) (hl : pre.length ≤ 16) : putS (putS (s ++ itemsB (pre.map (·.1)), false) (textB (natsOf x.1.good))) (numB x.1.n) = (s ++ itemsB ((pre ++ [x]).map (·.1)), false) := by
  have h1 := itemsB_le (l := pre.map (·.1)) (fun y hy => by obtain ⟨z, _, rfl⟩ := List.mem_map.1 hy; exact z.2.1)
  have h2 := textB_le (natsOf x.1.good)
  have h3 := numB_le9 x.1.n
  have h4 := x.2.1
  rw [natsOf_length] at h2
  rw [List.length_map] at h1
  rw [putS_app (by rw [List.length_append]; omega), putS_app (by simp only [List.length_append]; omega), List.map_append, List.map_cons, List.map_nil, itemsB_snoc]
  simp only [itemB, List.append_assoc]
/-- What put puts ahead of the items. -/
def headB (a : Ak) : List Nat := numsB [a.kind, a.order, a.region, a.to, a.n] ++ (textB (natsOf a.good) ++ numB a.items.length)
theorem headB_le {a : Ak} (h : a.good.size ≤ 16) : (headB a).length ≤ 79 := by
  have h1 := numsB_le [a.kind, a.order, a.region, a.to, a.n]
  have h2 := textB_le (natsOf a.good)
  have h3 := numB_le9 a.items.length
  rw [natsOf_length] at h2
  unfold headB
  simp only [List.length_append, List.length_cons, List.length_nil] at *
  omega
theorem bodyA_head (a : Ak) : bodyA a = headB a ++ itemsB a.items := by
  unfold bodyA headB tailA
  simp only [List.append_assoc]
theorem head_put {a : Ak} {s : List Nat} (h : a.good.size ≤ 16) (hs : s.length ≤ 900) : putS (putS (putS (putS (putS (putS (putS (s, false) (numB a.kind)) (numB a.order)) (numB a.region)) (numB a.to)) (numB a.n)) (textB (natsOf a.good))) (numB a.items.length) = (s ++ headB a, false) := by
  have h1 := numB_le9 a.kind
  have h2 := numB_le9 a.order
  have h3 := numB_le9 a.region
  have h4 := numB_le9 a.to
  have h5 := numB_le9 a.n
  have h6 := textB_le (natsOf a.good)
  have h7 := numB_le9 a.items.length
  rw [natsOf_length] at h6
  rw [putS_app (by omega), putS_app (by simp only [List.length_append]; omega), putS_app (by simp only [List.length_append]; omega), putS_app (by simp only [List.length_append]; omega), putS_app (by simp only [List.length_append]; omega), putS_app (by simp only [List.length_append]; omega), putS_app (by simp only [List.length_append]; omega)]
  unfold headB
  simp only [numsB, List.append_assoc, List.append_nil]
set_option maxRecDepth 100000 in
set_option maxHeartbeats 4000000 in
theorem aput_any (a : Ak) (A : Option Addr) (c : Nat) (w0 W0 : World) (p : Nat) (s : List Nat) (hM : Mk w0 p (s, false) W0) (hr : Rd w0 2 A a.items.length (a.items.flatMap encI)) (hl : LimA a) (hs : s.length ≤ 900) :
    Calls Try.prog 55 #[.pointer (some ⟨p, 0, none⟩), akV a (.slice A a.items.length c)] W0 fun e W => e = .returned (.tuple #[]) ∧ Mk w0 p (s ++ bodyA a, false) W := by
  obtain ⟨qs, hq⟩ := pits_of hl.pit
  have HQ := Lib.hid hq
  have hql : qs.length = a.items.length := by rw [← hq]; simp
  have HQL := Lib.hid hql
  have h16 := (mayI_at hl.c9).1
  have HHP := Lib.hid (head_put (s := s) hl.c8 hs)
  have hhl := headB_le hl.c8
  have HHL : Hid ((s ++ headB a).length ≤ 1000) := Lib.hid (by rw [List.length_append]; omega)
  have HBO := Lib.hid (bodyA_head a)
  obtain ⟨l1, l2, l3, l4, l5, l6, l7, l8, _⟩ := hl
  have HI : Hid (I64 a.kind ∧ I64 a.order ∧ I64 a.region ∧ I64 a.to ∧ I64 a.n ∧ I64 a.items.length) := Lib.hid (by unfold I64; omega)
  have HTX : Hid (a.good.size ≤ 140737488351232) := Lib.hid (by omega)
  obtain ⟨BO, hBO⟩ : ∃ BO, bodyA a = BO := ⟨_, rfl⟩
  rw [hBO] at HBO ⊢
  obtain ⟨HD, hHD⟩ : ∃ HD, headB a = HD := ⟨_, rfl⟩
  rw [hHD] at HBO HHP HHL
  obtain ⟨client, number, kind, order, region, to, n, good, items⟩ := a
  simp only at *
  obtain ⟨m, hm2⟩ : ∃ m, items.length = m := ⟨_, rfl⟩
  have HMM := Lib.hid hm2
  rw [hm2] at HHP HI HQL h16 hr ⊢
  have HM := Lib.hid hM
  have HR := Lib.hid hr
  have hbm := hM.below
  have hb2 := (hbm.alloc hbm.size (.cells #[.pointer (some ⟨p, 0, none⟩)] 47)).alloc (by have := hbm.size; simp; omega) (.cells #[.int .i64 client, .int .i64 number, .int .i64 kind, .int .i64 order, .int .i64 region, .int .i64 to, .int .i64 n, .string good, .slice A m c] 24)
  have k0 := block_alloc (block_new W0 (.cells #[.pointer (some ⟨p, 0, none⟩)] 47)) (.cells #[.int .i64 client, .int .i64 number, .int .i64 kind, .int .i64 order, .int .i64 region, .int .i64 to, .int .i64 n, .string good, .slice A m c] 24)
  have k1 := block_new (W0.alloc (.cells #[.pointer (some ⟨p, 0, none⟩)] 47)) (.cells #[.int .i64 client, .int .i64 number, .int .i64 kind, .int .i64 order, .int .i64 region, .int .i64 to, .int .i64 n, .string good, .slice A m c] 24)
  have hbb := ((Below.refl _ W0).alloc (Nat.le_refl _) (.cells #[.pointer (some ⟨p, 0, none⟩)] 47)).alloc (by simp) (.cells #[.int .i64 client, .int .i64 number, .int .i64 kind, .int .i64 order, .int .i64 region, .int .i64 to, .int .i64 n, .string good, .slice A m c] 24)
  simp only [World.size_alloc] at k1
  obtain ⟨W2, hW2⟩ : ∃ W2, (W0.alloc (.cells #[.pointer (some ⟨p, 0, none⟩)] 47)).alloc (.cells #[.int .i64 client, .int .i64 number, .int .i64 kind, .int .i64 order, .int .i64 region, .int .i64 to, .int .i64 n, .string good, .slice A m c] 24) = W2 := ⟨_, rfl⟩
  rw [hW2] at hb2 k0 k1 hbb
  have hM2 := hM.keep hbb
  have HM2 := Lib.hid hM2
  have HB2 := Lib.hid hb2
  have HWW := Lib.hid hW2
  obtain ⟨px, hpx⟩ : ∃ px, W0.heap.size = px := ⟨_, rfl⟩
  have hpx0 : w0.heap.size ≤ px := by rw [← hpx]; exact hbm.size
  rw [hpx] at k0 k1
  have HPX := Lib.hid hpx
  have HK0 := Lib.hid k0
  have HK1 := Lib.hid k1
  clear hq hql l1 l2 l3 l4 l5 l6 l7 l8 hM hr hbm hb2 k0 k1 hbb hM2 hBO hHD hm2 hhl hW2 hpx
  refine (callsIn_wide (n := 9)).1 ?_
  refine callsIn_of_wp_marks Try.func55 rfl trivial ?_ rfl
  simp only [Try.ntmps55, List.size_toArray, List.length_cons, List.length_nil, Nat.reduceAdd, Nat.reduceSub, Array.replicate_succ, Array.replicate_zero, List.push_toArray, List.append_toArray, List.nil_append, List.cons_append]
  refine wpIn_wide.2 ?_
  go_wp2_with fail
  rw [HWW.out, HPX.out]
  refine wp_region_flow2 (fun W => Below w0.heap.size w0 W ∧ W.heap[px]? = some (.cells #[.pointer (some ⟨p, 0, none⟩)] 47 (0, 0)) ∧ W.heap[px + 1]? = some (.cells #[.int .i64 client, .int .i64 number, .int .i64 kind, .int .i64 order, .int .i64 region, .int .i64 to, .int .i64 n, .string good, .slice A m c] 24 (0, 0))) (fun W => Mk w0 p (s, false) W) [0, 1, 2, 4, 5, 7, 8, 10, 11, 13, 14, 16, 17, 19, 20, 21, 3, 6, 9, 12, 15, 18, 22] (by kernel_rfl) (by kernel_rfl) (by kernel_rfl) (⟨HB2.out.drew, HK0.out, HK1.out⟩) (HM2.out.keep ((Below.refl _ _).drew)) ?_
  refine flow_val ?_ rfl (by kernel_rfl) (by rfl) (fun W hW => ?_) ?_
  rotate_left 1
  · have c0 := cell_at hW.2.1 0; go_simp <;> with_reducible rfl
  simp only [puts]
  refine flow_val ?_ rfl (by kernel_rfl) (by rfl) (fun W hW => ?_) ?_
  rotate_left 1
  · go_simp <;> with_reducible rfl
  simp only [puts]
  refine flow_val ?_ rfl (by kernel_rfl) (by rfl) (fun W hW => ?_) ?_
  rotate_left 1
  · have c2 := cell_at hW.2.2 2; go_simp <;> with_reducible rfl
  simp only [puts]
  refine flow_val ?_ rfl (by kernel_rfl) (by rfl) (fun W hW => ?_) ?_
  rotate_left 1
  · go_simp <;> with_reducible rfl
  simp only [puts]
  refine flow_val ?_ rfl (by kernel_rfl) (by rfl) (fun W hW => ?_) ?_
  rotate_left 1
  · have c3 := cell_at hW.2.2 3; go_simp <;> with_reducible rfl
  simp only [puts]
  refine flow_val ?_ rfl (by kernel_rfl) (by rfl) (fun W hW => ?_) ?_
  rotate_left 1
  · go_simp <;> with_reducible rfl
  simp only [puts]
  refine flow_val ?_ rfl (by kernel_rfl) (by rfl) (fun W hW => ?_) ?_
  rotate_left 1
  · have c4 := cell_at hW.2.2 4; go_simp <;> with_reducible rfl
  simp only [puts]
  refine flow_val ?_ rfl (by kernel_rfl) (by rfl) (fun W hW => ?_) ?_
  rotate_left 1
  · go_simp <;> with_reducible rfl
  simp only [puts]
  refine flow_val ?_ rfl (by kernel_rfl) (by rfl) (fun W hW => ?_) ?_
  rotate_left 1
  · have c5 := cell_at hW.2.2 5; go_simp <;> with_reducible rfl
  simp only [puts]
  refine flow_val ?_ rfl (by kernel_rfl) (by rfl) (fun W hW => ?_) ?_
  rotate_left 1
  · go_simp <;> with_reducible rfl
  simp only [puts]
  refine flow_val ?_ rfl (by kernel_rfl) (by rfl) (fun W hW => ?_) ?_
  rotate_left 1
  · have c6 := cell_at hW.2.2 6; go_simp <;> with_reducible rfl
  simp only [puts]
  refine flow_val ?_ rfl (by kernel_rfl) (by rfl) (fun W hW => ?_) ?_
  rotate_left 1
  · go_simp <;> with_reducible rfl
  simp only [puts]
  refine flow_val ?_ rfl (by kernel_rfl) (by rfl) (fun W hW => ?_) ?_
  rotate_left 1
  · have c7 := cell_at hW.2.2 7; go_simp <;> with_reducible rfl
  simp only [puts]
  refine flow_val ?_ rfl (by kernel_rfl) (by rfl) (fun W hW => ?_) ?_
  rotate_left 1
  · go_simp <;> with_reducible rfl
  simp only [puts]
  refine flow_val ?_ rfl (by kernel_rfl) (by rfl) (fun W hW => ?_) ?_
  rotate_left 1
  · have c8 := cell_at hW.2.2 8; go_simp <;> with_reducible rfl
  simp only [puts]
  refine flow_val ?_ rfl (by kernel_rfl) (by rfl) (fun W hW => ?_) ?_
  rotate_left 1
  · go_simp <;> with_reducible rfl
  simp only [puts]
  refine flow_turn (.pointer (some ⟨p, 0, none⟩)) (fun W => Mk w0 p (putS (s, false) (numB kind)) W) rfl (by kernel_rfl) (by rfl) (by kernel_rfl) (fun W hW hC => ⟨_, _, _, by go_simp, (mkk_num hC kind HI.out.1).mono fun e w1 hh => ?_⟩) ?_
  · obtain ⟨he, h1, _, _, h5⟩ := hh
    exact ⟨he, ⟨h1.below, h5 _ _ _ _ hW.2.1 (by decide) (by decide), h5 _ _ _ _ hW.2.2 (by decide) (by decide)⟩, h1⟩
  simp only [puts]
  refine flow_turn (.pointer (some ⟨p, 0, none⟩)) (fun W => Mk w0 p (putS (putS (s, false) (numB kind)) (numB order)) W) rfl (by kernel_rfl) (by rfl) (by kernel_rfl) (fun W hW hC => ⟨_, _, _, by go_simp, (mkk_num hC order HI.out.2.1).mono fun e w1 hh => ?_⟩) ?_
  · obtain ⟨he, h1, _, _, h5⟩ := hh
    exact ⟨he, ⟨⟨h1.below, h5 _ _ _ _ hW.1.2.1 (by decide) (by decide), h5 _ _ _ _ hW.1.2.2 (by decide) (by decide)⟩, trivial⟩, h1⟩
  simp only [puts]
  refine flow_turn (.pointer (some ⟨p, 0, none⟩)) (fun W => Mk w0 p (putS (putS (putS (s, false) (numB kind)) (numB order)) (numB region)) W) rfl (by kernel_rfl) (by rfl) (by kernel_rfl) (fun W hW hC => ⟨_, _, _, by go_simp, (mkk_num hC region HI.out.2.2.1).mono fun e w1 hh => ?_⟩) ?_
  · obtain ⟨he, h1, _, _, h5⟩ := hh
    exact ⟨he, ⟨⟨⟨h1.below, h5 _ _ _ _ hW.1.1.2.1 (by decide) (by decide), h5 _ _ _ _ hW.1.1.2.2 (by decide) (by decide)⟩, trivial⟩, trivial⟩, h1⟩
  simp only [puts]
  refine flow_turn (.pointer (some ⟨p, 0, none⟩)) (fun W => Mk w0 p (putS (putS (putS (putS (s, false) (numB kind)) (numB order)) (numB region)) (numB to)) W) rfl (by kernel_rfl) (by rfl) (by kernel_rfl) (fun W hW hC => ⟨_, _, _, by go_simp, (mkk_num hC to HI.out.2.2.2.1).mono fun e w1 hh => ?_⟩) ?_
  · obtain ⟨he, h1, _, _, h5⟩ := hh
    exact ⟨he, ⟨⟨⟨⟨h1.below, h5 _ _ _ _ hW.1.1.1.2.1 (by decide) (by decide), h5 _ _ _ _ hW.1.1.1.2.2 (by decide) (by decide)⟩, trivial⟩, trivial⟩, trivial⟩, h1⟩
  simp only [puts]
  refine flow_turn (.pointer (some ⟨p, 0, none⟩)) (fun W => Mk w0 p (putS (putS (putS (putS (putS (s, false) (numB kind)) (numB order)) (numB region)) (numB to)) (numB n)) W) rfl (by kernel_rfl) (by rfl) (by kernel_rfl) (fun W hW hC => ⟨_, _, _, by go_simp, (mkk_num hC n HI.out.2.2.2.2.1).mono fun e w1 hh => ?_⟩) ?_
  · obtain ⟨he, h1, _, _, h5⟩ := hh
    exact ⟨he, ⟨⟨⟨⟨⟨h1.below, h5 _ _ _ _ hW.1.1.1.1.2.1 (by decide) (by decide), h5 _ _ _ _ hW.1.1.1.1.2.2 (by decide) (by decide)⟩, trivial⟩, trivial⟩, trivial⟩, trivial⟩, h1⟩
  simp only [puts]
  refine flow_turn (.pointer (some ⟨p, 0, none⟩)) (fun W => Mk w0 p (putS (putS (putS (putS (putS (putS (s, false) (numB kind)) (numB order)) (numB region)) (numB to)) (numB n)) (textB (natsOf good))) W) rfl (by kernel_rfl) (by rfl) (by kernel_rfl) (fun W hW hC => ⟨_, _, _, by go_simp, (mkk_text hC good HTX.out).mono fun e w1 hh => ?_⟩) ?_
  · obtain ⟨he, h1, _, _, h5⟩ := hh
    exact ⟨he, ⟨⟨⟨⟨⟨⟨h1.below, h5 _ _ _ _ hW.1.1.1.1.1.2.1 (by decide) (by decide), h5 _ _ _ _ hW.1.1.1.1.1.2.2 (by decide) (by decide)⟩, trivial⟩, trivial⟩, trivial⟩, trivial⟩, trivial⟩, h1⟩
  simp only [puts]
  refine flow_turn (.pointer (some ⟨p, 0, none⟩)) (fun W => Mk w0 p (putS (putS (putS (putS (putS (putS (putS (s, false) (numB kind)) (numB order)) (numB region)) (numB to)) (numB n)) (textB (natsOf good))) (numB (m : Int))) W) rfl (by kernel_rfl) (by rfl) (by kernel_rfl) (fun W hW hC => ⟨_, _, _, by go_simp, (mkk_num hC (m : Int) HI.out.2.2.2.2.2).mono fun e w1 hh => ?_⟩) ?_
  · obtain ⟨he, h1, _, _, h5⟩ := hh
    exact ⟨he, ⟨⟨⟨⟨⟨⟨⟨h1.below, h5 _ _ _ _ hW.1.1.1.1.1.1.2.1 (by decide) (by decide), h5 _ _ _ _ hW.1.1.1.1.1.1.2.2 (by decide) (by decide)⟩, trivial⟩, trivial⟩, trivial⟩, trivial⟩, trivial⟩, trivial⟩, h1⟩
  simp only [puts]
  refine flow_done2 ?_
  intro W hW hC
  rw [HHP.out] at hC
  obtain ⟨W3, hW3⟩ : ∃ W3, W3 = W := ⟨_, rfl⟩
  subst hW3
  have HM3 := Lib.hid hC
  have HS3 := Lib.hid hW.1.1.1.1.1.1.1
  obtain ⟨hb3, x0, x1⟩ := HS3.out
  have d0 := cell_at x0 0
  have d8 := cell_at x1 8
  clear hW hC hb3 x0 x1
  go_wp2_with fail
  refine (all_any _ _ _ _).mono ?_
  rintro e w5 ⟨rfl, hw5⟩
  obtain ⟨pc, hpc⟩ : ∃ pc, W3.heap.size = pc := ⟨_, rfl⟩
  have hbw : Below W3.heap.size W3 w5 := by rw [← hw5]; exact (Below.refl _ W3).alloc (Nat.le_refl _) _
  have c0 : w5.heap[pc]? = some (.cells #[.slice A m c] 22 (0, 0)) := by rw [← hw5, ← hpc]; exact block_new _ _
  have hB5 : Below w0.heap.size w0 w5 := HS3.out.1.trans (hbw.mono HS3.out.1.size)
  have hP5 : PutI w0 p px (s ++ HD) [] w5 := ⟨by simpa [itemsB] using HM3.out.keep hbw, (hbw.block _ (lt_of_block HS3.out.2.1)).trans HS3.out.2.1, hpx0⟩
  have hsz5 : w0.heap.size ≤ w5.heap.size := hB5.size
  rw [hpc]
  have HP5 := Lib.hid hP5
  have HB5 := Lib.hid hB5
  have HC0 := Lib.hid c0
  have hA : ∀ a, A = some a → 0 < items.length → a.block < w0.heap.size := fun a ha hp => by
    obtain ⟨g, o', e, hg, _⟩ := HR.out.2 (by rw [HMM.out] at hp; exact hp)
    rw [e] at ha
    cases ha
    exact hg
  clear hw5 hpc hbw c0 hB5 hP5 HS3 HM3
  go_wp2_with fail
  refine (wpIn_wide (n := 9)).1 ?_
  apply wpIn_rangeFunc_ownF (F := Fence.wide) (n := 9) (hro := rfl) (h1 := by omega) (gf := 54) (lb := #[.pointer (some ⟨pc, 0, none⟩)]) (hg := rfl) (hFg := trivial) (eg := enters_of Try.func54 (by kernel_rfl) rfl)
    (hseq := all_iterP _ w0.heap.size pc A c items qs HQ.out w5 (by rw [cell_at HC0.out, HMM.out]; rfl) (by rw [HMM.out]; exact HR.out.below HB5.out) (by rw [HMM.out]; omega) (by omega) hA) (hKt := belowK_t) (hKb := belowK_b hsz5) (hb0 := Below.refl _ _) (hps := fun _ => rfl)
    (I := PutI w0 p px (s ++ HD)) (Ix := fun _ _ _ => False) (hI := putI_own hsz5) (hIx := fun _ _ _ _ _ hs _ _ => hs) (h0 := HP5.out)
  case hassign =>
    intro l x W K hK
    dsimp only [encRowP]
    gi_wp2
    exact hK
  case hstop =>
    rintro D c pre W3 hD hpre hf _
    exact hf.elim
  case hbody =>
    rintro l pre x W hi hlt
    obtain ⟨k1, k2, k3⟩ := hi
    have x0 := cell_at k2 0
    have K1 := Lib.hid k1
    have K2 := Lib.hid k2
    have HS := Lib.hid (putI_next (x := x) HHL.out (by have := HMM.out; omega : pre.length ≤ 16))
    have hx16 : x.1.good.size ≤ 140737488351232 := by have := x.2.1; omega
    have HX16 := Lib.hid hx16
    have HX64 : Hid (I64 x.1.n) := Lib.hid ⟨x.2.2.1, x.2.2.2⟩
    clear k1 k2 hx16 hlt
    gi_wp2_with fail
    refine ⟨trivial, CallsIn.mono (CallsIn.inRound l (callsIn_wide.2 (mkk_text K1.out x.1.good HX16.out))) ?_⟩
    rintro e W2 ⟨rfl, h2, hk2, hb2, hx2⟩
    have H2 := Lib.hid h2
    have HK2 := Lib.hid hk2
    have HB2 := Lib.hid hb2
    have HX2 := Lib.hid (hx2 _ _ _ _ K2.out (by decide) (by decide))
    clear h2 hk2 hb2 hx2 x0
    gi_wp2_with fail
    refine ⟨trivial, CallsIn.mono (CallsIn.inRound l (callsIn_wide.2 (mkk_num H2.out x.1.n HX64.out))) ?_⟩
    rintro e W4 ⟨rfl, h4, hk4, hb4, hx4⟩
    rw [HS.out] at h4
    have H4 := Lib.hid h4
    have HK4 := Lib.hid (HK2.out.trans hk4)
    have HB4 := Lib.hid (HB2.out.trans hb4)
    have HX4 := Lib.hid (hx4 _ _ _ _ HX2.out (by decide) (by decide))
    clear h4 hk4 hb4 hx4
    gi_wp2
    exact ⟨HK4.out, HB4.out, H4.out, HX4.out, k3⟩
  case hdone =>
    rintro D ys W3 hD rfl ⟨k1, k2, k3⟩ hK
    have e : s ++ HD ++ itemsB (ys.map (·.1)) = s ++ BO := by rw [HQ.out, HBO.out, List.append_assoc]
    rw [e] at k1
    have K1 := Lib.hid k1
    have HKD : Hid (W3.heap[D]? = some (.deferred (some []))) := Lib.hid hK
    clear k1 k2 hK e
    go_wp2
    refine ⟨by simp, .inl ⟨_, _, rfl, run_takeDeferred HKD.out, ?_⟩⟩
    refine ⟨.tuple #[], by simp [results, Try.f55, go_sem], rfl, ?_⟩
    obtain ⟨G, ⟨v, j1, j2, j3⟩, j4, j5, j6⟩ := K1.out
    exact ⟨G, ⟨v, block_grown j1 (grownBy_putObj' _ D (.deferred none)) (fun r e => by cases e; exact ⟨_, HKD.out, rfl⟩), ownsRow_putObj j2 (.deferred none) HKD.out rfl, j3⟩, j4, j5, j6.trans (belowK_b (w := w0) (Nat.le_refl _) _ D _ _ (by omega) HKD.out rfl rfl)⟩
end Go.Proofs.Ytpccbobomppdbaa

namespace Go.Proofs.Ytpccbobomppdbaa
open Go.RowKit

theorem bs_nilA (w : World) : Bs w (.slice none 0 0) [] := ⟨none, 0, rfl, Nat.le_refl _, Nat.zero_le _, Rd.nil⟩
theorem bodyA_le {a : Ak} (h : LimA a) : (bodyA a).length ≤ 641 := by
  have h1 := encA_le h
  rw [encA_body] at h1
  simp only [List.length_append] at h1
  omega
set_option maxRecDepth 100000 in
set_option maxHeartbeats 1000000 in
theorem aenc_no (a : Ak) (A : Option Addr) (c : Nat) (w : World) (hr : Rd w 2 A a.items.length (a.items.flatMap encI)) (hb : BdL a.items) (hg : a.good.size ≤ 9223372036854775807) (hm : mayA a = false) :
    Calls Try.prog 23 #[akV a (.slice A a.items.length c)] w fun e W => e = .returned (.tuple #[.slice none 0 0, .int .i64 1]) ∧ Below w.heap.size w W := by
  have HMAY := Lib.hid (fun W (hW : Below w.heap.size w W) => amay_any a A c W (hr.below hW) hb hg)
  rw [hm] at HMAY
  obtain ⟨client, number, kind, order, region, to, n, good, items⟩ := a
  simp only at *
  obtain ⟨m, hm2⟩ : ∃ m, items.length = m := ⟨_, rfl⟩
  rw [hm2] at HMAY ⊢
  have k0 := block_new w (.cells #[.int .i64 client, .int .i64 number, .int .i64 kind, .int .i64 order, .int .i64 region, .int .i64 to, .int .i64 n, .string good, .slice A m c] 24)
  have kb := (Below.refl _ w).alloc (Nat.le_refl _) (.cells #[.int .i64 client, .int .i64 number, .int .i64 kind, .int .i64 order, .int .i64 region, .int .i64 to, .int .i64 n, .string good, .slice A m c] 24)
  obtain ⟨W2, hW2⟩ : ∃ W2, w.alloc (.cells #[.int .i64 client, .int .i64 number, .int .i64 kind, .int .i64 order, .int .i64 region, .int .i64 to, .int .i64 n, .string good, .slice A m c] 24) = W2 := ⟨_, rfl⟩
  rw [hW2] at k0 kb
  have HKB := Lib.hid kb
  have HWW := Lib.hid hW2
  have HCA : Hid (∀ W, Below W2.heap.size W2 W → W.heap[w.heap.size]? = some (.cells #[.int .i64 client, .int .i64 number, .int .i64 kind, .int .i64 order, .int .i64 region, .int .i64 to, .int .i64 n, .string good, .slice A m c] 24 (0, 0))) := Lib.hid (fun W hW => (hW.block _ (lt_of_block k0)).trans k0)
  clear k0 kb hW2 hr hb hg hm hm2
  have c0 := cell_at (HCA.out W2 (Below.refl _ _)) 0
  have c1 := cell_at (HCA.out W2 (Below.refl _ _)) 1
  have c2 := cell_at (HCA.out W2 (Below.refl _ _)) 2
  have c3 := cell_at (HCA.out W2 (Below.refl _ _)) 3
  have c4 := cell_at (HCA.out W2 (Below.refl _ _)) 4
  have c5 := cell_at (HCA.out W2 (Below.refl _ _)) 5
  have c6 := cell_at (HCA.out W2 (Below.refl _ _)) 6
  have c7 := cell_at (HCA.out W2 (Below.refl _ _)) 7
  have c8 := cell_at (HCA.out W2 (Below.refl _ _)) 8
  go_enter Try.func23, Try.ntmps23
  go_wp2_with fail
  rw [HWW.out]
  refine (HMAY.out W2 HKB.out).mono ?_
  rintro e w3 ⟨rfl, hb⟩
  have HB3 := Lib.hid hb
  clear c0 c1 c2 c3 c4 c5 c6 c7 c8
  clear hb
  go_wp2
  go_ret2
  exact ⟨rfl, HKB.out.trans (HB3.out.mono HKB.out.size)⟩
set_option maxRecDepth 100000 in
set_option maxHeartbeats 1000000 in
theorem aenc_ok (a : Ak) (A : Option Addr) (c : Nat) (w : World) (hr : Rd w 2 A a.items.length (a.items.flatMap encI)) (hb : BdL a.items) (hg : a.good.size ≤ 9223372036854775807) (hm : mayA a = true) :
    Calls Try.prog 23 #[akV a (.slice A a.items.length c)] w fun e W => ∃ v, e = .returned (.tuple #[v, .int .i64 0]) ∧ Bs W v (encA a) ∧ Below w.heap.size w W := by
  have HMAY := Lib.hid (fun W (hW : Below w.heap.size w W) => amay_any a A c W (hr.below hW) hb hg)
  rw [hm] at HMAY
  have HPUT := Lib.hid (fun w0 (hw0 : Below w.heap.size w w0) W p s (hs : s.length ≤ 900) (hM : Mk w0 p (s, false) W) => aput_any a A c w0 W p s hM (hr.below hw0) (mayA_lim hm) hs)
  have HLE := Lib.hid (bodyA_le (mayA_lim hm))
  have HEB := Lib.hid (encA_body a)
  have HI : Hid (I64 a.client ∧ I64 a.number) := Lib.hid (by obtain ⟨h1, h2, _⟩ := mayA_lim hm; unfold I64; omega)
  obtain ⟨EN, hEN⟩ : ∃ EN, encA a = EN := ⟨_, rfl⟩
  rw [hEN] at HEB ⊢
  obtain ⟨BO, hBO⟩ : ∃ BO, bodyA a = BO := ⟨_, rfl⟩
  rw [hBO] at HPUT HLE HEB
  obtain ⟨client, number, kind, order, region, to, n, good, items⟩ := a
  simp only at *
  obtain ⟨m, hm2⟩ : ∃ m, items.length = m := ⟨_, rfl⟩
  rw [hm2] at HMAY ⊢
  simp only [hm2] at HPUT
  have k0 := block_new w (.cells #[.int .i64 client, .int .i64 number, .int .i64 kind, .int .i64 order, .int .i64 region, .int .i64 to, .int .i64 n, .string good, .slice A m c] 24)
  have kb := (Below.refl _ w).alloc (Nat.le_refl _) (.cells #[.int .i64 client, .int .i64 number, .int .i64 kind, .int .i64 order, .int .i64 region, .int .i64 to, .int .i64 n, .string good, .slice A m c] 24)
  obtain ⟨W2, hW2⟩ : ∃ W2, w.alloc (.cells #[.int .i64 client, .int .i64 number, .int .i64 kind, .int .i64 order, .int .i64 region, .int .i64 to, .int .i64 n, .string good, .slice A m c] 24) = W2 := ⟨_, rfl⟩
  rw [hW2] at k0 kb
  have HKB := Lib.hid kb
  have HWW := Lib.hid hW2
  have HCA : Hid (∀ W, Below W2.heap.size W2 W → W.heap[w.heap.size]? = some (.cells #[.int .i64 client, .int .i64 number, .int .i64 kind, .int .i64 order, .int .i64 region, .int .i64 to, .int .i64 n, .string good, .slice A m c] 24 (0, 0))) := Lib.hid (fun W hW => (hW.block _ (lt_of_block k0)).trans k0)
  clear k0 kb hW2 hr hb hg hm hm2 hBO hEN
  have c0 := cell_at (HCA.out W2 (Below.refl _ _)) 0
  have c1 := cell_at (HCA.out W2 (Below.refl _ _)) 1
  have c2 := cell_at (HCA.out W2 (Below.refl _ _)) 2
  have c3 := cell_at (HCA.out W2 (Below.refl _ _)) 3
  have c4 := cell_at (HCA.out W2 (Below.refl _ _)) 4
  have c5 := cell_at (HCA.out W2 (Below.refl _ _)) 5
  have c6 := cell_at (HCA.out W2 (Below.refl _ _)) 6
  have c7 := cell_at (HCA.out W2 (Below.refl _ _)) 7
  have c8 := cell_at (HCA.out W2 (Below.refl _ _)) 8
  go_enter Try.func23, Try.ntmps23
  go_wp2_with fail
  rw [HWW.out]
  refine (HMAY.out W2 HKB.out).mono ?_
  rintro e w3 ⟨rfl, hb⟩
  have HB3 := Lib.hid hb
  clear c0 c1 c2 c3 c4 c5 c6 c7 c8
  clear hb
  go_wp2_with fail
  refine wp_region_flow (fun W => Below W2.heap.size W2 W) [1, 2, 4, 5, 0, 3, 6, 7] (by kernel_rfl) (by kernel_rfl) (by kernel_rfl) (HB3.out.drew) ?_
  refine flow_val ?_ rfl (by kernel_rfl) (by rfl) (fun W hW => ?_) ?_
  rotate_left 1
  · go_simp <;> with_reducible rfl
  simp only [puts]
  refine flow_val ?_ rfl (by kernel_rfl) (by rfl) (fun W hW => ?_) ?_
  rotate_left 1
  · have c0 := cell_at (HCA.out W hW) 0; go_simp <;> with_reducible rfl
  simp only [puts]
  refine flow_val ?_ rfl (by kernel_rfl) (by rfl) (fun W hW => ?_) ?_
  rotate_left 1
  · go_simp <;> with_reducible rfl
  simp only [puts]
  refine flow_val ?_ rfl (by kernel_rfl) (by rfl) (fun W hW => ?_) ?_
  rotate_left 1
  · have c1 := cell_at (HCA.out W hW) 1; go_simp <;> with_reducible rfl
  simp only [puts]
  refine flow_gcall (fun v W => ∃ p, v = .pointer (some ⟨p, 0, none⟩) ∧ Mk W2 p ([], false) W) rfl (by kernel_rfl) (by rfl) (by kernel_rfl) (fun W hW hC => ⟨_, _, _, by go_simp, (mk_new hW).mono fun e w1 hh => ⟨_, hh.1, hh.2.below, _, rfl, hh.2⟩⟩) ?_
  rintro v8 ⟨_, _, pm, rfl, _⟩
  simp only [puts]
  refine flow_turn (.pointer (some ⟨pm, 0, none⟩)) (fun W => Mk W2 pm (putS ([], false) (numB client)) W) rfl (by kernel_rfl) (by rfl) (by kernel_rfl) (fun W hW hC => ?_) ?_
  · have hM : Mk W2 pm ([], false) W := by
      obtain ⟨g2, e2, h2⟩ := hC
      cases e2
      exact h2
    refine ⟨_, _, _, by go_simp, (mk_num hM client HI.out.1).mono fun e w1 hh => ⟨hh.1, ⟨hh.2.below, trivial⟩, hh.2⟩⟩
  simp only [puts]
  refine flow_turn (.pointer (some ⟨pm, 0, none⟩)) (fun W => Mk W2 pm (putS (putS ([], false) (numB client)) (numB number)) W) rfl (by kernel_rfl) (by rfl) (by kernel_rfl) (fun W hW hC => ⟨_, _, _, by go_simp, (mk_num hC number HI.out.2).mono fun e w1 hh => ⟨hh.1, ⟨⟨hh.2.below, trivial⟩, trivial⟩, hh.2⟩⟩) ?_
  simp only [puts]
  refine flow_val ?_ rfl (by kernel_rfl) (by rfl) (fun W hW => ?_) ?_
  rotate_left 1
  · go_simp <;> with_reducible rfl
  simp only [puts]
  refine flow_done2 ?_
  intro W hW hC
  have hn1 := numB_le9 client
  have hn2 := numB_le9 number
  rw [putS_app (s := []) (by simp; omega), List.nil_append, putS_app (by omega)] at hC
  have HM := Lib.hid hC
  obtain ⟨w4, hw4⟩ : ∃ w4, w4 = W := ⟨_, rfl⟩
  subst hw4
  have HLN : Hid ((numB client ++ numB number).length ≤ 18) := Lib.hid (by rw [List.length_append]; omega)
  clear hC hW hn1 hn2
  have c0 := cell_at (HCA.out w4 HM.out.below) 0
  have c1 := cell_at (HCA.out w4 HM.out.below) 1
  have c2 := cell_at (HCA.out w4 HM.out.below) 2
  have c3 := cell_at (HCA.out w4 HM.out.below) 3
  have c4 := cell_at (HCA.out w4 HM.out.below) 4
  have c5 := cell_at (HCA.out w4 HM.out.below) 5
  have c6 := cell_at (HCA.out w4 HM.out.below) 6
  have c7 := cell_at (HCA.out w4 HM.out.below) 7
  have c8 := cell_at (HCA.out w4 HM.out.below) 8
  go_wp2_with fail
  refine (HPUT.out W2 HKB.out w4 pm _ (by have := HLN.out; omega) HM.out).mono ?_
  rintro e w5 ⟨rfl, hM⟩
  rw [List.append_assoc, ← HEB.out] at hM
  have HM5 := Lib.hid hM
  have HLE2 : Hid (EN.length ≤ 700) := Lib.hid (by rw [HEB.out]; have h1 := HLE.out; have h2 := HLN.out; simp only [List.length_append] at *; omega)
  clear c0 c1 c2 c3 c4 c5 c6 c7 c8
  clear hM
  go_wp2_with fail
  refine (mk_done HM5.out (by have := HLE2.out; simp only; omega)).mono ?_
  rintro e w6 ⟨v, rfl, hv, _, _, hM⟩
  simp only [Bool.false_eq_true, if_false] at hv ⊢
  have HV := Lib.hid hv
  have HM6 := Lib.hid hM
  clear hv hM
  go_wp2
  go_ret2
  exact ⟨_, rfl, HV.out, HKB.out.trans (HM6.out.below.mono HKB.out.size)⟩
end Go.Proofs.Ytpccbobomppdbaa

namespace Go.Proofs.Ytpccbobomppdbaa
open Go.RowKit

theorem Mk.set {w W : World} {p px : Nat} {s : List Nat × Bool} (h : Mk w p s W) {cs : Array Value} {T : TypeId} {f : Nat × Nat} (hx : W.heap[px]? = some (.cells cs T f)) (h5 : T ≠ 88) (h6 : T ≠ 5) (hl : w.heap.size ≤ px) (i : Nat) (u : Value) : Mk w p s (W.setCell ⟨px, i, none⟩ u) := by
  obtain ⟨G, h1, h2, h3, h4⟩ := h
  have f : Fr 0 [] [px] W (W.setCell ⟨px, i, none⟩ u) := (Fr.refl W).setCell (p := ⟨px, i, none⟩) _ (Nat.zero_le _) (.inl (by simp))
  refine ⟨G, h1.keep f (fun hm => ?_) (fun g hg hm => ?_), h2, h3, h4.trans (f.belowT hl h4.size)⟩
  · obtain ⟨v, hp, _⟩ := h1
    simp at hm
    subst hm
    rw [hx] at hp
    injection hp with hp
    injection hp with _ hp
    exact h5 hp
  · obtain ⟨v, _, ho, hv⟩ := h1
    simp at hm
    subst hm
    obtain ⟨_, cs', hb⟩ := own_block ho (k := g) (by rw [hv]; exact hg)
    rw [hx] at hb
    injection hb with hb
    injection hb with _ hb
    exact h6 hb
/-- The same, where two values tell the state at the end. -/
theorem wp_region_mid2 {P : Program} {ops : Array Oper} {Q : Exit → Act → World → Prop} {id : Nat} {a : Act} {w : World} {α β : Type} {M : α → β → World → Prop} {tm : α → β → Act} (hm : P.follows .mixedOrders = true)
    (h : RegOK Fence.wide 9 P ops (fun x a w => x = .normal ∧ (∃ p q, a = tm p q ∧ M p q w) ∨ x ≠ .normal ∧ Q x a w) a w.drew) (hk : ∀ p q w, M p q w → Q .normal (tm p q) w) : (Code.region id ops true).wp P Q a w :=
  (wpIn_wide (n := 9)).1 (region_mid (fun a w => ∃ p q, a = tm p q ∧ M p q w) hm h fun a w hx => by
    obtain ⟨p, q, rfl, hx⟩ := hx
    exact hk p q w hx)
/-- What holds where the maker has been made: the variable at px names it. -/
def PkM (w : World) (s : List Nat × Bool) (pm px : Nat) (W : World) : Prop := Mk w pm s W ∧ W.heap[px]? = some (.cells #[.pointer (some ⟨pm, 0, none⟩)] 47 (0, 0)) ∧ w.heap.size ≤ px
theorem pkM_own {w : World} {s : List Nat × Bool} {pm px B : Nat} (hB : w.heap.size ≤ B) {W W' : World} {row : Option Nat} (h : PkM w s pm px W) (hg : W.grownBy W' row) (hr : ∀ r, row = some r → B ≤ r ∧ ∃ o : Obj, W.heap[r]? = some o ∧ o.isCells = false) : PkM w s pm px W' := by
  have hr' : ∀ r, row = some r → ∃ o : Obj, W.heap[r]? = some o ∧ o.isCells = false := fun r e => (hr r e).2
  obtain ⟨⟨G, ⟨v, h1, h2, h3⟩, h4, h5, h6⟩, h7, h8⟩ := h
  exact ⟨⟨G, ⟨v, block_grown h1 hg hr', own_grown h2 hg hr', h3⟩, h4, h5, h6.grown hg h6.size (fun k e => Nat.le_trans hB (hr k e).1)⟩, block_grown h7 hg hr', h8⟩
end Go.Proofs.Ytpccbobomppdbaa

namespace Go.Proofs.Ytpccbobomppdbaa
open Go.RowKit

theorem txtM_y (k : Int) : ((txtM k).toList == [121]) = hasM k 121 := by
  unfold txtM hasM
  have h := fldM_cases k
  generalize fldM k = l at h
  simp only [List.mem_cons, List.not_mem_nil, or_false] at h
  rcases h with rfl | rfl | rfl | rfl | rfl <;> decide +kernel
end Go.Proofs.Ytpccbobomppdbaa
