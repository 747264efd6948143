/- Joined: ask.Encode. A variable that names a maker. Whether a kind has an answer, as its text tells. -/
import Derived.Test.YtpccbobomppdbaaZM19
import Derived.Test.YtpccbobomppdbaaZM7
import Derived.Test.YtpccbobomppdbaaZM12
namespace Go.Proofs.Ytpccbobomppdbaa
open Go.RowKit

theorem bs_nilA (w : World) : Bs w (.slice none 0 0) [] := ⟨none, 0, rfl, Nat.le_refl _, Nat.zero_le _, Rd.nil⟩
theorem bodyA_le {a : Ak} (h : LimA a) : (bodyA a).length ≤ 641 := by
  have h1 := encA_le h
  rw [encA_body] at h1
  simp only [List.length_append] at h1
  omega
set_option maxRecDepth 100000 in
set_option maxHeartbeats 1000000 in
theorem aenc_no (a : Ak) (A : Option Addr) (c : Nat) (w : World) (hr : Rd w 2 A a.items.length (a.items.flatMap encI)) (hb : BdL a.items) (hg : a.good.size ≤ 9223372036854775807) (hm : mayA a = false) :
    Calls Try.prog 23 #[akV a (.slice A a.items.length c)] w fun e W => e = .returned (.tuple #[.slice none 0 0, .int .i64 1]) ∧ Below w.heap.size w W := by
  have HMAY := Lib.hid (fun W (hW : Below w.heap.size w W) => amay_any a A c W (hr.below hW) hb hg)
  rw [hm] at HMAY
  obtain ⟨client, number, kind, order, region, to, n, good, items⟩ := a
  simp only at *
  obtain ⟨m, hm2⟩ : ∃ m, items.length = m := ⟨_, rfl⟩
  rw [hm2] at HMAY ⊢
  have k0 := block_new w (.cells #[.int .i64 client, .int .i64 number, .int .i64 kind, .int .i64 order, .int .i64 region, .int .i64 to, .int .i64 n, .string good, .slice A m c] 24)
  have kb := (Below.refl _ w).alloc (Nat.le_refl _) (.cells #[.int .i64 client, .int .i64 number, .int .i64 kind, .int .i64 order, .int .i64 region, .int .i64 to, .int .i64 n, .string good, .slice A m c] 24)
  obtain ⟨W2, hW2⟩ : ∃ W2, w.alloc (.cells #[.int .i64 client, .int .i64 number, .int .i64 kind, .int .i64 order, .int .i64 region, .int .i64 to, .int .i64 n, .string good, .slice A m c] 24) = W2 := ⟨_, rfl⟩
  rw [hW2] at k0 kb
  have HKB := Lib.hid kb
  have HWW := Lib.hid hW2
  have HCA : Hid (∀ W, Below W2.heap.size W2 W → W.heap[w.heap.size]? = some (.cells #[.int .i64 client, .int .i64 number, .int .i64 kind, .int .i64 order, .int .i64 region, .int .i64 to, .int .i64 n, .string good, .slice A m c] 24 (0, 0))) := Lib.hid (fun W hW => (hW.block _ (lt_of_block k0)).trans k0)
  clear k0 kb hW2 hr hb hg hm hm2
  have c0 := cell_at (HCA.out W2 (Below.refl _ _)) 0
  have c1 := cell_at (HCA.out W2 (Below.refl _ _)) 1
  have c2 := cell_at (HCA.out W2 (Below.refl _ _)) 2
  have c3 := cell_at (HCA.out W2 (Below.refl _ _)) 3
  have c4 := cell_at (HCA.out W2 (Below.refl _ _)) 4
  have c5 := cell_at (HCA.out W2 (Below.refl _ _)) 5
  have c6 := cell_at (HCA.out W2 (Below.refl _ _)) 6
  have c7 := cell_at (HCA.out W2 (Below.refl _ _)) 7
  have c8 := cell_at (HCA.out W2 (Below.refl _ _)) 8
  go_enter Try.func23, Try.ntmps23
  go_wp2_with fail
  rw [HWW.out]
  refine (HMAY.out W2 HKB.out).mono ?_
  rintro e w3 ⟨rfl, hb⟩
  have HB3 := Lib.hid hb
  clear c0 c1 c2 c3 c4 c5 c6 c7 c8
  clear hb
  go_wp2
  go_ret2
  exact ⟨rfl, HKB.out.trans (HB3.out.mono HKB.out.size)⟩
set_option maxRecDepth 100000 in
set_option maxHeartbeats 1000000 in
theorem aenc_ok (a : Ak) (A : Option Addr) (c : Nat) (w : World) (hr : Rd w 2 A a.items.length (a.items.flatMap encI)) (hb : BdL a.items) (hg : a.good.size ≤ 9223372036854775807) (hm : mayA a = true) :
    Calls Try.prog 23 #[akV a (.slice A a.items.length c)] w fun e W => ∃ v, e = .returned (.tuple #[v, .int .i64 0]) ∧ Bs W v (encA a) ∧ Below w.heap.size w W := by
  have HMAY := Lib.hid (fun W (hW : Below w.heap.size w W) => amay_any a A c W (hr.below hW) hb hg)
  rw [hm] at HMAY
  have HPUT := Lib.hid (fun w0 (hw0 : Below w.heap.size w w0) W p s (hs : s.length ≤ 900) (hM : Mk w0 p (s, false) W) => aput_any a A c w0 W p s hM (hr.below hw0) (mayA_lim hm) hs)
  have HLE := Lib.hid (bodyA_le (mayA_lim hm))
  have HEB := Lib.hid (encA_body a)
  have HI : Hid (I64 a.client ∧ I64 a.number) := Lib.hid (by obtain ⟨h1, h2, _⟩ := mayA_lim hm; unfold I64; omega)
  obtain ⟨EN, hEN⟩ : ∃ EN, encA a = EN := ⟨_, rfl⟩
  rw [hEN] at HEB ⊢
  obtain ⟨BO, hBO⟩ : ∃ BO, bodyA a = BO := ⟨_, rfl⟩
  rw [hBO] at HPUT HLE HEB
  obtain ⟨client, number, kind, order, region, to, n, good, items⟩ := a
  simp only at *
  obtain ⟨m, hm2⟩ : ∃ m, items.length = m := ⟨_, rfl⟩
  rw [hm2] at HMAY ⊢
  simp only [hm2] at HPUT
  have k0 := block_new w (.cells #[.int .i64 client, .int .i64 number, .int .i64 kind, .int .i64 order, .int .i64 region, .int .i64 to, .int .i64 n, .string good, .slice A m c] 24)
  have kb := (Below.refl _ w).alloc (Nat.le_refl _) (.cells #[.int .i64 client, .int .i64 number, .int .i64 kind, .int .i64 order, .int .i64 region, .int .i64 to, .int .i64 n, .string good, .slice A m c] 24)
  obtain ⟨W2, hW2⟩ : ∃ W2, w.alloc (.cells #[.int .i64 client, .int .i64 number, .int .i64 kind, .int .i64 order, .int .i64 region, .int .i64 to, .int .i64 n, .string good, .slice A m c] 24) = W2 := ⟨_, rfl⟩
  rw [hW2] at k0 kb
  have HKB := Lib.hid kb
  have HWW := Lib.hid hW2
  have HCA : Hid (∀ W, Below W2.heap.size W2 W → W.heap[w.heap.size]? = some (.cells #[.int .i64 client, .int .i64 number, .int .i64 kind, .int .i64 order, .int .i64 region, .int .i64 to, .int .i64 n, .string good, .slice A m c] 24 (0, 0))) := Lib.hid (fun W hW => (hW.block _ (lt_of_block k0)).trans k0)
  clear k0 kb hW2 hr hb hg hm hm2 hBO hEN
  have c0 := cell_at (HCA.out W2 (Below.refl _ _)) 0
  have c1 := cell_at (HCA.out W2 (Below.refl _ _)) 1
  have c2 := cell_at (HCA.out W2 (Below.refl _ _)) 2
  have c3 := cell_at (HCA.out W2 (Below.refl _ _)) 3
  have c4 := cell_at (HCA.out W2 (Below.refl _ _)) 4
  have c5 := cell_at (HCA.out W2 (Below.refl _ _)) 5
  have c6 := cell_at (HCA.out W2 (Below.refl _ _)) 6
  have c7 := cell_at (HCA.out W2 (Below.refl _ _)) 7
  have c8 := cell_at (HCA.out W2 (Below.refl _ _)) 8
  go_enter Try.func23, Try.ntmps23
  go_wp2_with fail
  rw [HWW.out]
  refine (HMAY.out W2 HKB.out).mono ?_
  rintro e w3 ⟨rfl, hb⟩
  have HB3 := Lib.hid hb
  clear c0 c1 c2 c3 c4 c5 c6 c7 c8
  clear hb
  go_wp2_with fail
  refine wp_region_flow (fun W => Below W2.heap.size W2 W) [1, 2, 4, 5, 0, 3, 6, 7] (by kernel_rfl) (by kernel_rfl) (by kernel_rfl) (HB3.out.drew) ?_
  refine flow_val ?_ rfl (by kernel_rfl) (by rfl) (fun W hW => ?_) ?_
  rotate_left 1
  · go_simp <;> with_reducible rfl
  simp only [Act.put, List.setIfInBounds_toArray, List.set_cons_succ, List.set_cons_zero]
  refine flow_val ?_ rfl (by kernel_rfl) (by rfl) (fun W hW => ?_) ?_
  rotate_left 1
  · have c0 := cell_at (HCA.out W hW) 0; go_simp <;> with_reducible rfl
  simp only [Act.put, List.setIfInBounds_toArray, List.set_cons_succ, List.set_cons_zero]
  refine flow_val ?_ rfl (by kernel_rfl) (by rfl) (fun W hW => ?_) ?_
  rotate_left 1
  · go_simp <;> with_reducible rfl
  simp only [Act.put, List.setIfInBounds_toArray, List.set_cons_succ, List.set_cons_zero]
  refine flow_val ?_ rfl (by kernel_rfl) (by rfl) (fun W hW => ?_) ?_
  rotate_left 1
  · have c1 := cell_at (HCA.out W hW) 1; go_simp <;> with_reducible rfl
  simp only [Act.put, List.setIfInBounds_toArray, List.set_cons_succ, List.set_cons_zero]
  refine flow_gcall (fun v W => ∃ p, v = .pointer (some ⟨p, 0, none⟩) ∧ Mk W2 p ([], false) W) rfl (by kernel_rfl) (by rfl) (by kernel_rfl) (fun W hW hC => ⟨_, _, _, by go_simp, (mk_new hW).mono fun e w1 hh => ⟨_, hh.1, hh.2.below, _, rfl, hh.2⟩⟩) ?_
  rintro v8 ⟨_, _, pm, rfl, _⟩
  simp only [Act.put, List.setIfInBounds_toArray, List.set_cons_succ, List.set_cons_zero]
  refine flow_turn (.pointer (some ⟨pm, 0, none⟩)) (fun W => Mk W2 pm (putS ([], false) (numB client)) W) rfl (by kernel_rfl) (by rfl) (by kernel_rfl) (fun W hW hC => ?_) ?_
  · have hM : Mk W2 pm ([], false) W := by
      obtain ⟨g2, e2, h2⟩ := hC
      cases e2
      exact h2
    refine ⟨_, _, _, by go_simp, (mk_num hM client HI.out.1).mono fun e w1 hh => ⟨hh.1, ⟨hh.2.below, trivial⟩, hh.2⟩⟩
  simp only [Act.put, List.setIfInBounds_toArray, List.set_cons_succ, List.set_cons_zero]
  refine flow_turn (.pointer (some ⟨pm, 0, none⟩)) (fun W => Mk W2 pm (putS (putS ([], false) (numB client)) (numB number)) W) rfl (by kernel_rfl) (by rfl) (by kernel_rfl) (fun W hW hC => ⟨_, _, _, by go_simp, (mk_num hC number HI.out.2).mono fun e w1 hh => ⟨hh.1, ⟨⟨hh.2.below, trivial⟩, trivial⟩, hh.2⟩⟩) ?_
  simp only [Act.put, List.setIfInBounds_toArray, List.set_cons_succ, List.set_cons_zero]
  refine flow_val ?_ rfl (by kernel_rfl) (by rfl) (fun W hW => ?_) ?_
  rotate_left 1
  · go_simp <;> with_reducible rfl
  simp only [Act.put, List.setIfInBounds_toArray, List.set_cons_succ, List.set_cons_zero]
  refine flow_done2 ?_
  intro W hW hC
  have hn1 := numB_le9 client
  have hn2 := numB_le9 number
  rw [putS_app (s := []) (by simp; omega), List.nil_append, putS_app (by omega)] at hC
  have HM := Lib.hid hC
  obtain ⟨w4, hw4⟩ : ∃ w4, w4 = W := ⟨_, rfl⟩
  subst hw4
  have HLN : Hid ((numB client ++ numB number).length ≤ 18) := Lib.hid (by rw [List.length_append]; omega)
  clear hC hW hn1 hn2
  have c0 := cell_at (HCA.out w4 HM.out.below) 0
  have c1 := cell_at (HCA.out w4 HM.out.below) 1
  have c2 := cell_at (HCA.out w4 HM.out.below) 2
  have c3 := cell_at (HCA.out w4 HM.out.below) 3
  have c4 := cell_at (HCA.out w4 HM.out.below) 4
  have c5 := cell_at (HCA.out w4 HM.out.below) 5
  have c6 := cell_at (HCA.out w4 HM.out.below) 6
  have c7 := cell_at (HCA.out w4 HM.out.below) 7
  have c8 := cell_at (HCA.out w4 HM.out.below) 8
  go_wp2_with fail
  refine (HPUT.out W2 HKB.out w4 pm _ (by have := HLN.out; omega) HM.out).mono ?_
  rintro e w5 ⟨rfl, hM⟩
  rw [List.append_assoc, ← HEB.out] at hM
  have HM5 := Lib.hid hM
  have HLE2 : Hid (EN.length ≤ 700) := Lib.hid (by rw [HEB.out]; have h1 := HLE.out; have h2 := HLN.out; simp only [List.length_append] at *; omega)
  clear c0 c1 c2 c3 c4 c5 c6 c7 c8
  clear hM
  go_wp2_with fail
  refine (mk_done HM5.out (by have := HLE2.out; simp only; omega)).mono ?_
  rintro e w6 ⟨v, rfl, hv, _, _, hM⟩
  simp only [Bool.false_eq_true, if_false] at hv ⊢
  have HV := Lib.hid hv
  have HM6 := Lib.hid hM
  clear hv hM
  go_wp2
  go_ret2
  exact ⟨_, rfl, HV.out, HKB.out.trans (HM6.out.below.mono HKB.out.size)⟩
end Go.Proofs.Ytpccbobomppdbaa

namespace Go.Proofs.Ytpccbobomppdbaa
open Go.RowKit

theorem Mk.set {w W : World} {p px : Nat} {s : List Nat × Bool} (h : Mk w p s W) {cs : Array Value} {T : TypeId} {f : Nat × Nat} (hx : W.heap[px]? = some (.cells cs T f)) (h5 : T ≠ 88) (h6 : T ≠ 5) (hl : w.heap.size ≤ px) (i : Nat) (u : Value) : Mk w p s (W.setCell ⟨px, i, none⟩ u) := by
  obtain ⟨G, h1, h2, h3, h4⟩ := h
  have f : Fr 0 [] [px] W (W.setCell ⟨px, i, none⟩ u) := (Fr.refl W).setCell (p := ⟨px, i, none⟩) _ (Nat.zero_le _) (.inl (by simp))
  refine ⟨G, h1.keep f (fun hm => ?_) (fun g hg hm => ?_), h2, h3, h4.trans (f.belowT hl h4.size)⟩
  · obtain ⟨v, hp, _⟩ := h1
    simp at hm
    subst hm
    rw [hx] at hp
    injection hp with hp
    injection hp with _ hp
    exact h5 hp
  · obtain ⟨v, _, ho, hv⟩ := h1
    simp at hm
    subst hm
    obtain ⟨_, cs', hb⟩ := own_block ho (k := g) (by rw [hv]; exact hg)
    rw [hx] at hb
    injection hb with hb
    injection hb with _ hb
    exact h6 hb
/-- The same, where two values tell the state at the end. -/
theorem wp_region_mid2 {P : Program} {ops : Array Oper} {Q : Exit → Act → World → Prop} {id : Nat} {a : Act} {w : World} {α β : Type} {M : α → β → World → Prop} {tm : α → β → Act} (hm : P.follows .mixedOrders = true)
    (h : RegOK Fence.wide 9 P ops (fun x a w => x = .normal ∧ (∃ p q, a = tm p q ∧ M p q w) ∨ x ≠ .normal ∧ Q x a w) a w.drew) (hk : ∀ p q w, M p q w → Q .normal (tm p q) w) : (Code.region id ops true).wp P Q a w :=
  (wpIn_wide (n := 9)).1 (region_mid (fun a w => ∃ p q, a = tm p q ∧ M p q w) hm h fun a w hx => by
    obtain ⟨p, q, rfl, hx⟩ := hx
    exact hk p q w hx)
/-- What holds where the maker has been made: the variable at px names it. -/
def PkM (w : World) (s : List Nat × Bool) (pm px : Nat) (W : World) : Prop := Mk w pm s W ∧ W.heap[px]? = some (.cells #[.pointer (some ⟨pm, 0, none⟩)] 47 (0, 0)) ∧ w.heap.size ≤ px
theorem pkM_own {w : World} {s : List Nat × Bool} {pm px B : Nat} (hB : w.heap.size ≤ B) {W W' : World} {row : Option Nat} (h : PkM w s pm px W) (hg : W.grownBy W' row) (hr : ∀ r, row = some r → B ≤ r ∧ ∃ o : Obj, W.heap[r]? = some o ∧ o.isCells = false) : PkM w s pm px W' := by
  have hr' : ∀ r, row = some r → ∃ o : Obj, W.heap[r]? = some o ∧ o.isCells = false := fun r e => (hr r e).2
  obtain ⟨⟨G, ⟨v, h1, h2, h3⟩, h4, h5, h6⟩, h7, h8⟩ := h
  exact ⟨⟨G, ⟨v, block_grown h1 hg hr', own_grown h2 hg hr', h3⟩, h4, h5, h6.grown hg h6.size (fun k e => Nat.le_trans hB (hr k e).1)⟩, block_grown h7 hg hr', h8⟩
end Go.Proofs.Ytpccbobomppdbaa

namespace Go.Proofs.Ytpccbobomppdbaa
open Go.RowKit

theorem txtM_y (k : Int) : ((txtM k).toList == [121]) = hasM k 121 := by
  unfold txtM hasM
  have h := fldM_cases k
  generalize fldM k = l at h
  simp only [List.mem_cons, List.not_mem_nil, or_false] at h
  rcases h with rfl | rfl | rfl | rfl | rfl <;> decide +kernel
end Go.Proofs.Ytpccbobomppdbaa
