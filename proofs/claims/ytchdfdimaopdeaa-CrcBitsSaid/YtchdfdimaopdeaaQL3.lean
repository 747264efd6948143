/- The walk of the law CrcBits. -/
import Derived.Test.YtchdfdimaopdeaaQLives
namespace Go.Proofs.Ytchdfdimaopdeaa
open Go.RowKit

theorem own_set1 {W : World} {B e g n c i : Nat} {xs : List Value} (h : W.ownsRow B e 1 (.slice (some ⟨g, 0, none⟩) n c) n xs) (u : Value) : (W.setCell ⟨g, i, none⟩ u).ownsRow B e 1 (.slice (some ⟨g, 0, none⟩) n c) n (xs.set i u) := by
  refine ⟨by rw [List.length_set]; exact h.1, ?_⟩
  rcases h.2 with ⟨h1, _⟩ | ⟨g', cap, cur, h1, h2, h3, h4, h5, h6, h7⟩
  · cases h1
  · injection h1 with e1 e2 e3
    injection e1 with e1
    injection e1 with e1
    subst e1; subst e3
    refine .inr ⟨g, c, _, rfl, h2, block_set h3 i u, h4, h5, by simpa using h6, ?_⟩
    rw [← h7, Array.toList_setIfInBounds, List.take_set]
theorem own_cell {W : World} {B e g n c i : Nat} {xs : List Value} (h : W.ownsRow B e 1 (.slice (some ⟨g, 0, none⟩) n c) n xs) (hi : i < n) : W.cell? ⟨g, i, none⟩ = xs[i]? ∧ W.frozen? ⟨g, i, none⟩ = false := by
  rcases h.2 with ⟨h1, _⟩ | ⟨g', cap, cur, h1, h2, h3, h4, h5, h6, h7⟩
  · cases h1
  · injection h1 with e1 e2 e3
    injection e1 with e1
    injection e1 with e1
    subst e1
    refine ⟨?_, frozen_at h3 i⟩
    rw [cell_at h3, ← h7, List.getElem?_take, if_pos (by omega), Array.getElem?_toList]
/-- The bytes behind k changes. -/
def modN (bs : List Nat) (a o : Nat) : Nat → List Nat
  | 0 => bs
  | k + 1 => (modN bs a o k).set (a + k) (bs.getD (a + k) 0 ^^^ (o / 256 ^ k % 256))
theorem modN_length (bs : List Nat) (a o : Nat) : ∀ k, (modN bs a o k).length = bs.length
  | 0 => rfl
  | k + 1 => by rw [modN, List.length_set, modN_length bs a o k]
theorem modN_get (bs : List Nat) (a o : Nat) : ∀ k j, k ≤ j → (modN bs a o k)[a + j]? = bs[a + j]?
  | 0, _, _ => rfl
  | k + 1, j, h => by rw [modN, List.getElem?_set_ne (by omega), modN_get bs a o k j (by omega)]
theorem four_of {bs : List Nat} {a : Nat} (h : a + 4 ≤ bs.length) : ∃ b0 b1 b2 b3 r, bs = bs.take a ++ [b0, b1, b2, b3] ++ r := by
  refine ⟨bs[a], bs[a + 1], bs[a + 2], bs[a + 3], bs.drop (a + 4), ?_⟩
  have h1 : bs.drop a = bs[a] :: bs[a + 1] :: bs[a + 2] :: bs[a + 3] :: bs.drop (a + 4) := by
    rw [List.drop_eq_getElem_cons (show a < bs.length by omega), List.drop_eq_getElem_cons (show a + 1 < bs.length by omega), List.drop_eq_getElem_cons (show a + 1 + 1 < bs.length by omega), List.drop_eq_getElem_cons (show a + 1 + 1 + 1 < bs.length by omega)]
  have h2 := List.take_append_drop a bs
  rw [h1] at h2
  rw [List.append_assoc]
  exact h2.symm
theorem modN_four {bs : List Nat} {a : Nat} (h : a + 4 ≤ bs.length) (o : Nat) : ∃ b0 b1 b2 b3 p r, p.length = a ∧ bs = p ++ [b0, b1, b2, b3] ++ r ∧ modN bs a o 4 = p ++ [b0 ^^^ (o % 256), b1 ^^^ (o / 256 % 256), b2 ^^^ (o / 65536 % 256), b3 ^^^ (o / 16777216 % 256)] ++ r := by
  obtain ⟨b0, b1, b2, b3, r, hbs⟩ := four_of h
  have hp : (bs.take a).length = a := by rw [List.length_take]; omega
  generalize hpe : bs.take a = p at hbs hp
  refine ⟨b0, b1, b2, b3, p, r, hp, hbs, ?_⟩
  clear hpe h
  subst hbs
  subst hp
  have g : ∀ k, (p ++ [b0, b1, b2, b3] ++ r).getD (p.length + k) 0 = ([b0, b1, b2, b3] ++ r).getD k 0 := by
    intro k
    rw [List.append_assoc, List.getD_eq_getElem?_getD, List.getD_eq_getElem?_getD, List.getElem?_append_right (by omega), Nat.add_sub_cancel_left]
  have st : ∀ (l : List Nat) k x, (p ++ l).set (p.length + k) x = p ++ l.set k x := by
    intro l k x
    rw [List.set_append_right _ _ (by omega), Nat.add_sub_cancel_left]
  simp only [modN, g]
  rw [List.append_assoc, st, st, st, st]
  simp

theorem changed {s o a : Nat} {bs : List Nat} (hb : ∀ b ∈ bs, b < 256) (h : a + 4 ≤ bs.length) (ho : o < 4294967296) (h0 : o ≠ 0) : onN s bs ≠ onN s (modN bs a o 4) := by
  obtain ⟨b0, b1, b2, b3, p, r, _, e1, e2⟩ := modN_four h o
  rw [e2]
  have hm : ∀ x, x ∈ p ∨ x ∈ [b0, b1, b2, b3] ∨ x ∈ r → x < 256 := by
    intro x hx
    refine hb x ?_
    rw [e1, List.append_assoc]
    rcases hx with hx | hx | hx <;> simp only [List.mem_append] <;> simp [hx]
  have := onN_bits s p [b0, b1, b2, b3] r b0 b1 b2 b3 (o % 256) (o / 256 % 256) (o / 65536 % 256) (o / 16777216 % 256) (by omega) (by omega) (by omega) (by omega) rfl
    ⟨hm _ (by simp), hm _ (by simp), hm _ (by simp), hm _ (by simp)⟩ (fun x hx => hm x (.inl hx)) (fun x hx => hm x (.inr (.inr hx))) (by omega)
  rwa [← e1] at this
theorem modN_byte {bs : List Nat} (hb : ∀ b ∈ bs, b < 256) {a o : Nat} (h : a + 4 ≤ bs.length) : ∀ b ∈ modN bs a o 4, b < 256 := by
  obtain ⟨b0, b1, b2, b3, p, r, _, e1, e2⟩ := modN_four h o
  rw [e2]
  have hm : ∀ x, x ∈ p ∨ x ∈ [b0, b1, b2, b3] ∨ x ∈ r → x < 256 := by
    intro x hx
    refine hb x ?_
    rw [e1, List.append_assoc]
    rcases hx with hx | hx | hx <;> simp only [List.mem_append] <;> simp [hx]
  intro b hx
  simp only [List.mem_append] at hx
  rcases hx with (hx | hx) | hx
  · exact hm b (.inl hx)
  · have k0 := hm b0 (by simp)
    have k1 := hm b1 (by simp)
    have k2 := hm b2 (by simp)
    have k3 := hm b3 (by simp)
    simp at hx
    rcases hx with rfl | rfl | rfl | rfl <;> exact xor_lt8 (by assumption) (by omega)
  · exact hm b (.inr (.inr hx))

set_option maxRecDepth 100000 in
set_option maxHeartbeats 800000 in
theorem bits_short (s : Nat) (A : Option Addr) (c : Nat) (bs : List Nat) (a : Int) (o : Nat) (w : World) (h : bs.length < 4) : Calls Try.prog 5 #[.int .u32 s, .slice A bs.length c, .int .i64 a, .int .u32 o] w fun e w' => e = .returned (.bool true) ∧ Below w.heap.size w w' := by
  obtain ⟨n, hn⟩ : ∃ n, bs.length = n := ⟨_, rfl⟩
  simp only [hn] at h ⊢
  clear hn
  have h' : (n : Int) < 4 := by omega
  go_enter Try.func5, Try.ntmps5
  go_wp2_with fail
  refine (lives_any _).mono ?_
  rintro e w1 ⟨rfl, hb1⟩
  go_wp2
  go_ret
  exact ⟨rfl, hb1⟩

set_option maxRecDepth 100000 in
set_option maxHeartbeats 800000 in
theorem bits_neg (s : Nat) (A : Option Addr) (c : Nat) (bs : List Nat) (a : Int) (o : Nat) (w : World) (hm : bs.length ≤ 140737488351232) (h : ¬ bs.length < 4 ∧ a < 0) : Calls Try.prog 5 #[.int .u32 s, .slice A bs.length c, .int .i64 a, .int .u32 o] w fun e w' => e = .returned (.bool true) ∧ Below w.heap.size w w' := by
  obtain ⟨n, hn⟩ : ∃ n, bs.length = n := ⟨_, rfl⟩
  simp only [hn] at h hm ⊢
  clear hn
  obtain ⟨h1, h2⟩ := h
  have h' : ¬ (n : Int) < 4 := by omega
  go_enter Try.func5, Try.ntmps5
  go_wp2_with fail
  refine (lives_any _).mono ?_
  rintro e w1 ⟨rfl, hb1⟩
  go_wp2
  go_ret
  exact ⟨rfl, hb1⟩

set_option maxRecDepth 100000 in
set_option maxHeartbeats 800000 in
theorem bits_far (s : Nat) (A : Option Addr) (c : Nat) (bs : List Nat) (a : Int) (o : Nat) (w : World) (hm : bs.length ≤ 140737488351232) (h : ¬ bs.length < 4 ∧ ¬ a < 0 ∧ (bs.length : Int) - 4 < a) : Calls Try.prog 5 #[.int .u32 s, .slice A bs.length c, .int .i64 a, .int .u32 o] w fun e w' => e = .returned (.bool true) ∧ Below w.heap.size w w' := by
  obtain ⟨n, hn⟩ : ∃ n, bs.length = n := ⟨_, rfl⟩
  simp only [hn] at h hm ⊢
  clear hn
  obtain ⟨h1, h2, h3⟩ := h
  have h' : ¬ (n : Int) < 4 := by omega
  go_enter Try.func5, Try.ntmps5
  go_wp2_with fail
  refine (lives_any _).mono ?_
  rintro e w1 ⟨rfl, hb1⟩
  go_wp2
  go_ret
  exact ⟨rfl, hb1⟩

set_option maxRecDepth 100000 in
set_option maxHeartbeats 800000 in
theorem bits_same (s : Nat) (A : Option Addr) (c : Nat) (bs : List Nat) (a : Int) (o : Nat) (w : World) (hm : bs.length ≤ 140737488351232) (h : ¬ bs.length < 4 ∧ ¬ a < 0 ∧ ¬ (bs.length : Int) - 4 < a ∧ o = 0) : Calls Try.prog 5 #[.int .u32 s, .slice A bs.length c, .int .i64 a, .int .u32 o] w fun e w' => e = .returned (.bool true) ∧ Below w.heap.size w w' := by
  obtain ⟨n, hn⟩ : ∃ n, bs.length = n := ⟨_, rfl⟩
  simp only [hn] at h hm ⊢
  clear hn
  obtain ⟨h1, h2, h3, rfl⟩ := h
  have h' : ¬ (n : Int) < 4 := by omega
  go_enter Try.func5, Try.ntmps5
  go_wp2_with fail
  refine (lives_any _).mono ?_
  rintro e w1 ⟨rfl, hb1⟩
  go_wp2
  go_ret
  exact ⟨rfl, hb1⟩

set_option maxRecDepth 100000 in
set_option maxHeartbeats 1600000 in
theorem bits_main (s : Nat) (A : Option Addr) (c : Nat) (bs : List Nat) (a : Nat) (o : Nat) (w : World) (hb : IsBy w A c bs) (hs : s < 4294967296) (ho : o < 4294967296) (h4 : a + 4 ≤ bs.length) (h0 : o ≠ 0) : Calls Try.prog 5 #[.int .u32 s, .slice A bs.length c, .int .i64 a, .int .u32 o] w fun e w' => e = .returned (.bool true) ∧ Below w.heap.size w w' := by
  obtain ⟨i0, hi0, hz0, hz1, hz2⟩ := info_parts Try.infoByte
  have HB := Lib.hid hb
  have H4 := Lib.hid hb.2.2.2.1
  have HCH := Lib.hid (changed (s := s) hb.2.2.2.1 h4 ho h0)
  have HMB := Lib.hid (modN_byte (o := o) hb.2.2.2.1 h4)
  have HS := Lib.hid hs
  have hm : bs.length ≤ 140737488351232 := Nat.le_trans hb.1 hb.2.1
  obtain ⟨n, hn⟩ : ∃ n, bs.length = n := ⟨_, rfl⟩
  have hrd := hb.2.2.1
  rw [hn] at hrd hm h4
  have HV : Hid (Bs w (.slice A n c) bs) := Lib.hid (hn ▸ hb.bs)
  have HN := Lib.hid hn
  simp only [hn]
  clear hb hn
  have HO0 := Lib.hid (own_of_cells w #[] 0 (Nat.zero_le _) rfl)
  have HE0 := Lib.hid (hrd.below ((Below.refl _ w).alloc (Nat.le_refl _) (.cells #[] 5)))
  have f1 : ¬ (n : Int) < 4 := by omega
  have f2 : ¬ (n : Int) - 4 < (a : Int) := by omega
  have f3 : ((o : Int) == 0) = false := by simp; omega
  have f4 : decide ((a : Int) < 0) = false := by simp
  obtain ⟨B, hBe⟩ : ∃ B, w.heap.size = B := ⟨_, rfl⟩
  clear hrd hs
  go_enter Try.func5, Try.ntmps5
  go_wp2_with (at_builtin
               refine wpList_append_rd _ rfl (.tmp 31) (.tmp 32) 23 rfl w.heap.size 5 i0 (.int .u8 0) 1 1 Try.underlying23 hi0 hz0 hz1 hz2 rfl (by decide) (.slice (some ⟨w.heap.size, 0, none⟩) 0 0) 0 [] (by rw [hBe]; rfl) HO0.out A n c (bs.map u8v) rfl HE0.out (u8_one' _) (by unfold maxLen; omega) (by omega) (by simp) ?_
               intro v2 w2 hown2 hgrow2 _
               have hb2 := grown_below ((Below.refl _ w).alloc (Nat.le_refl _) (.cells #[] 5)) (by simp) HO0.out hgrow2
               simp only [Nat.zero_add, List.nil_append] at hown2
               have HO2 := Lib.hid hown2
               have HB2 := Lib.hid hb2
               clear hown2 hgrow2 hb2)
  obtain ⟨g, c2, rfl⟩ := own_pos HO2.out (by omega)
  clear f1 f2 f3 f4 HO0 HE0
  go_loopw [10] (fun i wr => ∃ k : Nat, k ≤ 4 ∧ i = .int .i64 k ∧ wr.ownsRow w.heap.size 5 1 (.slice (some ⟨g, 0, none⟩) n c2) n ((modN bs a o k).map u8v) ∧ Below w.heap.size w wr) (fun i _ => 4 - (intOf i).toNat)
  case atStart => exact ⟨0, Nat.zero_le _, rfl, HO2.out, HB2.out⟩
  case round =>
    obtain ⟨k, hk, rfl, ho1, hb1⟩ := hrel
    have HO1 := Lib.hid ho1
    have HB1 := Lib.hid hb1
    clear ho1 hb1
    by_cases hlt : k < 4
    · have hak : a + k < n := by omega
      have hgd : bs.getD (a + k) 0 < 256 := by
        have := HN.out
        rw [List.getD_eq_getElem?_getD, List.getElem?_eq_getElem (by omega)]
        exact H4.out _ (List.getElem_mem _)
      obtain ⟨b, hbe⟩ : ∃ b, bs.getD (a + k) 0 = b := ⟨_, rfl⟩
      rw [hbe] at hgd
      have hcell : ∀ W : World, W.ownsRow w.heap.size 5 1 (.slice (some ⟨g, 0, none⟩) n c2) n ((modN bs a o k).map u8v) → W.cell? ⟨g, a + k, none⟩ = some (.int .u8 (b : Nat)) := by
        intro W h
        rw [(own_cell h hak).1, List.getElem?_map, modN_get bs a o k k (Nat.le_refl _), ← hbe, List.getD_eq_getElem?_getD, List.getElem?_eq_getElem (by have := HN.out; omega)]
        rfl
      have hx := xor8 hgd (show o / 256 ^ k % 256 < 256 by omega)
      have hmod : modN bs a o (k + 1) = (modN bs a o k).set (a + k) (b ^^^ (o / 256 ^ k % 256)) := by rw [modN, hbe]
      obtain ⟨y, hy⟩ : ∃ y, b ^^^ (o / 256 ^ k % 256) = y := ⟨_, rfl⟩
      rw [hy] at hx hmod
      obtain ⟨z, hz⟩ : ∃ z, o / 256 ^ k % 256 = z := ⟨_, rfl⟩
      have hval : IntKind.u8.wrap ((o : Int) / 2 ^ (8 * (k : Int)).toNat) = (z : Int) := by
        have e : (2 : Int) ^ (8 * k) = ((256 ^ k : Nat) : Int) := by
          rw [show (256 : Nat) = 2 ^ 8 from rfl, ← Nat.pow_mul]
          simp
        rw [show (8 * (k : Int)).toNat = 8 * k by omega, e, IntKind.wrap_u8, ← hz]
        rfl
      rw [hz] at hx
      obtain ⟨m, hm'⟩ : ∃ m, a + k = m := ⟨_, rfl⟩
      have hw1 : IntKind.i64.wrap ((a : Int) + (k : Int)) = (m : Int) := by rw [IntWalk.i64_in _ (by omega)]; omega
      have hw2 : IntKind.i64.wrap (8 * (k : Int)) = 8 * (k : Int) := IntWalk.i64_in _ (by omega)
      rw [hm'] at hak hcell hmod
      have hl1 : (m : Int) < (n : Int) := by omega
      have HC := Lib.hid hcell
      have HMD := Lib.hid hmod
      clear hbe hy hcell hmod hz hm'
      go_wp2_with fail
      refine wp_region_flow (fun W => W.ownsRow w.heap.size 5 1 (.slice (some ⟨g, 0, none⟩) n c2) n ((modN bs a o k).map u8v) ∧ Below w.heap.size w W) [0, 1, 2, 3, 4, 5, 6, 7, 8, 9, 10, 11, 12, 13, 14, 15, 16, 17] (by kernel_rfl) (by kernel_rfl) (by kernel_rfl) (⟨own_below HO1.out ((Below.refl _ wr).drew), HB1.out.drew⟩) ?_
      refine flow_val ?_ rfl (by kernel_rfl) (by rfl) (fun W hW => ?_) ?_
      rotate_left 1
      · go_simp <;> with_reducible rfl
      simp only [Act.put, List.setIfInBounds_toArray, List.set_cons_succ, List.set_cons_zero]
      refine flow_val ?_ rfl (by kernel_rfl) (by rfl) (fun W hW => ?_) ?_
      rotate_left 1
      · go_simp <;> with_reducible rfl
      simp only [Act.put, List.setIfInBounds_toArray, List.set_cons_succ, List.set_cons_zero]
      refine flow_val ?_ rfl (by kernel_rfl) (by rfl) (fun W hW => ?_) ?_
      rotate_left 1
      · go_simp <;> with_reducible rfl
      simp only [Act.put, List.setIfInBounds_toArray, List.set_cons_succ, List.set_cons_zero]
      refine flow_val ?_ rfl (by kernel_rfl) (by rfl) (fun W hW => ?_) ?_
      rotate_left 1
      · go_simp <;> with_reducible rfl
      simp only [Act.put, List.setIfInBounds_toArray, List.set_cons_succ, List.set_cons_zero]
      refine flow_val ?_ rfl (by kernel_rfl) (by rfl) (fun W hW => ?_) ?_
      rotate_left 1
      · go_simp <;> with_reducible rfl
      simp only [Act.put, List.setIfInBounds_toArray, List.set_cons_succ, List.set_cons_zero]
      refine flow_val ?_ rfl (by kernel_rfl) (by rfl) (fun W hW => ?_) ?_
      rotate_left 1
      · go_simp <;> with_reducible rfl
      simp only [Act.put, List.setIfInBounds_toArray, List.set_cons_succ, List.set_cons_zero]
      refine flow_val ?_ rfl (by kernel_rfl) (by rfl) (fun W hW => ?_) ?_
      rotate_left 1
      · go_simp <;> with_reducible rfl
      simp only [Act.put, List.setIfInBounds_toArray, List.set_cons_succ, List.set_cons_zero]
      refine flow_val ?_ rfl (by kernel_rfl) (by rfl) (fun W hW => ?_) ?_
      rotate_left 1
      · go_simp <;> with_reducible rfl
      simp only [Act.put, List.setIfInBounds_toArray, List.set_cons_succ, List.set_cons_zero]
      refine flow_val ?_ rfl (by kernel_rfl) (by rfl) (fun W hW => ?_) ?_
      rotate_left 1
      · go_simp <;> with_reducible rfl
      simp only [Act.put, List.setIfInBounds_toArray, List.set_cons_succ, List.set_cons_zero]
      refine flow_val ?_ rfl (by kernel_rfl) (by rfl) (fun W hW => ?_) ?_
      rotate_left 1
      · have hc := HC.out W hW.1; go_simp <;> with_reducible rfl
      simp only [Act.put, List.setIfInBounds_toArray, List.set_cons_succ, List.set_cons_zero]
      refine flow_val ?_ rfl (by kernel_rfl) (by rfl) (fun W hW => ?_) ?_
      rotate_left 1
      · go_simp <;> with_reducible rfl
      simp only [Act.put, List.setIfInBounds_toArray, List.set_cons_succ, List.set_cons_zero]
      refine flow_val ?_ rfl (by kernel_rfl) (by rfl) (fun W hW => ?_) ?_
      rotate_left 1
      · go_simp <;> with_reducible rfl
      simp only [Act.put, List.setIfInBounds_toArray, List.set_cons_succ, List.set_cons_zero]
      refine flow_val ?_ rfl (by kernel_rfl) (by rfl) (fun W hW => ?_) ?_
      rotate_left 1
      · go_simp <;> with_reducible rfl
      simp only [Act.put, List.setIfInBounds_toArray, List.set_cons_succ, List.set_cons_zero]
      refine flow_val ?_ rfl (by kernel_rfl) (by rfl) (fun W hW => ?_) ?_
      rotate_left 1
      · go_simp <;> with_reducible rfl
      simp only [Act.put, List.setIfInBounds_toArray, List.set_cons_succ, List.set_cons_zero]
      refine flow_val ?_ rfl (by kernel_rfl) (by rfl) (fun W hW => ?_) ?_
      rotate_left 1
      · go_simp <;> with_reducible rfl
      simp only [Act.put, List.setIfInBounds_toArray, List.set_cons_succ, List.set_cons_zero]
      refine flow_val ?_ rfl (by kernel_rfl) (by rfl) (fun W hW => ?_) ?_
      rotate_left 1
      · go_simp <;> with_reducible rfl
      simp only [Act.put, List.setIfInBounds_toArray, List.set_cons_succ, List.set_cons_zero]
      refine flow_val ?_ rfl (by kernel_rfl) (by rfl) (fun W hW => ?_) ?_
      rotate_left 1
      · go_simp <;> with_reducible rfl
      simp only [Act.put, List.setIfInBounds_toArray, List.set_cons_succ, List.set_cons_zero]
      refine flow_bar (fun W => W.ownsRow w.heap.size 5 1 (.slice (some ⟨g, 0, none⟩) n c2) n ((modN bs a o (k + 1)).map u8v) ∧ Below w.heap.size w W) (fun _ => True) rfl (by kernel_rfl) (by rfl) (by kernel_rfl) (by kernel_rfl) (fun W hW hC => ?_) ?_
      · have hc := HC.out W hW.1
        have hz := (own_cell hW.1 hak).2
        have hgb : w.heap.size ≤ g := by
          rcases hW.1.2 with ⟨e1, _⟩ | ⟨g', cap, cur, e1, e2, _⟩
          · cases e1
          · injection e1 with e1
            injection e1 with e1
            injection e1 with e1
            omega
        refine ⟨_, by go_simp <;> with_reducible rfl, ⟨?_, ?_⟩, trivial⟩
        · rw [HMD.out, List.map_set]
          exact own_set1 hW.1 _
        · exact hW.2.setCell (p := ⟨g, m, none⟩) hgb _
      refine flow_done2 ?_
      rintro W ⟨⟨r1, r2⟩, _⟩ _
      have R1 := Lib.hid r1
      have R2 := Lib.hid r2
      clear r1 r2
      go_wp2_with fail
      go_roundw
      case rel => exact ⟨k + 1, hlt, by go_num, R1.out, R2.out⟩
      case measure => simp [intOf]; omega
    · obtain rfl : k = 4 := by omega
      have hvm := Bs.own_n HO1.out
      have HVM := Lib.hid hvm
      have HV1 := Lib.hid (HV.out.below HB1.out)
      clear hvm HO1 HO2
      go_wp2_with fail
      refine (new_any wr).mono ?_
      rintro e w3 ⟨rfl, ht3, hb3⟩
      obtain ⟨N, hN⟩ : ∃ N, wr.heap.size = N := ⟨_, rfl⟩
      have HNN := Lib.hid hN
      have HB3 := Lib.hid hb3
      have HVM3 := Lib.hid (HVM.out.below hb3)
      have HV3 := Lib.hid (HV1.out.below hb3)
      rw [hN] at ht3 ⊢
      have HT3 := Lib.hid ht3
      clear hb3 ht3 hN
      go_wp2_with fail
      refine (lives_any w3).mono ?_
      rintro e w4 ⟨rfl, hb4⟩
      have HT4 := Lib.hid (HT3.out.below hb4)
      have HV4 := Lib.hid (HV3.out.below hb4)
      have HVM4 := Lib.hid (HVM3.out.below hb4)
      have F4 := Lib.hid (Fr.of_below (B := 0) (T := []) (S := [N]) hb4)
      clear hb4
      go_wp2_with fail
      refine (on_tab N s _ bs HS.out H4.out w4 HT4.out HV4.out).mono ?_
      rintro e w5 ⟨rfl, ht5, hf5⟩
      have HT5 := Lib.hid ht5
      have HVM5 := Lib.hid (HVM4.out.tab HT4.out hf5)
      have F5 := Lib.hid (F4.out.trans hf5)
      obtain ⟨q1, hq1⟩ : ∃ q, onN s bs = q := ⟨_, rfl⟩
      rw [hq1] at HCH ⊢
      clear ht5 hf5 hq1
      go_wp2_with fail
      refine (on_tab N s _ _ HS.out HMB.out w5 HT5.out HVM5.out).mono ?_
      rintro e w6 ⟨rfl, ht6, hf6⟩
      have F6 := Lib.hid (F5.out.trans hf6)
      obtain ⟨q2, hq2⟩ : ∃ q, onN s (modN bs a o 4) = q := ⟨_, rfl⟩
      rw [hq2] at HCH ⊢
      have hne : ¬ (q1 : Int) = (q2 : Int) := by have := HCH.out; omega
      have hne2 : ((q1 : Int) != (q2 : Int)) = true := by simp; omega
      clear ht6 hf6 hq2
      go_wp2
      go_ret
      exact ⟨by simp, HB1.out.trans ((Fr.own2 HNN.out HB3.out F6.out).mono HB1.out.size)⟩
theorem bits_any (s : Nat) (A : Option Addr) (c : Nat) (bs : List Nat) (a : Int) (o : Nat) (w : World) (hb : IsBy w A c bs) (hs : s < 4294967296) (ho : o < 4294967296) : Calls Try.prog 5 #[.int .u32 s, .slice A bs.length c, .int .i64 a, .int .u32 o] w fun e w' => e = .returned (.bool true) ∧ Below w.heap.size w w' := by
  have hm : bs.length ≤ 140737488351232 := Nat.le_trans hb.1 hb.2.1
  by_cases h1 : bs.length < 4
  · exact bits_short s A c bs a o w h1
  · by_cases h2 : a < 0
    · exact bits_neg s A c bs a o w hm ⟨h1, h2⟩
    · by_cases h3 : (bs.length : Int) - 4 < a
      · exact bits_far s A c bs a o w hm ⟨h1, h2, h3⟩
      · by_cases h4 : o = 0
        · exact bits_same s A c bs a o w hm ⟨h1, h2, h3, h4⟩
        · obtain ⟨m, rfl⟩ : ∃ m : Nat, a = m := ⟨a.toNat, by omega⟩
          exact bits_main s A c bs m o w hb hs ho (by omega) h4
end Go.Proofs.Ytchdfdimaopdeaa
