/- The reference's Send. -/
import Derived.Test.YtnmbblkfaoihfaaZLY14
import Derived.Test.YtnmbblkfaoihfaaZLY15
namespace Go.Proofs.Ytnmbblkfaoihfaa
open Go.RowKit

/-- What lies behind the region that makes the item. -/
def RS6 (W1 : World) (s : LSt) (bs : List Nat) (now : Int) (g : Nat) (A : Option Addr) (c _g31 : Nat) (W : World) : Prop :=
  W.heap[g]? = some (.cells #[.int .i64 (s.sent + 1), .slice A bs.length c, .int .i64 1, .int .i64 (nextL now 0)] 91 (0, 0)) ∧ W1.heap.size ≤ g ∧ ByO W (.slice A bs.length c) bs ∧ Below W1.heap.size W1 W
/-- What lies behind the region that puts it behind the others. -/
def RS7 (W8 : World) (p : Nat) (s : LSt) (zs : List LIm) (x : List Value) (_g38 : Nat) (_v43 : Value) (_g45 g46 c46 : Nat) (W : World) : Prop :=
  W.heap[p]? = some (.cells #[.slice (some ⟨g46, 0, none⟩) (s.l.length + 1) c46, .int .i64 (s.sent + 1), .int .i64 s.mark] 55 (0, 0)) ∧ W.ownsRow W8.heap.size 91 4 (.slice (some ⟨g46, 0, none⟩) (s.l.length + 1) c46) (s.l.length + 1) (zs.flatMap encL ++ x) ∧ Fr 0 [] [p] W8 W
theorem own_none4 (w : World) (T : TypeId) : (w.alloc (.cells #[] T)).ownsRow w.heap.size T 4 (.slice (some ⟨w.heap.size, 0, none⟩) 0 0) 0 [] :=
  ⟨rfl, .inr ⟨w.heap.size, 0, #[], rfl, Nat.le_refl _, block_new _ _, Nat.le_refl _, by unfold maxLen; omega, rfl, rfl⟩⟩

set_option maxRecDepth 100000 in
set_option maxHeartbeats 4000000 in
theorem rsend_ok (p : Nat) (G : Option Nat) (s : LSt) (A : Option Addr) (c : Nat) (bs : List Nat) (now : Int) (w : World) (h : IsX w p G s) (hb : ∀ W', Fr 0 [] (p :: G.toList) w W' → Bs W' (.slice A bs.length c) bs) (h256 : ∀ b ∈ bs, b < 256)
    (hl : bs.length ≤ 2048) (hn : s.l.length < 64) (hs : 0 ≤ s.sent ∧ s.sent < 9223372036854775807) (hnow : -9223372036854775808 ≤ now ∧ now ≤ 9223372036854775807) :
    Calls Try.prog 22 #[.pointer (some ⟨p, 0, none⟩), .slice A bs.length c, .int .i64 now] w
      (RetX p G (fun e w' => ∃ v, e = .returned (.tuple #[v, .int .i64 0]) ∧ IsP w' v ⟨s.sent + 1, s.mark, bs⟩) ⟨s.l ++ [⟨s.sent + 1, bs, 1, nextL now 0⟩], s.sent + 1, s.mark⟩ w) := by
  obtain ⟨i0, hi0, hz0, hz1, hz2⟩ := info_parts Try.infoRItem
  obtain ⟨i1, hi1, hy0, hy1, hy2⟩ := info_parts Try.infoByte
  obtain ⟨v, h1, zs, hzs, h2, hG, h3⟩ := h
  obtain ⟨Av, cv, rfl, _, _, hrd, _⟩ := own_slice h2
  have c0 := cell_at h1 0
  have c1 := cell_at h1 1
  have f1 := frozen_at h1 1
  have hp := lt_of_block h1
  have H1 := Lib.hid h1
  have H2 := Lib.hid h2
  have H3 := Lib.hid h3
  have HB := Lib.hid hb
  have HRD := Lib.hid hrd
  have HZS := Lib.hid hzs
  have HG := Lib.hid hG
  have H256 := Lib.hid h256
  clear h1 h2 h3 hb hrd hzs hG h256
  go_enter Try.func22, Try.ntmps22
  go_wp2_with fail
  obtain ⟨W1, hW1⟩ : ∃ W1, (w.setCell ⟨p, 1, none⟩ (.int .i64 (s.sent + 1))).alloc (.cells #[.int .i64 0, .int .i64 0, .slice none 0 0] 43) = W1 := ⟨_, rfl⟩
  have bp := block_alloc (block_set H1.out 1 (.int .i64 (s.sent + 1))) (.cells #[.int .i64 0, .int .i64 0, .slice none 0 0] 43)
  have bn := block_new (w.setCell ⟨p, 1, none⟩ (.int .i64 (s.sent + 1))) (.cells #[.int .i64 0, .int .i64 0, .slice none 0 0] 43)
  have fW := (((Fr.refl w).setCell (B := 0) (T := []) (S := [p]) (p := ⟨p, 1, none⟩) (.int .i64 (s.sent + 1)) (Nat.zero_le _) (.inl (by simp))).alloc (.cells #[.int .i64 0, .int .i64 0, .slice none 0 0] 43))
  rw [hW1] at bp bn fW ⊢
  simp only [World.size_setCell] at bn
  have bp' : W1.heap[p]? = some (.cells #[.slice Av s.l.length cv, .int .i64 (s.sent + 1), .int .i64 s.mark] 55 (0, 0)) := by simpa using bp
  have hgp : ∀ g, (Value.slice Av s.l.length cv).ownBlock = some g → g ≠ p ∧ g < w.heap.size := fun g hg => by
    obtain ⟨_, cs, h2⟩ := own_block H2.out hg
    exact ⟨block_ne h2 H1.out (by decide), lt_of_block h2⟩
  have BP := Lib.hid bp'
  have BN := Lib.hid bn
  have FW := Lib.hid fW
  have hp1 := lt_of_block bp'
  have hn1 := lt_of_block bn
  have HGP := Lib.hid hgp
  have FWP : Hid (Fr 0 [] (p :: G.toList) w W1) := Lib.hid (fW.mono (Nat.le_refl _) (fun _ h => h) (fun k hk => by simp at hk; simp [hk]))
  have HBs : Hid (∀ W, Below W1.heap.size W1 W → Bs W (.slice A bs.length c) bs) := Lib.hid (fun W hW => HB.out W (FWP.out.trans (Fr.of_below hW)))
  have q1 := cell_at bp' 1
  clear hW1 bp bn fW bp' c0 c1 f1 hgp
  apply wp_region_mid4 (M := RS6 W1 s bs now) (hm := by kernel_rfl)
  case h =>
    refine ok_split 10 6 (by decide) ?_ ?_
    · simp only [addAfter, addL]
      refine ok_flow (fun W => Below W1.heap.size W1 W) Nil_ [0, 1, 2, 3, 5, 7, 4, 6, 8, 9, 10, 11] (fun _ => trivial) rfl (fun _ _ _ _ _ h => callsIn_wide.2 h) (by kernel_rfl) (by kernel_rfl) ((Below.refl _ W1).drew) (trivial) ?_
      refine flow_val ?_ rfl (by kernel_rfl) (by rfl) (fun W hW => ?_) ?_
      rotate_left 1
      · go_simp <;> with_reducible rfl
      simp only [Act.put, List.setIfInBounds_toArray, List.set_cons_succ, List.set_cons_zero]
      refine flow_val ?_ rfl (by kernel_rfl) (by rfl) (fun W hW => ?_) ?_
      rotate_left 1
      · go_simp <;> with_reducible rfl
      simp only [Act.put, List.setIfInBounds_toArray, List.set_cons_succ, List.set_cons_zero]
      refine flow_val ?_ rfl (by kernel_rfl) (by rfl) (fun W hW => ?_) ?_
      rotate_left 1
      · go_simp <;> with_reducible rfl
      simp only [Act.put, List.setIfInBounds_toArray, List.set_cons_succ, List.set_cons_zero]
      refine flow_val ?_ rfl (by kernel_rfl) (by rfl) (fun W hW => ?_) ?_
      rotate_left 1
      · have c1 : W.cell? ⟨p, 1, none⟩ = some (.int .i64 (s.sent + 1)) := (hW.cell (p := ⟨p, 1, none⟩) hp1).trans q1; go_simp <;> with_reducible rfl
      simp only [Act.put, List.setIfInBounds_toArray, List.set_cons_succ, List.set_cons_zero]
      refine flow_val ?_ rfl (by kernel_rfl) (by rfl) (fun W hW => ?_) ?_
      rotate_left 1
      · go_simp <;> with_reducible rfl
      simp only [Act.put, List.setIfInBounds_toArray, List.set_cons_succ, List.set_cons_zero]
      refine flow_val ?_ rfl (by kernel_rfl) (by rfl) (fun W hW => ?_) ?_
      rotate_left 1
      · go_simp <;> with_reducible rfl
      simp only [Act.put, List.setIfInBounds_toArray, List.set_cons_succ, List.set_cons_zero]
      refine flow_gmake (fun v W => ∃ g', v = .slice (some ⟨g', 0, none⟩) 0 0 ∧ W.ownsRow W1.heap.size 5 1 (.slice (some ⟨g', 0, none⟩) 0 0) 0 []) rfl (by kernel_rfl) (by rfl) (by kernel_rfl) (fun W hW hC => ?_) ?_
      · have hb : Below W.heap.size W (W.alloc (.cells #[] 5)) := (Below.refl _ W).alloc (Nat.le_refl _) _
        exact ⟨_, _, by go_simp <;> with_reducible rfl, hW.trans (hb.mono hW.size), ⟨_, rfl, own_low (own_of_cells W #[] 0 (Nat.zero_le _) rfl) hW.size⟩⟩
      rintro v31 ⟨_, _, g31, rfl, _⟩
      simp only [Act.put, List.setIfInBounds_toArray, List.set_cons_succ, List.set_cons_zero]
      refine flow_gmake (fun v W => ByO W v bs) rfl (by kernel_rfl) (by rfl) (by kernel_rfl) (fun W hW hC => ?_) ?_
      · have ho2 : W.ownsRow W1.heap.size 5 1 (.slice (some ⟨g31, 0, none⟩) 0 0) 0 [] := by
          obtain ⟨g2, e2, ho2⟩ := hC
          rw [e2]; exact ho2
        refine exec_append_rd (.tmp 31) (.tmp 32) 41 rfl W1.heap.size 5 i1 (.int .u8 0) 1 1 Try.underlying41 hi1 hy0 hy1 hy2 rfl (by decide) (.slice (some ⟨g31, 0, none⟩) 0 0) 0 [] rfl ho2 A bs.length c (bs.map u8v) rfl (bs_rd (HBs.out W hW.1)) (u8_one' _) (by unfold maxLen; omega) (by omega) hW.1.size (fun v' w' x2 x3 => ?_)
        have fx : Fr W1.heap.size [5] [] W w' := (Fr.refl W).grown x3 (fun j hj => by
          obtain ⟨hb, cs, hc⟩ := own_block ho2 hj
          exact ⟨hb, .inr ⟨cs, _, _, hc, by simp⟩⟩)
        exact ⟨⟨hW.1.trans (fx.below hW.1.size), trivial⟩, ⟨RowU.of (own_low (by simpa using x2) (Nat.zero_le _)), H256.out⟩⟩
      rintro v33 ⟨_, _, hv33⟩
      simp only [Act.put, List.setIfInBounds_toArray, List.set_cons_succ, List.set_cons_zero]
      obtain ⟨A33, c33, rfl, _, _, _, _⟩ := byo_slice hv33
      clear hv33
      refine flow_quiet (.int .i64 (nextL now 0)) rfl (by kernel_rfl) (by rfl) (fun W hW => ⟨_, _, by go_simp, rnext_any now 0 W hnow (by omega)⟩) ?_
      simp only [Act.put, List.setIfInBounds_toArray, List.set_cons_succ, List.set_cons_zero]
      refine flow_val ?_ rfl (by kernel_rfl) (by rfl) (fun W hW => ?_) ?_
      rotate_left 1
      · go_simp <;> with_reducible rfl
      simp only [Act.put, List.setIfInBounds_toArray, List.set_cons_succ, List.set_cons_zero]
      refine flow_gmake (fun v W => ∃ g, v = .pointer (some ⟨g, 0, none⟩) ∧ W1.heap.size ≤ g ∧ W.heap[g]? = some (.cells #[.int .i64 0, .slice none 0 0, .int .i64 0, .int .i64 0] 91 (0, 0)) ∧ ByO W (.slice A33 bs.length c33) bs) rfl (by kernel_rfl) (by rfl) (by kernel_rfl) (fun W hW hC => ?_) ?_
      · have hb : Below W.heap.size W (W.alloc (.cells #[.int .i64 0, .slice none 0 0, .int .i64 0, .int .i64 0] 91)) := (Below.refl _ W).alloc (Nat.le_refl _) _
        have hC2 : ByO W (.slice A33 bs.length c33) bs := hC
        exact ⟨_, _, by go_simp <;> with_reducible rfl, ⟨⟨hW.1.1.trans (hb.mono hW.1.1.size), trivial⟩, trivial⟩, ⟨_, rfl, hW.1.1.size, block_new _ _, hC2.below hb⟩⟩
      rintro v8 ⟨_, _, g8, rfl, hg81, _, _⟩
      simp only [Act.put, List.setIfInBounds_toArray, List.set_cons_succ, List.set_cons_zero]
      refine flow_bar (fun W => RS6 W1 s bs now g8 A33 c33 g31 W) (fun _ => True) rfl (by kernel_rfl) (by rfl) (by kernel_rfl) (by kernel_rfl) (fun W hW hC => ?_) ?_
      · obtain ⟨g2, e2, _, hz8, hbb⟩ := hC
        injection e2 with e2
        injection e2 with e2
        injection e2 with e2 _ _
        subst e2
        have hW := hW.1.1.1
        have q2 := cell_at hz8 0
        have q3 := cell_at hz8 1
        have q4 := cell_at hz8 2
        have q5 := cell_at hz8 3
        have g2 := frozen_at hz8 0
        have g3 := frozen_at hz8 1
        have g4 := frozen_at hz8 2
        have g5 := frozen_at hz8 3
        have HZ8 := Lib.hid hz8
        have HW := Lib.hid hW
        have HBB := Lib.hid hbb
        clear hz8 hW hbb
        refine ⟨_, by go_simp <;> with_reducible rfl, ⟨?_, hg81, ?_, ?_⟩, trivial⟩
        · simpa using block_set (block_set (block_set (block_set HZ8.out 0 (.int .i64 (s.sent + 1))) 1 (.slice A33 bs.length c33)) 2 (.int .i64 1)) 3 (.int .i64 (nextL now 0))
        · exact HBB.out.far ((((((Fr.refl W).setCell (B := 0) (T := []) (S := [g8]) (p := ⟨g8, 0, none⟩) _ (Nat.zero_le _) (.inl (by simp))).setCell (p := ⟨g8, 1, none⟩) _ (Nat.zero_le _) (.inl (by simp))).setCell (p := ⟨g8, 2, none⟩) _ (Nat.zero_le _) (.inl (by simp)))).setCell (p := ⟨g8, 3, none⟩) _ (Nat.zero_le _) (.inl (by simp))) HZ8.out (by decide)
        · exact ((((HW.out).setCell (p := ⟨g8, 0, none⟩) hg81 _).setCell (p := ⟨g8, 1, none⟩) hg81 _).setCell (p := ⟨g8, 2, none⟩) hg81 _).setCell (p := ⟨g8, 3, none⟩) hg81 _
      refine flow_end ?_
      rintro W ⟨hR, _⟩ _
      exact .inl ⟨by trivial, g8, A33, c33, g31, rfl, hR⟩
    · refine ok_split 10 4 (by decide) ?_ ?_
      · simp only [addAfter, addL]
        refine ok_flow (fun W => Below W1.heap.size W1 W) Nil_ [0, 1, 2, 3, 5, 7, 4, 10, 6, 8, 9, 11] (fun _ => trivial) rfl (fun _ _ _ _ _ h => callsIn_wide.2 h) (by kernel_rfl) (by kernel_rfl) ((Below.refl _ W1).drew) (trivial) ?_
        refine flow_val ?_ rfl (by kernel_rfl) (by rfl) (fun W hW => ?_) ?_
        rotate_left 1
        · go_simp <;> with_reducible rfl
        simp only [Act.put, List.setIfInBounds_toArray, List.set_cons_succ, List.set_cons_zero]
        refine flow_val ?_ rfl (by kernel_rfl) (by rfl) (fun W hW => ?_) ?_
        rotate_left 1
        · go_simp <;> with_reducible rfl
        simp only [Act.put, List.setIfInBounds_toArray, List.set_cons_succ, List.set_cons_zero]
        refine flow_val ?_ rfl (by kernel_rfl) (by rfl) (fun W hW => ?_) ?_
        rotate_left 1
        · go_simp <;> with_reducible rfl
        simp only [Act.put, List.setIfInBounds_toArray, List.set_cons_succ, List.set_cons_zero]
        refine flow_val ?_ rfl (by kernel_rfl) (by rfl) (fun W hW => ?_) ?_
        rotate_left 1
        · have c1 : W.cell? ⟨p, 1, none⟩ = some (.int .i64 (s.sent + 1)) := (hW.cell (p := ⟨p, 1, none⟩) hp1).trans q1; go_simp <;> with_reducible rfl
        simp only [Act.put, List.setIfInBounds_toArray, List.set_cons_succ, List.set_cons_zero]
        refine flow_val ?_ rfl (by kernel_rfl) (by rfl) (fun W hW => ?_) ?_
        rotate_left 1
        · go_simp <;> with_reducible rfl
        simp only [Act.put, List.setIfInBounds_toArray, List.set_cons_succ, List.set_cons_zero]
        refine flow_val ?_ rfl (by kernel_rfl) (by rfl) (fun W hW => ?_) ?_
        rotate_left 1
        · go_simp <;> with_reducible rfl
        simp only [Act.put, List.setIfInBounds_toArray, List.set_cons_succ, List.set_cons_zero]
        refine flow_gmake (fun v W => ∃ g', v = .slice (some ⟨g', 0, none⟩) 0 0 ∧ W.ownsRow W1.heap.size 5 1 (.slice (some ⟨g', 0, none⟩) 0 0) 0 []) rfl (by kernel_rfl) (by rfl) (by kernel_rfl) (fun W hW hC => ?_) ?_
        · have hb : Below W.heap.size W (W.alloc (.cells #[] 5)) := (Below.refl _ W).alloc (Nat.le_refl _) _
          exact ⟨_, _, by go_simp <;> with_reducible rfl, hW.trans (hb.mono hW.size), ⟨_, rfl, own_low (own_of_cells W #[] 0 (Nat.zero_le _) rfl) hW.size⟩⟩
        rintro v31 ⟨_, _, g31, rfl, _⟩
        simp only [Act.put, List.setIfInBounds_toArray, List.set_cons_succ, List.set_cons_zero]
        refine flow_gmake (fun v W => ∃ g, v = .pointer (some ⟨g, 0, none⟩) ∧ W1.heap.size ≤ g ∧ W.heap[g]? = some (.cells #[.int .i64 0, .slice none 0 0, .int .i64 0, .int .i64 0] 91 (0, 0)) ∧ W.ownsRow W1.heap.size 5 1 (.slice (some ⟨g31, 0, none⟩) 0 0) 0 []) rfl (by kernel_rfl) (by rfl) (by kernel_rfl) (fun W hW hC => ?_) ?_
        · have hb : Below W.heap.size W (W.alloc (.cells #[.int .i64 0, .slice none 0 0, .int .i64 0, .int .i64 0] 91)) := (Below.refl _ W).alloc (Nat.le_refl _) _
          have hC2 : W.ownsRow W1.heap.size 5 1 (.slice (some ⟨g31, 0, none⟩) 0 0) 0 [] := by
            obtain ⟨g2, e2, ho2⟩ := hC
            rw [e2]; exact ho2
          exact ⟨_, _, by go_simp <;> with_reducible rfl, ⟨hW.1.trans (hb.mono hW.1.size), trivial⟩, ⟨_, rfl, hW.1.size, block_new _ _, (Fr.of_below (B := 0) (T := []) (S := []) hb).own hC2 (by simp) (by simp)⟩⟩
        rintro v8 ⟨_, _, g8, rfl, hg81, _, _⟩
        simp only [Act.put, List.setIfInBounds_toArray, List.set_cons_succ, List.set_cons_zero]
        refine flow_gmake (fun v W => ByO W v bs ∧ W.heap[g8]? = some (.cells #[.int .i64 0, .slice none 0 0, .int .i64 0, .int .i64 0] 91 (0, 0))) rfl (by kernel_rfl) (by rfl) (by kernel_rfl) (fun W hW hC => ?_) ?_
        · have hz8 : W.heap[g8]? = some (.cells #[.int .i64 0, .slice none 0 0, .int .i64 0, .int .i64 0] 91 (0, 0)) := by
            obtain ⟨g2, e2, _, h2, _⟩ := hC
            injection e2 with e2
            injection e2 with e2
            injection e2 with e2 _ _
            subst e2
            exact h2
          have ho2 : W.ownsRow W1.heap.size 5 1 (.slice (some ⟨g31, 0, none⟩) 0 0) 0 [] := by
            obtain ⟨_, _, _, _, h2⟩ := hC
            exact h2
          refine exec_append_rd (.tmp 31) (.tmp 32) 41 rfl W1.heap.size 5 i1 (.int .u8 0) 1 1 Try.underlying41 hi1 hy0 hy1 hy2 rfl (by decide) (.slice (some ⟨g31, 0, none⟩) 0 0) 0 [] rfl ho2 A bs.length c (bs.map u8v) rfl (bs_rd (HBs.out W hW.1.1)) (u8_one' _) (by unfold maxLen; omega) (by omega) hW.1.1.size (fun v' w' x2 x3 => ?_)
          have fx : Fr W1.heap.size [5] [] W w' := (Fr.refl W).grown x3 (fun j hj => by
            obtain ⟨hb, cs, hc⟩ := own_block ho2 hj
            exact ⟨hb, .inr ⟨cs, _, _, hc, by simp⟩⟩)
          exact ⟨⟨⟨hW.1.1.trans (fx.below hW.1.1.size), trivial⟩, trivial⟩, ⟨⟨RowU.of (own_low (by simpa using x2) (Nat.zero_le _)), H256.out⟩, fx.keep hz8 (by decide) (by simp)⟩⟩
        rintro v33 ⟨_, _, hv33, _⟩
        simp only [Act.put, List.setIfInBounds_toArray, List.set_cons_succ, List.set_cons_zero]
        obtain ⟨A33, c33, rfl, _, _, _, _⟩ := byo_slice hv33
        clear hv33
        refine flow_quiet (.int .i64 (nextL now 0)) rfl (by kernel_rfl) (by rfl) (fun W hW => ⟨_, _, by go_simp, rnext_any now 0 W hnow (by omega)⟩) ?_
        simp only [Act.put, List.setIfInBounds_toArray, List.set_cons_succ, List.set_cons_zero]
        refine flow_val ?_ rfl (by kernel_rfl) (by rfl) (fun W hW => ?_) ?_
        rotate_left 1
        · go_simp <;> with_reducible rfl
        simp only [Act.put, List.setIfInBounds_toArray, List.set_cons_succ, List.set_cons_zero]
        refine flow_bar (fun W => RS6 W1 s bs now g8 A33 c33 g31 W) (fun _ => True) rfl (by kernel_rfl) (by rfl) (by kernel_rfl) (by kernel_rfl) (fun W hW hC => ?_) ?_
        · obtain ⟨hbb, hz8⟩ := hC
          have hW := hW.1.1.1
          have q2 := cell_at hz8 0
          have q3 := cell_at hz8 1
          have q4 := cell_at hz8 2
          have q5 := cell_at hz8 3
          have g2 := frozen_at hz8 0
          have g3 := frozen_at hz8 1
          have g4 := frozen_at hz8 2
          have g5 := frozen_at hz8 3
          have HZ8 := Lib.hid hz8
          have HW := Lib.hid hW
          have HBB := Lib.hid hbb
          clear hz8 hW hbb
          refine ⟨_, by go_simp <;> with_reducible rfl, ⟨?_, hg81, ?_, ?_⟩, trivial⟩
          · simpa using block_set (block_set (block_set (block_set HZ8.out 0 (.int .i64 (s.sent + 1))) 1 (.slice A33 bs.length c33)) 2 (.int .i64 1)) 3 (.int .i64 (nextL now 0))
          · exact HBB.out.far ((((((Fr.refl W).setCell (B := 0) (T := []) (S := [g8]) (p := ⟨g8, 0, none⟩) _ (Nat.zero_le _) (.inl (by simp))).setCell (p := ⟨g8, 1, none⟩) _ (Nat.zero_le _) (.inl (by simp))).setCell (p := ⟨g8, 2, none⟩) _ (Nat.zero_le _) (.inl (by simp)))).setCell (p := ⟨g8, 3, none⟩) _ (Nat.zero_le _) (.inl (by simp))) HZ8.out (by decide)
          · exact ((((HW.out).setCell (p := ⟨g8, 0, none⟩) hg81 _).setCell (p := ⟨g8, 1, none⟩) hg81 _).setCell (p := ⟨g8, 2, none⟩) hg81 _).setCell (p := ⟨g8, 3, none⟩) hg81 _
        refine flow_end ?_
        rintro W ⟨hR, _⟩ _
        exact .inl ⟨by trivial, g8, A33, c33, g31, rfl, hR⟩
      · simp only [addAfter, addL]
        refine ok_flow (fun W => Below W1.heap.size W1 W) Nil_ [0, 1, 2, 3, 5, 7, 10, 4, 6, 8, 9, 11] (fun _ => trivial) rfl (fun _ _ _ _ _ h => callsIn_wide.2 h) (by kernel_rfl) (by kernel_rfl) ((Below.refl _ W1).drew) (trivial) ?_
        refine flow_val ?_ rfl (by kernel_rfl) (by rfl) (fun W hW => ?_) ?_
        rotate_left 1
        · go_simp <;> with_reducible rfl
        simp only [Act.put, List.setIfInBounds_toArray, List.set_cons_succ, List.set_cons_zero]
        refine flow_val ?_ rfl (by kernel_rfl) (by rfl) (fun W hW => ?_) ?_
        rotate_left 1
        · go_simp <;> with_reducible rfl
        simp only [Act.put, List.setIfInBounds_toArray, List.set_cons_succ, List.set_cons_zero]
        refine flow_val ?_ rfl (by kernel_rfl) (by rfl) (fun W hW => ?_) ?_
        rotate_left 1
        · go_simp <;> with_reducible rfl
        simp only [Act.put, List.setIfInBounds_toArray, List.set_cons_succ, List.set_cons_zero]
        refine flow_val ?_ rfl (by kernel_rfl) (by rfl) (fun W hW => ?_) ?_
        rotate_left 1
        · have c1 : W.cell? ⟨p, 1, none⟩ = some (.int .i64 (s.sent + 1)) := (hW.cell (p := ⟨p, 1, none⟩) hp1).trans q1; go_simp <;> with_reducible rfl
        simp only [Act.put, List.setIfInBounds_toArray, List.set_cons_succ, List.set_cons_zero]
        refine flow_val ?_ rfl (by kernel_rfl) (by rfl) (fun W hW => ?_) ?_
        rotate_left 1
        · go_simp <;> with_reducible rfl
        simp only [Act.put, List.setIfInBounds_toArray, List.set_cons_succ, List.set_cons_zero]
        refine flow_val ?_ rfl (by kernel_rfl) (by rfl) (fun W hW => ?_) ?_
        rotate_left 1
        · go_simp <;> with_reducible rfl
        simp only [Act.put, List.setIfInBounds_toArray, List.set_cons_succ, List.set_cons_zero]
        refine flow_gmake (fun v W => ∃ g, v = .pointer (some ⟨g, 0, none⟩) ∧ W1.heap.size ≤ g ∧ W.heap[g]? = some (.cells #[.int .i64 0, .slice none 0 0, .int .i64 0, .int .i64 0] 91 (0, 0))) rfl (by kernel_rfl) (by rfl) (by kernel_rfl) (fun W hW hC => ?_) ?_
        · have hb : Below W.heap.size W (W.alloc (.cells #[.int .i64 0, .slice none 0 0, .int .i64 0, .int .i64 0] 91)) := (Below.refl _ W).alloc (Nat.le_refl _) _
          exact ⟨_, _, by go_simp <;> with_reducible rfl, hW.trans (hb.mono hW.size), ⟨_, rfl, hW.size, block_new _ _⟩⟩
        rintro v8 ⟨_, _, g8, rfl, hg81, _⟩
        simp only [Act.put, List.setIfInBounds_toArray, List.set_cons_succ, List.set_cons_zero]
        refine flow_gmake (fun v W => ∃ g', v = .slice (some ⟨g', 0, none⟩) 0 0 ∧ W.ownsRow W1.heap.size 5 1 (.slice (some ⟨g', 0, none⟩) 0 0) 0 [] ∧ W.heap[g8]? = some (.cells #[.int .i64 0, .slice none 0 0, .int .i64 0, .int .i64 0] 91 (0, 0))) rfl (by kernel_rfl) (by rfl) (by kernel_rfl) (fun W hW hC => ?_) ?_
        · have hC : W.heap[g8]? = some (.cells #[.int .i64 0, .slice none 0 0, .int .i64 0, .int .i64 0] 91 (0, 0)) := by
            obtain ⟨g2, e2, _, h2⟩ := hC
            injection e2 with e2
            injection e2 with e2
            injection e2 with e2 _ _
            subst e2
            exact h2
          have hb : Below W.heap.size W (W.alloc (.cells #[] 5)) := (Below.refl _ W).alloc (Nat.le_refl _) _
          exact ⟨_, _, by go_simp <;> with_reducible rfl, ⟨hW.1.trans (hb.mono hW.1.size), trivial⟩, ⟨_, rfl, own_low (own_of_cells W #[] 0 (Nat.zero_le _) rfl) hW.1.size, (hb.block _ (lt_of_block hC)).trans hC⟩⟩
        rintro v31 ⟨_, _, g31, rfl, _, _⟩
        simp only [Act.put, List.setIfInBounds_toArray, List.set_cons_succ, List.set_cons_zero]
        refine flow_gmake (fun v W => ByO W v bs ∧ W.heap[g8]? = some (.cells #[.int .i64 0, .slice none 0 0, .int .i64 0, .int .i64 0] 91 (0, 0))) rfl (by kernel_rfl) (by rfl) (by kernel_rfl) (fun W hW hC => ?_) ?_
        · have ho2 : W.ownsRow W1.heap.size 5 1 (.slice (some ⟨g31, 0, none⟩) 0 0) 0 [] := by
            obtain ⟨g2, e2, ho2, _⟩ := hC
            rw [e2]; exact ho2
          have hz8 : W.heap[g8]? = some (.cells #[.int .i64 0, .slice none 0 0, .int .i64 0, .int .i64 0] 91 (0, 0)) := by
            obtain ⟨_, _, _, h2⟩ := hC
            exact h2
          refine exec_append_rd (.tmp 31) (.tmp 32) 41 rfl W1.heap.size 5 i1 (.int .u8 0) 1 1 Try.underlying41 hi1 hy0 hy1 hy2 rfl (by decide) (.slice (some ⟨g31, 0, none⟩) 0 0) 0 [] rfl ho2 A bs.length c (bs.map u8v) rfl (bs_rd (HBs.out W hW.1.1)) (u8_one' _) (by unfold maxLen; omega) (by omega) hW.1.1.size (fun v' w' x2 x3 => ?_)
          have fx : Fr W1.heap.size [5] [] W w' := (Fr.refl W).grown x3 (fun j hj => by
            obtain ⟨hb, cs, hc⟩ := own_block ho2 hj
            exact ⟨hb, .inr ⟨cs, _, _, hc, by simp⟩⟩)
          exact ⟨⟨⟨hW.1.1.trans (fx.below hW.1.1.size), trivial⟩, trivial⟩, ⟨⟨RowU.of (own_low (by simpa using x2) (Nat.zero_le _)), H256.out⟩, fx.keep hz8 (by decide) (by simp)⟩⟩
        rintro v33 ⟨_, _, hv33, _⟩
        simp only [Act.put, List.setIfInBounds_toArray, List.set_cons_succ, List.set_cons_zero]
        obtain ⟨A33, c33, rfl, _, _, _, _⟩ := byo_slice hv33
        clear hv33
        refine flow_quiet (.int .i64 (nextL now 0)) rfl (by kernel_rfl) (by rfl) (fun W hW => ⟨_, _, by go_simp, rnext_any now 0 W hnow (by omega)⟩) ?_
        simp only [Act.put, List.setIfInBounds_toArray, List.set_cons_succ, List.set_cons_zero]
        refine flow_val ?_ rfl (by kernel_rfl) (by rfl) (fun W hW => ?_) ?_
        rotate_left 1
        · go_simp <;> with_reducible rfl
        simp only [Act.put, List.setIfInBounds_toArray, List.set_cons_succ, List.set_cons_zero]
        refine flow_bar (fun W => RS6 W1 s bs now g8 A33 c33 g31 W) (fun _ => True) rfl (by kernel_rfl) (by rfl) (by kernel_rfl) (by kernel_rfl) (fun W hW hC => ?_) ?_
        · obtain ⟨hbb, hz8⟩ := hC
          have hW := hW.1.1.1
          have q2 := cell_at hz8 0
          have q3 := cell_at hz8 1
          have q4 := cell_at hz8 2
          have q5 := cell_at hz8 3
          have g2 := frozen_at hz8 0
          have g3 := frozen_at hz8 1
          have g4 := frozen_at hz8 2
          have g5 := frozen_at hz8 3
          have HZ8 := Lib.hid hz8
          have HW := Lib.hid hW
          have HBB := Lib.hid hbb
          clear hz8 hW hbb
          refine ⟨_, by go_simp <;> with_reducible rfl, ⟨?_, hg81, ?_, ?_⟩, trivial⟩
          · simpa using block_set (block_set (block_set (block_set HZ8.out 0 (.int .i64 (s.sent + 1))) 1 (.slice A33 bs.length c33)) 2 (.int .i64 1)) 3 (.int .i64 (nextL now 0))
          · exact HBB.out.far ((((((Fr.refl W).setCell (B := 0) (T := []) (S := [g8]) (p := ⟨g8, 0, none⟩) _ (Nat.zero_le _) (.inl (by simp))).setCell (p := ⟨g8, 1, none⟩) _ (Nat.zero_le _) (.inl (by simp))).setCell (p := ⟨g8, 2, none⟩) _ (Nat.zero_le _) (.inl (by simp)))).setCell (p := ⟨g8, 3, none⟩) _ (Nat.zero_le _) (.inl (by simp))) HZ8.out (by decide)
          · exact ((((HW.out).setCell (p := ⟨g8, 0, none⟩) hg81 _).setCell (p := ⟨g8, 1, none⟩) hg81 _).setCell (p := ⟨g8, 2, none⟩) hg81 _).setCell (p := ⟨g8, 3, none⟩) hg81 _
        refine flow_end ?_
        rintro W ⟨hR, _⟩ _
        exact .inl ⟨by trivial, g8, A33, c33, g31, rfl, hR⟩
  case hk =>
    rintro g8 A33 c33 g31 W8 ⟨r1, hg81, r2, r3⟩
    have hg8 := lt_of_block r1
    have p8 := (r3.block _ hp1).trans BP.out
    have hp8 := lt_of_block p8
    have hsz8 := r3.size
    have hrow1 : W1.ownsRow 0 91 4 (.slice Av s.l.length cv) s.l.length (zs.flatMap encL) := FW.out.own H2.out (by simp) (fun k hk hm => (HGP.out k hk).1 (by simpa using hm))
    have hrow8 := (Fr.of_below (B := 0) (T := []) (S := []) r3).own hrow1 (by simp) (by simp)
    obtain ⟨_, _, e8, _, _, hrd8, _⟩ := own_slice hrow8
    injection e8 with e8 _ e9
    subst e8; subst e9
    have HRd8 : Hid (∀ W, Below W8.heap.size W8 W → Rd W 4 Av s.l.length (zs.flatMap encL)) := Lib.hid (fun W hW => hrd8.below hW)
    have hone := flatL_one H3.out
    have HONE := Lib.hid hone
    have y0 := cell_at r1 0
    have y1 := cell_at r1 1
    have y2 := cell_at r1 2
    have y3 := cell_at r1 3
    have x0 := cell_at p8 0
    have x1 := cell_at p8 2
    have hsw : w.heap.size < W1.heap.size := hn1
    have hg8p : g8 ≠ p := by omega
    have R1 := Lib.hid r1
    have R2 := Lib.hid r2
    have R3 := Lib.hid r3
    have P8 := Lib.hid p8
    clear r1 r2 r3 p8 hrow1 hrow8 hrd8 hone q1
    go_wp2_with fail
    apply wp_region_mid5 (M := RS7 W8 p s zs [.int .i64 (s.sent + 1), .slice A33 bs.length c33, .int .i64 1, .int .i64 (nextL now 0)]) (hm := by kernel_rfl)
    case h =>
      refine ok_split 8 6 (by decide) ?_ ?_
      · simp only [addAfter, addL]
        refine ok_flow (fun W => Below W8.heap.size W8 W) Nil_ [0, 2, 3, 4, 5, 7, 1, 6, 8, 9, 10, 11, 12] (fun _ => trivial) rfl (fun _ _ _ _ _ h => callsIn_wide.2 h) (by kernel_rfl) (by kernel_rfl) ((Below.refl _ W8).drew) (trivial) ?_
        refine flow_val ?_ rfl (by kernel_rfl) (by rfl) (fun W hW => ?_) ?_
        rotate_left 1
        · go_simp <;> with_reducible rfl
        simp only [Act.put, List.setIfInBounds_toArray, List.set_cons_succ, List.set_cons_zero]
        refine flow_val ?_ rfl (by kernel_rfl) (by rfl) (fun W hW => ?_) ?_
        rotate_left 1
        · go_simp <;> with_reducible rfl
        simp only [Act.put, List.setIfInBounds_toArray, List.set_cons_succ, List.set_cons_zero]
        refine flow_val ?_ rfl (by kernel_rfl) (by rfl) (fun W hW => ?_) ?_
        rotate_left 1
        · go_simp <;> with_reducible rfl
        simp only [Act.put, List.setIfInBounds_toArray, List.set_cons_succ, List.set_cons_zero]
        refine flow_val ?_ rfl (by kernel_rfl) (by rfl) (fun W hW => ?_) ?_
        rotate_left 1
        · go_simp <;> with_reducible rfl
        simp only [Act.put, List.setIfInBounds_toArray, List.set_cons_succ, List.set_cons_zero]
        refine flow_val ?_ rfl (by kernel_rfl) (by rfl) (fun W hW => ?_) ?_
        rotate_left 1
        · have c1 : W.cell? ⟨p, 0, none⟩ = some (.slice Av s.l.length cv) := (hW.cell (p := ⟨p, 0, none⟩) (hp8)).trans (x0); go_simp <;> with_reducible rfl
        simp only [Act.put, List.setIfInBounds_toArray, List.set_cons_succ, List.set_cons_zero]
        refine flow_val ?_ rfl (by kernel_rfl) (by rfl) (fun W hW => ?_) ?_
        rotate_left 1
        · have c1 : W.cell? ⟨g8, 0, none⟩ = some (.int .i64 (s.sent + 1)) := (hW.cell (p := ⟨g8, 0, none⟩) (hg8)).trans (y0); have c2 : W.cell? ⟨g8, 1, none⟩ = some (.slice A33 bs.length c33) := (hW.cell (p := ⟨g8, 1, none⟩) (hg8)).trans (y1); have c3 : W.cell? ⟨g8, 2, none⟩ = some (.int .i64 1) := (hW.cell (p := ⟨g8, 2, none⟩) (hg8)).trans (y2); have c4 : W.cell? ⟨g8, 3, none⟩ = some (.int .i64 (nextL now 0)) := (hW.cell (p := ⟨g8, 3, none⟩) (hg8)).trans (y3); go_simp <;> with_reducible rfl
        simp only [Act.put, List.setIfInBounds_toArray, List.set_cons_succ, List.set_cons_zero]
        refine flow_gmake (fun v W => ∃ g', v = .slice (some ⟨g', 0, none⟩) 0 0 ∧ W.ownsRow W8.heap.size 91 4 (.slice (some ⟨g', 0, none⟩) 0 0) 0 []) rfl (by kernel_rfl) (by rfl) (by kernel_rfl) (fun W hW hC => ?_) ?_
        · have hb : Below W.heap.size W (W.alloc (.cells #[] 91)) := (Below.refl _ W).alloc (Nat.le_refl _) _
          exact ⟨_, _, by go_simp <;> with_reducible rfl, hW.trans (hb.mono hW.size), ⟨_, rfl, own_low (own_none4 W _) hW.size⟩⟩
        rintro v38 ⟨_, _, g38, rfl, _⟩
        simp only [Act.put, List.setIfInBounds_toArray, List.set_cons_succ, List.set_cons_zero]
        refine flow_gmake (fun v43 W => W.ownsRow W8.heap.size 91 4 v43 s.l.length (zs.flatMap encL)) rfl (by kernel_rfl) (by rfl) (by kernel_rfl) (fun W hW hC => ?_) ?_
        · have ho2 : W.ownsRow W8.heap.size 91 4 (.slice (some ⟨g38, 0, none⟩) 0 0) 0 [] := by
            obtain ⟨g2, e2, ho2⟩ := hC
            rw [e2]; exact ho2
          refine exec_append_rd (.tmp 38) (.tmp 42) 53 rfl W8.heap.size 91 i0 (.agg #[.int .i64 0, .slice none 0 0, .int .i64 0, .int .i64 0]) 4 48 Try.underlying53 hi0 hz0 hz1 hz2 rfl (by decide) (.slice (some ⟨g38, 0, none⟩) 0 0) 0 [] rfl ho2 Av s.l.length cv (zs.flatMap encL) rfl (HRd8.out W hW.1) HONE.out (by unfold maxLen; omega) (by omega) hW.1.size (fun v' w' x2 x3 => ?_)
          have fx : Fr W8.heap.size [91] [] W w' := (Fr.refl W).grown x3 (fun j hj => by
            obtain ⟨hb, cs, hc⟩ := own_block ho2 hj
            exact ⟨hb, .inr ⟨cs, _, _, hc, by simp⟩⟩)
          exact ⟨⟨hW.1.trans (fx.below hW.1.size), trivial⟩, by simpa using x2⟩
        rintro v43 ⟨_, _, _⟩
        simp only [Act.put, List.setIfInBounds_toArray, List.set_cons_succ, List.set_cons_zero]
        refine flow_gmake (fun v W => ∃ g', v = .slice (some ⟨g', 0, none⟩) 1 1 ∧ W.heap[g']? = some (.cells #[.int .i64 (s.sent + 1), .slice A33 bs.length c33, .int .i64 1, .int .i64 (nextL now 0)] 91 (0, 0)) ∧ W.ownsRow W8.heap.size 91 4 v43 s.l.length (zs.flatMap encL)) rfl (by kernel_rfl) (by rfl) (by kernel_rfl) (fun W hW hC => ?_) ?_
        · have hb : Below W.heap.size W (W.alloc (.cells #[.int .i64 (s.sent + 1), .slice A33 bs.length c33, .int .i64 1, .int .i64 (nextL now 0)] 91)) := (Below.refl _ W).alloc (Nat.le_refl _) _
          exact ⟨_, _, by go_simp <;> with_reducible rfl, ⟨⟨hW.1.1.trans (hb.mono hW.1.1.size), trivial⟩, trivial⟩, ⟨_, rfl, block_new _ _, (Fr.of_below (B := 0) (T := []) (S := []) hb).own hC (by simp) (by simp)⟩⟩
        rintro v45 ⟨_, _, g45, rfl, _, _⟩
        simp only [Act.put, List.setIfInBounds_toArray, List.set_cons_succ, List.set_cons_zero]
        refine flow_gmake (fun v W => W.ownsRow W8.heap.size 91 4 v (s.l.length + 1) (zs.flatMap encL ++ [.int .i64 (s.sent + 1), .slice A33 bs.length c33, .int .i64 1, .int .i64 (nextL now 0)])) rfl (by kernel_rfl) (by rfl) (by kernel_rfl) (fun W hW hC => ?_) ?_
        · have hn2 : W.heap[g45]? = some (.cells #[.int .i64 (s.sent + 1), .slice A33 bs.length c33, .int .i64 1, .int .i64 (nextL now 0)] 91 (0, 0)) ∧ W.ownsRow W8.heap.size 91 4 v43 s.l.length (zs.flatMap encL) := by
            obtain ⟨g2, e2, hn2, ho2⟩ := hC
            injection e2 with e2
            injection e2 with e2
            injection e2 with e2 _ _
            subst e2
            exact ⟨hn2, ho2⟩
          obtain ⟨hn2, ho2⟩ := hn2
          refine exec_append_rd (.tmp 43) (.tmp 45) 53 rfl W8.heap.size 91 i0 (.agg #[.int .i64 0, .slice none 0 0, .int .i64 0, .int .i64 0]) 4 48 Try.underlying53 hi0 hz0 hz1 hz2 rfl (by decide) v43 _ _ rfl ho2 (some ⟨g45, 0, none⟩) 1 1 [.int .i64 (s.sent + 1), .slice A33 bs.length c33, .int .i64 1, .int .i64 (nextL now 0)] rfl ⟨rfl, fun _ => ⟨_, _, rfl, lt_of_block hn2, fun j u hu => ?_⟩⟩ (by simp [Value.oneCell']) (by unfold maxLen; omega) (by omega) hW.1.1.1.size (fun v' w' x2 x3 => ?_)
          · have hj : j = 0 ∨ j = 1 ∨ j = 2 ∨ j = 3 := by
              have := (List.getElem?_eq_some_iff.1 hu).1
              simp at this; omega
            rcases hj with rfl | rfl | rfl | rfl <;> (simp at hu; subst hu; rw [cell_at hn2]; rfl)
          have fx : Fr W8.heap.size [91] [] W w' := (Fr.refl W).grown x3 (fun j hj => by
            obtain ⟨hb, cs, hc⟩ := own_block ho2 hj
            exact ⟨hb, .inr ⟨cs, _, _, hc, by simp⟩⟩)
          exact ⟨⟨⟨⟨hW.1.1.1.trans (fx.below hW.1.1.1.size), trivial⟩, trivial⟩, trivial⟩, x2⟩
        rintro v46 ⟨_, _, hv46⟩
        obtain ⟨g46, c46, rfl⟩ := own_succ hv46
        clear hv46
        simp only [Act.put, List.setIfInBounds_toArray, List.set_cons_succ, List.set_cons_zero]
        refine flow_val ?_ rfl (by kernel_rfl) (by rfl) (fun W hW => ?_) ?_
        rotate_left 1
        · go_simp <;> with_reducible rfl
        simp only [Act.put, List.setIfInBounds_toArray, List.set_cons_succ, List.set_cons_zero]
        refine flow_val ?_ rfl (by kernel_rfl) (by rfl) (fun W hW => ?_) ?_
        rotate_left 1
        · go_simp <;> with_reducible rfl
        simp only [Act.put, List.setIfInBounds_toArray, List.set_cons_succ, List.set_cons_zero]
        refine flow_bar (fun W => RS7 W8 p s zs [.int .i64 (s.sent + 1), .slice A33 bs.length c33, .int .i64 1, .int .i64 (nextL now 0)] g38 v43 g45 g46 c46 W) (fun _ => True) rfl (by kernel_rfl) (by rfl) (by kernel_rfl) (by kernel_rfl) (fun W hW hC => ?_) ?_
        · have hW := hW.1.1.1.1
          have hk := (hW.block p hp8).trans P8.out
          have q1 := cell_at hk 0
          have q2 := frozen_at hk 0
          have HK := Lib.hid hk
          have HW := Lib.hid hW
          have HO := Lib.hid hC
          clear hk hW hC
          refine ⟨_, by go_simp <;> with_reducible rfl, ⟨?_, ?_, ?_⟩, trivial⟩
          · simpa using block_set HK.out 0 (.slice (some ⟨g46, 0, none⟩) (s.l.length + 1) c46)
          · have fs : Fr 0 [] [p] W (W.setCell ⟨p, 0, none⟩ (.slice (some ⟨g46, 0, none⟩) (s.l.length + 1) c46)) := (Fr.refl W).setCell (p := ⟨p, 0, none⟩) _ (Nat.zero_le _) (.inl (by simp))
            exact fs.own HO.out (by simp) (fun k hk hm => by
              obtain ⟨_, cs, hc⟩ := own_block HO.out hk
              simp at hm
              subst hm
              rw [HK.out] at hc
              injection hc with hc
              injection hc with _ e _
              exact absurd e (by decide))
          · exact (Fr.of_below HW.out).setCell (p := ⟨p, 0, none⟩) _ (Nat.zero_le _) (.inl (by simp))
        refine flow_end ?_
        rintro W ⟨hR, _⟩ _
        exact .inl ⟨by trivial, g38, v43, g45, g46, c46, rfl, hR⟩
      · refine ok_split 8 1 (by decide) ?_ ?_
        · simp only [addAfter, addL]
          refine ok_flow (fun W => Below W8.heap.size W8 W) Nil_ [0, 2, 3, 4, 5, 7, 1, 8, 6, 9, 10, 11, 12] (fun _ => trivial) rfl (fun _ _ _ _ _ h => callsIn_wide.2 h) (by kernel_rfl) (by kernel_rfl) ((Below.refl _ W8).drew) (trivial) ?_
          refine flow_val ?_ rfl (by kernel_rfl) (by rfl) (fun W hW => ?_) ?_
          rotate_left 1
          · go_simp <;> with_reducible rfl
          simp only [Act.put, List.setIfInBounds_toArray, List.set_cons_succ, List.set_cons_zero]
          refine flow_val ?_ rfl (by kernel_rfl) (by rfl) (fun W hW => ?_) ?_
          rotate_left 1
          · go_simp <;> with_reducible rfl
          simp only [Act.put, List.setIfInBounds_toArray, List.set_cons_succ, List.set_cons_zero]
          refine flow_val ?_ rfl (by kernel_rfl) (by rfl) (fun W hW => ?_) ?_
          rotate_left 1
          · go_simp <;> with_reducible rfl
          simp only [Act.put, List.setIfInBounds_toArray, List.set_cons_succ, List.set_cons_zero]
          refine flow_val ?_ rfl (by kernel_rfl) (by rfl) (fun W hW => ?_) ?_
          rotate_left 1
          · go_simp <;> with_reducible rfl
          simp only [Act.put, List.setIfInBounds_toArray, List.set_cons_succ, List.set_cons_zero]
          refine flow_val ?_ rfl (by kernel_rfl) (by rfl) (fun W hW => ?_) ?_
          rotate_left 1
          · have c1 : W.cell? ⟨p, 0, none⟩ = some (.slice Av s.l.length cv) := (hW.cell (p := ⟨p, 0, none⟩) (hp8)).trans (x0); go_simp <;> with_reducible rfl
          simp only [Act.put, List.setIfInBounds_toArray, List.set_cons_succ, List.set_cons_zero]
          refine flow_val ?_ rfl (by kernel_rfl) (by rfl) (fun W hW => ?_) ?_
          rotate_left 1
          · have c1 : W.cell? ⟨g8, 0, none⟩ = some (.int .i64 (s.sent + 1)) := (hW.cell (p := ⟨g8, 0, none⟩) (hg8)).trans (y0); have c2 : W.cell? ⟨g8, 1, none⟩ = some (.slice A33 bs.length c33) := (hW.cell (p := ⟨g8, 1, none⟩) (hg8)).trans (y1); have c3 : W.cell? ⟨g8, 2, none⟩ = some (.int .i64 1) := (hW.cell (p := ⟨g8, 2, none⟩) (hg8)).trans (y2); have c4 : W.cell? ⟨g8, 3, none⟩ = some (.int .i64 (nextL now 0)) := (hW.cell (p := ⟨g8, 3, none⟩) (hg8)).trans (y3); go_simp <;> with_reducible rfl
          simp only [Act.put, List.setIfInBounds_toArray, List.set_cons_succ, List.set_cons_zero]
          refine flow_gmake (fun v W => ∃ g', v = .slice (some ⟨g', 0, none⟩) 0 0 ∧ W.ownsRow W8.heap.size 91 4 (.slice (some ⟨g', 0, none⟩) 0 0) 0 []) rfl (by kernel_rfl) (by rfl) (by kernel_rfl) (fun W hW hC => ?_) ?_
          · have hb : Below W.heap.size W (W.alloc (.cells #[] 91)) := (Below.refl _ W).alloc (Nat.le_refl _) _
            exact ⟨_, _, by go_simp <;> with_reducible rfl, hW.trans (hb.mono hW.size), ⟨_, rfl, own_low (own_none4 W _) hW.size⟩⟩
          rintro v38 ⟨_, _, g38, rfl, _⟩
          simp only [Act.put, List.setIfInBounds_toArray, List.set_cons_succ, List.set_cons_zero]
          refine flow_gmake (fun v W => ∃ g', v = .slice (some ⟨g', 0, none⟩) 1 1 ∧ W.heap[g']? = some (.cells #[.int .i64 (s.sent + 1), .slice A33 bs.length c33, .int .i64 1, .int .i64 (nextL now 0)] 91 (0, 0)) ∧ W.ownsRow W8.heap.size 91 4 (.slice (some ⟨g38, 0, none⟩) 0 0) 0 [] ∧ g38 ≠ g') rfl (by kernel_rfl) (by rfl) (by kernel_rfl) (fun W hW hC => ?_) ?_
          · have hb : Below W.heap.size W (W.alloc (.cells #[.int .i64 (s.sent + 1), .slice A33 bs.length c33, .int .i64 1, .int .i64 (nextL now 0)] 91)) := (Below.refl _ W).alloc (Nat.le_refl _) _
            have hC2 : W.ownsRow W8.heap.size 91 4 (.slice (some ⟨g38, 0, none⟩) 0 0) 0 [] := by
              obtain ⟨g2, e2, ho2⟩ := hC
              rw [e2]; exact ho2
            exact ⟨_, _, by go_simp <;> with_reducible rfl, ⟨hW.1.trans (hb.mono hW.1.size), trivial⟩, ⟨_, rfl, block_new _ _, (Fr.of_below (B := 0) (T := []) (S := []) hb).own hC2 (by simp) (by simp), by
              obtain ⟨_, cs, hc⟩ := own_block hC2 (by simp [Value.ownBlock] : (Value.slice (some ⟨g38, 0, none⟩) 0 0).ownBlock = some g38)
              have := lt_of_block hc
              omega⟩⟩
          rintro v45 ⟨_, _, g45, rfl, _, _, hne⟩
          simp only [Act.put, List.setIfInBounds_toArray, List.set_cons_succ, List.set_cons_zero]
          refine flow_gmake (fun v43 W => W.ownsRow W8.heap.size 91 4 v43 s.l.length (zs.flatMap encL) ∧ W.heap[g45]? = some (.cells #[.int .i64 (s.sent + 1), .slice A33 bs.length c33, .int .i64 1, .int .i64 (nextL now 0)] 91 (0, 0))) rfl (by kernel_rfl) (by rfl) (by kernel_rfl) (fun W hW hC => ?_) ?_
          · have hn2 : W.heap[g45]? = some (.cells #[.int .i64 (s.sent + 1), .slice A33 bs.length c33, .int .i64 1, .int .i64 (nextL now 0)] 91 (0, 0)) ∧ W.ownsRow W8.heap.size 91 4 (.slice (some ⟨g38, 0, none⟩) 0 0) 0 [] := by
              obtain ⟨g2, e2, h2, ho2, _⟩ := hC
              injection e2 with e2
              injection e2 with e2
              injection e2 with e2 _ _
              subst e2
              exact ⟨h2, ho2⟩
            obtain ⟨hn2, ho2⟩ := hn2
            refine exec_append_rd (.tmp 38) (.tmp 42) 53 rfl W8.heap.size 91 i0 (.agg #[.int .i64 0, .slice none 0 0, .int .i64 0, .int .i64 0]) 4 48 Try.underlying53 hi0 hz0 hz1 hz2 rfl (by decide) (.slice (some ⟨g38, 0, none⟩) 0 0) 0 [] rfl ho2 Av s.l.length cv (zs.flatMap encL) rfl (HRd8.out W hW.1.1) HONE.out (by unfold maxLen; omega) (by omega) hW.1.1.size (fun v' w' x2 x3 => ?_)
            have fx : Fr W8.heap.size [91] [] W w' := (Fr.refl W).grown x3 (fun j hj => by
              obtain ⟨hb, cs, hc⟩ := own_block ho2 hj
              exact ⟨hb, .inr ⟨cs, _, _, hc, by simp⟩⟩)
            have fy : Fr 0 [] [g38] W w' := (Fr.refl W).grown x3 (fun j hj => ⟨Nat.zero_le _, .inl (by simp [Value.ownBlock] at hj; simp [hj])⟩)
            exact ⟨⟨⟨hW.1.1.trans (fx.below hW.1.1.size), trivial⟩, trivial⟩, ⟨by simpa using x2, (fy.block g45 (lt_of_block hn2) (.inr ⟨fun _ _ _ _ => by simp, by simp; omega⟩)).trans hn2⟩⟩
          rintro v43 ⟨_, _, _, _⟩
          simp only [Act.put, List.setIfInBounds_toArray, List.set_cons_succ, List.set_cons_zero]
          refine flow_gmake (fun v W => W.ownsRow W8.heap.size 91 4 v (s.l.length + 1) (zs.flatMap encL ++ [.int .i64 (s.sent + 1), .slice A33 bs.length c33, .int .i64 1, .int .i64 (nextL now 0)])) rfl (by kernel_rfl) (by rfl) (by kernel_rfl) (fun W hW hC => ?_) ?_
          · have hn2 : W.heap[g45]? = some (.cells #[.int .i64 (s.sent + 1), .slice A33 bs.length c33, .int .i64 1, .int .i64 (nextL now 0)] 91 (0, 0)) ∧ W.ownsRow W8.heap.size 91 4 v43 s.l.length (zs.flatMap encL) := by
              exact ⟨hC.2, hC.1⟩
            obtain ⟨hn2, ho2⟩ := hn2
            refine exec_append_rd (.tmp 43) (.tmp 45) 53 rfl W8.heap.size 91 i0 (.agg #[.int .i64 0, .slice none 0 0, .int .i64 0, .int .i64 0]) 4 48 Try.underlying53 hi0 hz0 hz1 hz2 rfl (by decide) v43 _ _ rfl ho2 (some ⟨g45, 0, none⟩) 1 1 [.int .i64 (s.sent + 1), .slice A33 bs.length c33, .int .i64 1, .int .i64 (nextL now 0)] rfl ⟨rfl, fun _ => ⟨_, _, rfl, lt_of_block hn2, fun j u hu => ?_⟩⟩ (by simp [Value.oneCell']) (by unfold maxLen; omega) (by omega) hW.1.1.1.size (fun v' w' x2 x3 => ?_)
            · have hj : j = 0 ∨ j = 1 ∨ j = 2 ∨ j = 3 := by
                have := (List.getElem?_eq_some_iff.1 hu).1
                simp at this; omega
              rcases hj with rfl | rfl | rfl | rfl <;> (simp at hu; subst hu; rw [cell_at hn2]; rfl)
            have fx : Fr W8.heap.size [91] [] W w' := (Fr.refl W).grown x3 (fun j hj => by
              obtain ⟨hb, cs, hc⟩ := own_block ho2 hj
              exact ⟨hb, .inr ⟨cs, _, _, hc, by simp⟩⟩)
            exact ⟨⟨⟨⟨hW.1.1.1.trans (fx.below hW.1.1.1.size), trivial⟩, trivial⟩, trivial⟩, x2⟩
          rintro v46 ⟨_, _, hv46⟩
          obtain ⟨g46, c46, rfl⟩ := own_succ hv46
          clear hv46
          simp only [Act.put, List.setIfInBounds_toArray, List.set_cons_succ, List.set_cons_zero]
          refine flow_val ?_ rfl (by kernel_rfl) (by rfl) (fun W hW => ?_) ?_
          rotate_left 1
          · go_simp <;> with_reducible rfl
          simp only [Act.put, List.setIfInBounds_toArray, List.set_cons_succ, List.set_cons_zero]
          refine flow_val ?_ rfl (by kernel_rfl) (by rfl) (fun W hW => ?_) ?_
          rotate_left 1
          · go_simp <;> with_reducible rfl
          simp only [Act.put, List.setIfInBounds_toArray, List.set_cons_succ, List.set_cons_zero]
          refine flow_bar (fun W => RS7 W8 p s zs [.int .i64 (s.sent + 1), .slice A33 bs.length c33, .int .i64 1, .int .i64 (nextL now 0)] g38 v43 g45 g46 c46 W) (fun _ => True) rfl (by kernel_rfl) (by rfl) (by kernel_rfl) (by kernel_rfl) (fun W hW hC => ?_) ?_
          · have hW := hW.1.1.1.1
            have hk := (hW.block p hp8).trans P8.out
            have q1 := cell_at hk 0
            have q2 := frozen_at hk 0
            have HK := Lib.hid hk
            have HW := Lib.hid hW
            have HO := Lib.hid hC
            clear hk hW hC
            refine ⟨_, by go_simp <;> with_reducible rfl, ⟨?_, ?_, ?_⟩, trivial⟩
            · simpa using block_set HK.out 0 (.slice (some ⟨g46, 0, none⟩) (s.l.length + 1) c46)
            · have fs : Fr 0 [] [p] W (W.setCell ⟨p, 0, none⟩ (.slice (some ⟨g46, 0, none⟩) (s.l.length + 1) c46)) := (Fr.refl W).setCell (p := ⟨p, 0, none⟩) _ (Nat.zero_le _) (.inl (by simp))
              exact fs.own HO.out (by simp) (fun k hk hm => by
                obtain ⟨_, cs, hc⟩ := own_block HO.out hk
                simp at hm
                subst hm
                rw [HK.out] at hc
                injection hc with hc
                injection hc with _ e _
                exact absurd e (by decide))
            · exact (Fr.of_below HW.out).setCell (p := ⟨p, 0, none⟩) _ (Nat.zero_le _) (.inl (by simp))
          refine flow_end ?_
          rintro W ⟨hR, _⟩ _
          exact .inl ⟨by trivial, g38, v43, g45, g46, c46, rfl, hR⟩
        · simp only [addAfter, addL]
          refine ok_flow (fun W => Below W8.heap.size W8 W) Nil_ [0, 2, 3, 4, 5, 7, 8, 1, 6, 9, 10, 11, 12] (fun _ => trivial) rfl (fun _ _ _ _ _ h => callsIn_wide.2 h) (by kernel_rfl) (by kernel_rfl) ((Below.refl _ W8).drew) (trivial) ?_
          refine flow_val ?_ rfl (by kernel_rfl) (by rfl) (fun W hW => ?_) ?_
          rotate_left 1
          · go_simp <;> with_reducible rfl
          simp only [Act.put, List.setIfInBounds_toArray, List.set_cons_succ, List.set_cons_zero]
          refine flow_val ?_ rfl (by kernel_rfl) (by rfl) (fun W hW => ?_) ?_
          rotate_left 1
          · go_simp <;> with_reducible rfl
          simp only [Act.put, List.setIfInBounds_toArray, List.set_cons_succ, List.set_cons_zero]
          refine flow_val ?_ rfl (by kernel_rfl) (by rfl) (fun W hW => ?_) ?_
          rotate_left 1
          · go_simp <;> with_reducible rfl
          simp only [Act.put, List.setIfInBounds_toArray, List.set_cons_succ, List.set_cons_zero]
          refine flow_val ?_ rfl (by kernel_rfl) (by rfl) (fun W hW => ?_) ?_
          rotate_left 1
          · go_simp <;> with_reducible rfl
          simp only [Act.put, List.setIfInBounds_toArray, List.set_cons_succ, List.set_cons_zero]
          refine flow_val ?_ rfl (by kernel_rfl) (by rfl) (fun W hW => ?_) ?_
          rotate_left 1
          · have c1 : W.cell? ⟨p, 0, none⟩ = some (.slice Av s.l.length cv) := (hW.cell (p := ⟨p, 0, none⟩) (hp8)).trans (x0); go_simp <;> with_reducible rfl
          simp only [Act.put, List.setIfInBounds_toArray, List.set_cons_succ, List.set_cons_zero]
          refine flow_val ?_ rfl (by kernel_rfl) (by rfl) (fun W hW => ?_) ?_
          rotate_left 1
          · have c1 : W.cell? ⟨g8, 0, none⟩ = some (.int .i64 (s.sent + 1)) := (hW.cell (p := ⟨g8, 0, none⟩) (hg8)).trans (y0); have c2 : W.cell? ⟨g8, 1, none⟩ = some (.slice A33 bs.length c33) := (hW.cell (p := ⟨g8, 1, none⟩) (hg8)).trans (y1); have c3 : W.cell? ⟨g8, 2, none⟩ = some (.int .i64 1) := (hW.cell (p := ⟨g8, 2, none⟩) (hg8)).trans (y2); have c4 : W.cell? ⟨g8, 3, none⟩ = some (.int .i64 (nextL now 0)) := (hW.cell (p := ⟨g8, 3, none⟩) (hg8)).trans (y3); go_simp <;> with_reducible rfl
          simp only [Act.put, List.setIfInBounds_toArray, List.set_cons_succ, List.set_cons_zero]
          refine flow_gmake (fun v W => ∃ g', v = .slice (some ⟨g', 0, none⟩) 1 1 ∧ W.heap[g']? = some (.cells #[.int .i64 (s.sent + 1), .slice A33 bs.length c33, .int .i64 1, .int .i64 (nextL now 0)] 91 (0, 0))) rfl (by kernel_rfl) (by rfl) (by kernel_rfl) (fun W hW hC => ?_) ?_
          · have hb : Below W.heap.size W (W.alloc (.cells #[.int .i64 (s.sent + 1), .slice A33 bs.length c33, .int .i64 1, .int .i64 (nextL now 0)] 91)) := (Below.refl _ W).alloc (Nat.le_refl _) _
            exact ⟨_, _, by go_simp <;> with_reducible rfl, hW.trans (hb.mono hW.size), ⟨_, rfl, block_new _ _⟩⟩
          rintro v45 ⟨_, _, g45, rfl, _⟩
          simp only [Act.put, List.setIfInBounds_toArray, List.set_cons_succ, List.set_cons_zero]
          refine flow_gmake (fun v W => ∃ g', v = .slice (some ⟨g', 0, none⟩) 0 0 ∧ W.ownsRow W8.heap.size 91 4 (.slice (some ⟨g', 0, none⟩) 0 0) 0 [] ∧ W.heap[g45]? = some (.cells #[.int .i64 (s.sent + 1), .slice A33 bs.length c33, .int .i64 1, .int .i64 (nextL now 0)] 91 (0, 0)) ∧ g' ≠ g45) rfl (by kernel_rfl) (by rfl) (by kernel_rfl) (fun W hW hC => ?_) ?_
          · have hb : Below W.heap.size W (W.alloc (.cells #[] 91)) := (Below.refl _ W).alloc (Nat.le_refl _) _
            have hn2 : W.heap[g45]? = some (.cells #[.int .i64 (s.sent + 1), .slice A33 bs.length c33, .int .i64 1, .int .i64 (nextL now 0)] 91 (0, 0)) := by
              obtain ⟨g2, e2, h2⟩ := hC
              injection e2 with e2
              injection e2 with e2
              injection e2 with e2 _ _
              subst e2
              exact h2
            exact ⟨_, _, by go_simp <;> with_reducible rfl, ⟨hW.1.trans (hb.mono hW.1.size), trivial⟩, ⟨_, rfl, own_low (own_none4 W _) hW.1.size, (hb.block _ (lt_of_block hn2)).trans hn2, by have := lt_of_block hn2; omega⟩⟩
          rintro v38 ⟨_, _, g38, rfl, _, _, hne⟩
          simp only [Act.put, List.setIfInBounds_toArray, List.set_cons_succ, List.set_cons_zero]
          refine flow_gmake (fun v43 W => W.ownsRow W8.heap.size 91 4 v43 s.l.length (zs.flatMap encL) ∧ W.heap[g45]? = some (.cells #[.int .i64 (s.sent + 1), .slice A33 bs.length c33, .int .i64 1, .int .i64 (nextL now 0)] 91 (0, 0))) rfl (by kernel_rfl) (by rfl) (by kernel_rfl) (fun W hW hC => ?_) ?_
          · have hn2 : W.heap[g45]? = some (.cells #[.int .i64 (s.sent + 1), .slice A33 bs.length c33, .int .i64 1, .int .i64 (nextL now 0)] 91 (0, 0)) ∧ W.ownsRow W8.heap.size 91 4 (.slice (some ⟨g38, 0, none⟩) 0 0) 0 [] := by
              obtain ⟨g2, e2, ho2, h2, _⟩ := hC
              injection e2 with e2
              injection e2 with e2
              injection e2 with e2 _ _
              subst e2
              exact ⟨h2, ho2⟩
            obtain ⟨hn2, ho2⟩ := hn2
            refine exec_append_rd (.tmp 38) (.tmp 42) 53 rfl W8.heap.size 91 i0 (.agg #[.int .i64 0, .slice none 0 0, .int .i64 0, .int .i64 0]) 4 48 Try.underlying53 hi0 hz0 hz1 hz2 rfl (by decide) (.slice (some ⟨g38, 0, none⟩) 0 0) 0 [] rfl ho2 Av s.l.length cv (zs.flatMap encL) rfl (HRd8.out W hW.1.1) HONE.out (by unfold maxLen; omega) (by omega) hW.1.1.size (fun v' w' x2 x3 => ?_)
            have fx : Fr W8.heap.size [91] [] W w' := (Fr.refl W).grown x3 (fun j hj => by
              obtain ⟨hb, cs, hc⟩ := own_block ho2 hj
              exact ⟨hb, .inr ⟨cs, _, _, hc, by simp⟩⟩)
            have fy : Fr 0 [] [g38] W w' := (Fr.refl W).grown x3 (fun j hj => ⟨Nat.zero_le _, .inl (by simp [Value.ownBlock] at hj; simp [hj])⟩)
            exact ⟨⟨⟨hW.1.1.trans (fx.below hW.1.1.size), trivial⟩, trivial⟩, ⟨by simpa using x2, (fy.block g45 (lt_of_block hn2) (.inr ⟨fun _ _ _ _ => by simp, by simp; omega⟩)).trans hn2⟩⟩
          rintro v43 ⟨_, _, _, _⟩
          simp only [Act.put, List.setIfInBounds_toArray, List.set_cons_succ, List.set_cons_zero]
          refine flow_gmake (fun v W => W.ownsRow W8.heap.size 91 4 v (s.l.length + 1) (zs.flatMap encL ++ [.int .i64 (s.sent + 1), .slice A33 bs.length c33, .int .i64 1, .int .i64 (nextL now 0)])) rfl (by kernel_rfl) (by rfl) (by kernel_rfl) (fun W hW hC => ?_) ?_
          · have hn2 : W.heap[g45]? = some (.cells #[.int .i64 (s.sent + 1), .slice A33 bs.length c33, .int .i64 1, .int .i64 (nextL now 0)] 91 (0, 0)) ∧ W.ownsRow W8.heap.size 91 4 v43 s.l.length (zs.flatMap encL) := by
              exact ⟨hC.2, hC.1⟩
            obtain ⟨hn2, ho2⟩ := hn2
            refine exec_append_rd (.tmp 43) (.tmp 45) 53 rfl W8.heap.size 91 i0 (.agg #[.int .i64 0, .slice none 0 0, .int .i64 0, .int .i64 0]) 4 48 Try.underlying53 hi0 hz0 hz1 hz2 rfl (by decide) v43 _ _ rfl ho2 (some ⟨g45, 0, none⟩) 1 1 [.int .i64 (s.sent + 1), .slice A33 bs.length c33, .int .i64 1, .int .i64 (nextL now 0)] rfl ⟨rfl, fun _ => ⟨_, _, rfl, lt_of_block hn2, fun j u hu => ?_⟩⟩ (by simp [Value.oneCell']) (by unfold maxLen; omega) (by omega) hW.1.1.1.size (fun v' w' x2 x3 => ?_)
            · have hj : j = 0 ∨ j = 1 ∨ j = 2 ∨ j = 3 := by
                have := (List.getElem?_eq_some_iff.1 hu).1
                simp at this; omega
              rcases hj with rfl | rfl | rfl | rfl <;> (simp at hu; subst hu; rw [cell_at hn2]; rfl)
            have fx : Fr W8.heap.size [91] [] W w' := (Fr.refl W).grown x3 (fun j hj => by
              obtain ⟨hb, cs, hc⟩ := own_block ho2 hj
              exact ⟨hb, .inr ⟨cs, _, _, hc, by simp⟩⟩)
            exact ⟨⟨⟨⟨hW.1.1.1.trans (fx.below hW.1.1.1.size), trivial⟩, trivial⟩, trivial⟩, x2⟩
          rintro v46 ⟨_, _, hv46⟩
          obtain ⟨g46, c46, rfl⟩ := own_succ hv46
          clear hv46
          simp only [Act.put, List.setIfInBounds_toArray, List.set_cons_succ, List.set_cons_zero]
          refine flow_val ?_ rfl (by kernel_rfl) (by rfl) (fun W hW => ?_) ?_
          rotate_left 1
          · go_simp <;> with_reducible rfl
          simp only [Act.put, List.setIfInBounds_toArray, List.set_cons_succ, List.set_cons_zero]
          refine flow_val ?_ rfl (by kernel_rfl) (by rfl) (fun W hW => ?_) ?_
          rotate_left 1
          · go_simp <;> with_reducible rfl
          simp only [Act.put, List.setIfInBounds_toArray, List.set_cons_succ, List.set_cons_zero]
          refine flow_bar (fun W => RS7 W8 p s zs [.int .i64 (s.sent + 1), .slice A33 bs.length c33, .int .i64 1, .int .i64 (nextL now 0)] g38 v43 g45 g46 c46 W) (fun _ => True) rfl (by kernel_rfl) (by rfl) (by kernel_rfl) (by kernel_rfl) (fun W hW hC => ?_) ?_
          · have hW := hW.1.1.1.1
            have hk := (hW.block p hp8).trans P8.out
            have q1 := cell_at hk 0
            have q2 := frozen_at hk 0
            have HK := Lib.hid hk
            have HW := Lib.hid hW
            have HO := Lib.hid hC
            clear hk hW hC
            refine ⟨_, by go_simp <;> with_reducible rfl, ⟨?_, ?_, ?_⟩, trivial⟩
            · simpa using block_set HK.out 0 (.slice (some ⟨g46, 0, none⟩) (s.l.length + 1) c46)
            · have fs : Fr 0 [] [p] W (W.setCell ⟨p, 0, none⟩ (.slice (some ⟨g46, 0, none⟩) (s.l.length + 1) c46)) := (Fr.refl W).setCell (p := ⟨p, 0, none⟩) _ (Nat.zero_le _) (.inl (by simp))
              exact fs.own HO.out (by simp) (fun k hk hm => by
                obtain ⟨_, cs, hc⟩ := own_block HO.out hk
                simp at hm
                subst hm
                rw [HK.out] at hc
                injection hc with hc
                injection hc with _ e _
                exact absurd e (by decide))
            · exact (Fr.of_below HW.out).setCell (p := ⟨p, 0, none⟩) _ (Nat.zero_le _) (.inl (by simp))
          refine flow_end ?_
          rintro W ⟨hR, _⟩ _
          exact .inl ⟨by trivial, g38, v43, g45, g46, c46, rfl, hR⟩
    case hk =>
      rintro g38 v43 g45 g46 c46 W9 ⟨t1, t2, t3⟩
      have hE9 : IsX W9 p (some g46) ⟨s.l ++ [⟨s.sent + 1, bs, 1, nextL now 0⟩], s.sent + 1, s.mark⟩ := by
        refine ⟨_, t1, zs ++ [⟨⟨s.sent + 1, bs, 1, nextL now 0⟩, .slice A33 bs.length c33⟩], by simp [HZS.out], ?_, by simp [Value.ownBlock], fun z hz => ?_⟩
        · have := own_low t2 (Nat.zero_le _)
          simpa [encL] using this
        · rcases List.mem_append.1 hz with hz | hz
          · exact ((((H3.out z hz).far FW.out H1.out (by decide)).below R3.out)).far t3 P8.out (by decide)
          · rw [List.mem_singleton.1 hz]
            exact R2.out.far t3 P8.out (by decide)
      have b9 := (t3.block g8 hg8 (.inr ⟨fun _ _ _ _ => by simp, by simpa using hg8p⟩)).trans R1.out
      have n9 := (t3.block w.heap.size (by omega) (.inr ⟨fun _ _ _ _ => by simp, by simp; omega⟩)).trans ((R3.out.block _ hn1).trans BN.out)
      have e0 := cell_at b9 0
      have e1 := cell_at b9 1
      have e2 := cell_at t1 2
      have hp9 := lt_of_block t1
      have hg9 := lt_of_block b9
      have hg46 : W8.heap.size ≤ g46 := (own_block t2 (by simp [Value.ownBlock] : (Value.slice (some ⟨g46, 0, none⟩) (s.l.length + 1) c46).ownBlock = some g46)).1
      have HE9 := Lib.hid hE9
      have HBo : Hid (ByO W9 (.slice A33 bs.length c33) bs) := Lib.hid (R2.out.far t3 P8.out (by decide))
      have N9 := Lib.hid n9
      have F9 : Hid (Fr 0 [] (p :: G.toList) w W9) := Lib.hid ((FWP.out.trans (Fr.of_below R3.out)).trans (t3.mono (Nat.le_refl _) (fun _ h => h) (fun k hk => by simp at hk; simp [hk])))
      have hwn : w.heap.size < W9.heap.size := lt_of_block n9
      clear b9 n9 t1 t2 t3 hE9 y0 y1 y2 y3 x0 x1
      go_wp2_with fail
      refine wp_region_flow (fun W => Below W9.heap.size W9 W) [0, 1, 2, 3, 4, 5, 6, 7, 8, 9, 10] (by kernel_rfl) (by kernel_rfl) (by kernel_rfl) ((Below.refl _ W9).drew) ?_
      refine flow_val ?_ rfl (by kernel_rfl) (by rfl) (fun W hW => ?_) ?_
      rotate_left 1
      · go_simp <;> with_reducible rfl
      simp only [Act.put, List.setIfInBounds_toArray, List.set_cons_succ, List.set_cons_zero]
      refine flow_val ?_ rfl (by kernel_rfl) (by rfl) (fun W hW => ?_) ?_
      rotate_left 1
      · have c1 : W.cell? ⟨g8, 0, none⟩ = some (.int .i64 (s.sent + 1)) := (hW.cell (p := ⟨g8, 0, none⟩) (hg9)).trans (e0); go_simp <;> with_reducible rfl
      simp only [Act.put, List.setIfInBounds_toArray, List.set_cons_succ, List.set_cons_zero]
      refine flow_val ?_ rfl (by kernel_rfl) (by rfl) (fun W hW => ?_) ?_
      rotate_left 1
      · go_simp <;> with_reducible rfl
      simp only [Act.put, List.setIfInBounds_toArray, List.set_cons_succ, List.set_cons_zero]
      refine flow_val ?_ rfl (by kernel_rfl) (by rfl) (fun W hW => ?_) ?_
      rotate_left 1
      · go_simp <;> with_reducible rfl
      simp only [Act.put, List.setIfInBounds_toArray, List.set_cons_succ, List.set_cons_zero]
      refine flow_val ?_ rfl (by kernel_rfl) (by rfl) (fun W hW => ?_) ?_
      rotate_left 1
      · go_simp <;> with_reducible rfl
      simp only [Act.put, List.setIfInBounds_toArray, List.set_cons_succ, List.set_cons_zero]
      refine flow_val ?_ rfl (by kernel_rfl) (by rfl) (fun W hW => ?_) ?_
      rotate_left 1
      · have c1 : W.cell? ⟨p, 2, none⟩ = some (.int .i64 s.mark) := (hW.cell (p := ⟨p, 2, none⟩) (hp9)).trans (e2); go_simp <;> with_reducible rfl
      simp only [Act.put, List.setIfInBounds_toArray, List.set_cons_succ, List.set_cons_zero]
      refine flow_val ?_ rfl (by kernel_rfl) (by rfl) (fun W hW => ?_) ?_
      rotate_left 1
      · go_simp <;> with_reducible rfl
      simp only [Act.put, List.setIfInBounds_toArray, List.set_cons_succ, List.set_cons_zero]
      refine flow_val ?_ rfl (by kernel_rfl) (by rfl) (fun W hW => ?_) ?_
      rotate_left 1
      · have c1 : W.cell? ⟨g8, 1, none⟩ = some (.slice A33 bs.length c33) := (hW.cell (p := ⟨g8, 1, none⟩) (hg9)).trans (e1); go_simp <;> with_reducible rfl
      simp only [Act.put, List.setIfInBounds_toArray, List.set_cons_succ, List.set_cons_zero]
      refine flow_val ?_ rfl (by kernel_rfl) (by rfl) (fun W hW => ?_) ?_
      rotate_left 1
      · go_simp <;> with_reducible rfl
      simp only [Act.put, List.setIfInBounds_toArray, List.set_cons_succ, List.set_cons_zero]
      refine flow_bar (fun W => W.heap[w.heap.size]? = some (.cells #[.int .i64 (s.sent + 1), .int .i64 s.mark, .slice A33 bs.length c33] 43 (0, 0)) ∧ IsX W p (some g46) ⟨s.l ++ [⟨s.sent + 1, bs, 1, nextL now 0⟩], s.sent + 1, s.mark⟩ ∧ Fr 0 [] (p :: G.toList) w W ∧ ByO W (.slice A33 bs.length c33) bs) (fun _ => True) rfl (by kernel_rfl) (by rfl) (by kernel_rfl) (by kernel_rfl) (fun W hW hC => ?_) ?_
      · have hk4 := (hW.block _ hwn).trans N9.out
        have q0 := cell_at hk4 0
        have q1 := cell_at hk4 1
        have q2 := cell_at hk4 2
        have g0 := frozen_at hk4 0
        have g1 := frozen_at hk4 1
        have g2 := frozen_at hk4 2
        have HK4 := Lib.hid hk4
        have HWW := Lib.hid hW
        clear hC
        clear hk4 hW
        refine ⟨_, by go_simp <;> with_reducible rfl, ⟨?_, ?_, ?_, ?_⟩, trivial⟩
        · simpa using block_set (block_set (block_set HK4.out 0 (.int .i64 (s.sent + 1))) 1 (.int .i64 s.mark)) 2 (.slice A33 bs.length c33)
        · obtain ⟨W5, hW5, _, _, _, f5, _⟩ := pkt_store HK4.out (.int .i64 (s.sent + 1)) (.int .i64 s.mark) (.slice A33 bs.length c33)
          rw [hW5]
          exact (HE9.out.below HWW.out).far f5 HK4.out (by decide) (by decide) (by decide)
        · obtain ⟨W5, hW5, _, _, _, _, bl5⟩ := pkt_store HK4.out (.int .i64 (s.sent + 1)) (.int .i64 s.mark) (.slice A33 bs.length c33)
          rw [hW5]
          exact (F9.out.then HWW.out).thenB (bl5 w.heap.size (by omega))
        · obtain ⟨W5, hW5, _, _, _, f5, _⟩ := pkt_store HK4.out (.int .i64 (s.sent + 1)) (.int .i64 s.mark) (.slice A33 bs.length c33)
          rw [hW5]
          exact (HBo.out.below HWW.out).far f5 HK4.out (by decide)
      simp only [Act.put]
      refine flow_val ?_ rfl (by kernel_rfl) (by rfl) (fun W hW => ?_) ?_
      rotate_left 1
      · go_simp <;> with_reducible rfl
      simp only [Act.put, List.setIfInBounds_toArray, List.set_cons_succ, List.set_cons_zero]
      refine flow_done2 ?_
      rintro W ⟨⟨r1, r2, r3, r4⟩, _⟩ _
      have y0 := cell_at r1 0
      have y1 := cell_at r1 1
      have y2 := cell_at r1 2
      clear r1
      go_wp2
      refine bodyPost_ret (v := .tuple #[.agg #[.int .i64 (s.sent + 1), .int .i64 s.mark, .slice A33 bs.length c33], .int .i64 0]) (by simp [results, Try.f22, go_sem, y0, y1, y2]) rfl ?_
      exact ⟨_, ⟨_, rfl, ⟨_, rfl, r4⟩⟩, r2, r3, fun g hg => .inr (by injection hg with hg; subst hg; omega)⟩

set_option maxRecDepth 100000 in
theorem rsend_long (p : Nat) (G : Option Nat) (s : LSt) (A : Option Addr) (c : Nat) (bs : List Nat) (now : Int) (w : World) (h : IsX w p G s) (hl : 2048 < bs.length) :
    Calls Try.prog 22 #[.pointer (some ⟨p, 0, none⟩), .slice A bs.length c, .int .i64 now] w
      (RetX p G (fun e w' => ∃ v, e = .returned (.tuple #[v, .int .i64 3]) ∧ IsP w' v ⟨0, 0, []⟩) s w) := by
  have H := Lib.hid h
  have c0 : ∃ A c, w.cell? ⟨p, 0, none⟩ = some (.slice A s.l.length c) := by
    obtain ⟨v, h1, zs, _, h2, _⟩ := h
    obtain ⟨A, c, rfl, _, _, _, _⟩ := own_slice h2
    exact ⟨A, c, cell_at h1 0⟩
  obtain ⟨Av, cv, c0⟩ := c0
  have hp := h.lt
  clear h
  go_enter Try.func22, Try.ntmps22
  go_wp2
  refine bodyPost_ret (v := .tuple #[.agg #[.int .i64 0, .int .i64 0, .slice none 0 0], .int .i64 3]) (by simp [results, Try.f22, go_sem]) rfl ?_
  have hb := (Below.refl _ w).alloc (Nat.le_refl _) (.cells #[.int .i64 0, .int .i64 0, .slice none 0 0] 43)
  exact ⟨G, ⟨_, rfl, isp_zero _⟩, H.out.below hb, Fr.of_below hb, fun g hg => .inl hg⟩

set_option maxRecDepth 100000 in
theorem rsend_full (p : Nat) (G : Option Nat) (s : LSt) (A : Option Addr) (c : Nat) (bs : List Nat) (now : Int) (w : World) (h : IsX w p G s) (hl : bs.length ≤ 2048) (hn : 64 ≤ s.l.length) :
    Calls Try.prog 22 #[.pointer (some ⟨p, 0, none⟩), .slice A bs.length c, .int .i64 now] w
      (RetX p G (fun e w' => ∃ v, e = .returned (.tuple #[v, .int .i64 2]) ∧ IsP w' v ⟨0, 0, []⟩) s w) := by
  have H := Lib.hid h
  have c0 : ∃ A c, w.cell? ⟨p, 0, none⟩ = some (.slice A s.l.length c) := by
    obtain ⟨v, h1, zs, _, h2, _⟩ := h
    obtain ⟨A, c, rfl, _, _, _, _⟩ := own_slice h2
    exact ⟨A, c, cell_at h1 0⟩
  obtain ⟨Av, cv, c0⟩ := c0
  have hp := h.lt
  clear h
  go_enter Try.func22, Try.ntmps22
  go_wp2
  refine bodyPost_ret (v := .tuple #[.agg #[.int .i64 0, .int .i64 0, .slice none 0 0], .int .i64 2]) (by simp [results, Try.f22, go_sem]) rfl ?_
  have hb := (Below.refl _ w).alloc (Nat.le_refl _) (.cells #[.int .i64 0, .int .i64 0, .slice none 0 0] 43)
  exact ⟨G, ⟨_, rfl, isp_zero _⟩, H.out.below hb, Fr.of_below hb, fun g hg => .inl hg⟩

/-- What the reference's Send answers, whatever comes. -/
theorem rsend_any (p : Nat) (G : Option Nat) (s : LSt) (A : Option Addr) (c : Nat) (bs : List Nat) (now : Int) (w : World) (h : IsX w p G s) (hb : ∀ W', Fr 0 [] (p :: G.toList) w W' → Bs W' (.slice A bs.length c) bs) (h256 : ∀ b ∈ bs, b < 256)
    (hs : 0 ≤ s.sent ∧ s.sent < 9223372036854775807) (hnow : -9223372036854775808 ≤ now ∧ now ≤ 9223372036854775807) :
    Calls Try.prog 22 #[.pointer (some ⟨p, 0, none⟩), .slice A bs.length c, .int .i64 now] w
      (RetX p G (fun e w' => ∃ v, e = .returned (.tuple #[v, .int .i64 (sendE s bs)]) ∧ IsP w' v (sendP s bs)) (sendS s bs now) w) := by
  by_cases h1 : 2048 < bs.length
  · have e1 : sendE s bs = 3 := by unfold sendE; rw [if_pos h1]
    have e2 : sendP s bs = ⟨0, 0, []⟩ := by unfold sendP; rw [e1]; rfl
    have e3 : sendS s bs now = s := by unfold sendS; rw [e1]; rfl
    rw [e1, e2, e3]
    exact rsend_long p G s A c bs now w h h1
  · by_cases h2 : 64 ≤ s.l.length
    · have e1 : sendE s bs = 2 := by unfold sendE; rw [if_neg h1, if_pos h2]
      have e2 : sendP s bs = ⟨0, 0, []⟩ := by unfold sendP; rw [e1]; rfl
      have e3 : sendS s bs now = s := by unfold sendS; rw [e1]; rfl
      rw [e1, e2, e3]
      exact rsend_full p G s A c bs now w h (by omega) h2
    · have e1 : sendE s bs = 0 := by unfold sendE; rw [if_neg h1, if_neg h2]
      have e2 : sendP s bs = ⟨s.sent + 1, s.mark, bs⟩ := by unfold sendP; rw [e1]; rfl
      have e3 : sendS s bs now = ⟨s.l ++ [⟨s.sent + 1, bs, 1, nextL now 0⟩], s.sent + 1, s.mark⟩ := by unfold sendS; rw [e1]; rfl
      rw [e1, e2, e3]
      exact rsend_ok p G s A c bs now w h hb h256 (by omega) (by omega) hs hnow
end Go.Proofs.Ytnmbblkfaoihfaa
