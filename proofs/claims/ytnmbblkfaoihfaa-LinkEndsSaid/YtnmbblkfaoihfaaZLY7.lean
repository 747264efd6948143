/- Package link: Send. -/
import Derived.Test.YtnmbblkfaoihfaaZLY6
namespace Go.Proofs.Ytnmbblkfaoihfaa
open Go.RowKit

theorem Try.infoItem : (Try.prog.info? 84).map (fun i => (i.zero, i.size, i.bytes)) = some (some (.agg #[.int .i64 0, .slice none 0 0, .int .i64 0, .int .i64 0]), 4, 48) := by kernel_rfl
/-- Bodies stay where an end's own two blocks turn. -/
theorem byo_fr {W W' : World} {p : Nat} {TE T : TypeId} {cs : Array Value} {fz : Nat × Nat} {v : Value} {n : Nat} {xs : List Value} (hp : W.heap[p]? = some (.cells cs TE fz)) (hTE : TE ≠ 5) (ho : W.ownsRow 0 T 4 v n xs) (hT : T ≠ 5)
    (f : Fr 0 [] (p :: v.ownBlock.toList) W W') {b : Value} {bs : List Nat} (h : ByO W b bs) : ByO W' b bs := by
  refine h.frame f (by simp) fun k hk cs' fz' e => ?_
  rcases List.mem_cons.1 hk with rfl | hk
  · rw [hp] at e
    injection e with e
    injection e with _ e _
    exact hTE e
  · obtain ⟨_, cs2, h2⟩ := own_block ho (by simpa using hk : v.ownBlock = some k)
    rw [h2] at e
    injection e with e
    injection e with _ e _
    exact hT e

theorem lsend_nil (A : Option Addr) (n c : Nat) (now : Int) (w : World) : Calls Try.prog 19 #[.pointer none, .slice A n c, .int .i64 now] w fun e w' => e = .returned (.tuple #[.agg #[.int .i64 0, .int .i64 0, .slice none 0 0], .int .i64 6]) ∧ Below w.heap.size w w' := by
  go_enter Try.func19, Try.ntmps19
  go_wp2
  refine bodyPost_ret (v := .tuple #[.agg #[.int .i64 0, .int .i64 0, .slice none 0 0], .int .i64 6]) (by simp [results, Try.f19, go_sem]) rfl ?_
  exact ⟨rfl, (Below.refl _ _).alloc (Nat.le_refl _) _⟩

set_option maxRecDepth 100000 in
set_option maxHeartbeats 4000000 in
theorem lsend_ok (p : Nat) (G : Option Nat) (s : LSt) (A : Option Addr) (c : Nat) (bs : List Nat) (now : Int) (w : World) (h : IsE w 84 80 p G s) (hb : ∀ W', Fr 0 [] (p :: G.toList) w W' → Bs W' (.slice A bs.length c) bs) (h256 : ∀ b ∈ bs, b < 256)
    (hl : bs.length ≤ 2048) (hn : s.l.length < 64) (hs : 0 ≤ s.sent ∧ s.sent < 9223372036854775807) (hnow : -9223372036854775808 ≤ now ∧ now ≤ 9223372036854775807) :
    Calls Try.prog 19 #[.pointer (some ⟨p, 0, none⟩), .slice A bs.length c, .int .i64 now] w
      (RetE 84 80 p G (fun e w' => ∃ v, e = .returned (.tuple #[v, .int .i64 0]) ∧ IsP w' v ⟨s.sent + 1, s.mark, bs⟩) ⟨s.l ++ [⟨s.sent + 1, bs, 1, nextL now 0⟩], s.sent + 1, s.mark⟩ w) := by
  obtain ⟨i0, hi0, hz0, hz1, hz2⟩ := info_parts Try.infoItem
  obtain ⟨v, h1, zs, hzs, h2, hG, h3⟩ := h
  obtain ⟨Av, cv, rfl, _, _, _, _⟩ := own_slice h2
  have c0 := cell_at h1 0
  have c1 := cell_at h1 1
  have f1 := frozen_at h1 1
  have hp := lt_of_block h1
  have H1 := Lib.hid h1
  have H2 := Lib.hid h2
  have H3 := Lib.hid h3
  have HB := Lib.hid hb
  clear h1 h2 h3 hb
  go_enter Try.func19, Try.ntmps19
  go_wp2_with fail
  obtain ⟨W1, hW1⟩ : ∃ W1, (w.setCell ⟨p, 1, none⟩ (.int .i64 (s.sent + 1))).alloc (.cells #[.int .i64 0, .int .i64 0, .slice none 0 0] 43) = W1 := ⟨_, rfl⟩
  have bp := block_alloc (block_set H1.out 1 (.int .i64 (s.sent + 1))) (.cells #[.int .i64 0, .int .i64 0, .slice none 0 0] 43)
  have bn := block_new (w.setCell ⟨p, 1, none⟩ (.int .i64 (s.sent + 1))) (.cells #[.int .i64 0, .int .i64 0, .slice none 0 0] 43)
  have fW := (((Fr.refl w).setCell (B := 0) (T := []) (S := [p]) (p := ⟨p, 1, none⟩) (.int .i64 (s.sent + 1)) (Nat.zero_le _) (.inl (by simp))).alloc (.cells #[.int .i64 0, .int .i64 0, .slice none 0 0] 43))
  rw [hW1] at bp bn fW ⊢
  simp only [World.size_setCell] at bn
  have bp' : W1.heap[p]? = some (.cells #[.slice Av s.l.length cv, .int .i64 (s.sent + 1), .int .i64 s.mark] 80 (0, 0)) := by simpa using bp
  have BP := Lib.hid bp'
  have BN := Lib.hid bn
  have FW := Lib.hid fW
  have hp1 := lt_of_block bp'
  have hn1 := lt_of_block bn
  have hgp : ∀ g, (Value.slice Av s.l.length cv).ownBlock = some g → g ≠ p ∧ g < w.heap.size := fun g hg => by
    obtain ⟨_, cs, h2⟩ := own_block H2.out hg
    exact ⟨block_ne h2 H1.out (by decide), lt_of_block h2⟩
  have HGP := Lib.hid hgp
  have hrow1 : W1.ownsRow 0 84 4 (.slice Av s.l.length cv) s.l.length (zs.flatMap encL) := FW.out.own H2.out (by simp) (fun k hk hm => (hgp k hk).1 (by simpa using hm))
  have HRow1 := Lib.hid hrow1
  have HBs : Hid (∀ W, Below W1.heap.size W1 W → Bs W (.slice A bs.length c) bs) := Lib.hid (fun W hW => HB.out W (by rw [← hG]; exact (FW.out.mono (Nat.le_refl _) (fun _ h => h) (fun k hk => by simp at hk; simp [hk])).trans (Fr.of_below hW)))
  have q1 := cell_at bp' 1
  clear hW1 bp bn fW bp' c0 c1 f1 hgp hrow1
  refine (wpIn_wide (n := 9)).1 (region_of_ok (by kernel_rfl) (ok_split 9 5 (by decide) ?_ ?_))
  · simp only [addAfter, addL]
    refine ok_flow (fun W => Below W1.heap.size W1 W) Nil_ [0, 1, 2, 3, 4, 6, 5, 7, 8, 9, 10] (fun _ => trivial) rfl (fun _ _ _ _ _ h => callsIn_wide.2 h) (by kernel_rfl) (by kernel_rfl) ((Below.refl _ W1).drew) (trivial) ?_
    refine flow_val ?_ rfl (by kernel_rfl) (by rfl) (fun W hW => ?_) ?_
    rotate_left 1
    · go_simp <;> with_reducible rfl
    simp only [Act.put, List.setIfInBounds_toArray, List.set_cons_succ, List.set_cons_zero]
    refine flow_val ?_ rfl (by kernel_rfl) (by rfl) (fun W hW => ?_) ?_
    rotate_left 1
    · go_simp <;> with_reducible rfl
    simp only [Act.put, List.setIfInBounds_toArray, List.set_cons_succ, List.set_cons_zero]
    refine flow_val ?_ rfl (by kernel_rfl) (by rfl) (fun W hW => ?_) ?_
    rotate_left 1
    · go_simp <;> with_reducible rfl
    simp only [Act.put, List.setIfInBounds_toArray, List.set_cons_succ, List.set_cons_zero]
    refine flow_val ?_ rfl (by kernel_rfl) (by rfl) (fun W hW => ?_) ?_
    rotate_left 1
    · have c1 : W.cell? ⟨p, 1, none⟩ = some (.int .i64 (s.sent + 1)) := (hW.cell (p := ⟨p, 1, none⟩) hp1).trans q1; go_simp <;> with_reducible rfl
    simp only [Act.put, List.setIfInBounds_toArray, List.set_cons_succ, List.set_cons_zero]
    refine flow_val ?_ rfl (by kernel_rfl) (by rfl) (fun W hW => ?_) ?_
    rotate_left 1
    · go_simp <;> with_reducible rfl
    simp only [Act.put, List.setIfInBounds_toArray, List.set_cons_succ, List.set_cons_zero]
    refine flow_val ?_ rfl (by kernel_rfl) (by rfl) (fun W hW => ?_) ?_
    rotate_left 1
    · go_simp <;> with_reducible rfl
    simp only [Act.put, List.setIfInBounds_toArray, List.set_cons_succ, List.set_cons_zero]
    refine flow_gcall (fun v W => ByO W v bs) rfl (by kernel_rfl) (by rfl) (by kernel_rfl) (fun W hW _ => ⟨_, _, _, by go_simp, (clone_any (.slice A bs.length c) bs W (HBs.out W hW) (by omega)).mono fun e w1 ⟨v, he, hv, hb1⟩ => ⟨v, he, hW.trans (hb1.mono hW.size), RowU.of (own_low hv (Nat.zero_le _)), h256⟩⟩) ?_
    rintro v38 ⟨_, _, hv38, _⟩
    simp only [Act.put, List.setIfInBounds_toArray, List.set_cons_succ, List.set_cons_zero]
    obtain ⟨A38, c38, rfl, _, _, _, _⟩ := RowU.slice hv38
    clear hv38
    refine flow_quiet (.int .i64 (nextL now 0)) rfl (by kernel_rfl) (by rfl) (fun W hW => ⟨_, _, by go_simp, next_any now 0 W hnow (by omega)⟩) ?_
    simp only [Act.put, List.setIfInBounds_toArray, List.set_cons_succ, List.set_cons_zero]
    refine flow_val ?_ rfl (by kernel_rfl) (by rfl) (fun W hW => ?_) ?_
    rotate_left 1
    · go_simp <;> with_reducible rfl
    simp only [Act.put, List.setIfInBounds_toArray, List.set_cons_succ, List.set_cons_zero]
    refine flow_gmake (fun v W => ∃ g, v = .pointer (some ⟨g, 0, none⟩) ∧ W1.heap.size ≤ g ∧ W.heap[g]? = some (.cells #[.int .i64 0, .slice none 0 0, .int .i64 0, .int .i64 0] 84 (0, 0)) ∧ ByO W (.slice A38 bs.length c38) bs) rfl (by kernel_rfl) (by rfl) (by kernel_rfl) (fun W hW hC => ⟨_, _, by go_simp <;> with_reducible rfl, ⟨hW.1.alloc hW.1.size _, trivial⟩, ⟨_, rfl, hW.1.size, block_new _ _, hC.below ((Below.refl _ W).alloc (Nat.le_refl _) _)⟩⟩) ?_
    rintro v8 ⟨_, _, g8, rfl, hg81, _, _⟩
    simp only [Act.put, List.setIfInBounds_toArray, List.set_cons_succ, List.set_cons_zero]
    refine flow_bar (fun W => W.heap[g8]? = some (.cells #[.int .i64 (s.sent + 1), .slice A38 bs.length c38, .int .i64 1, .int .i64 (nextL now 0)] 84 (0, 0)) ∧ ByO W (.slice A38 bs.length c38) bs ∧ Below W1.heap.size W1 W) (fun _ => True) rfl (by kernel_rfl) (by rfl) (by kernel_rfl) (by kernel_rfl) (fun W hW hC => ?_) ?_
    · have hW := hW.1.1
      obtain ⟨g, e1, _, e3, e4⟩ := hC
      injection e1 with e1
      injection e1 with e1
      injection e1 with e1 _ _
      subst e1
      have q0 := cell_at e3 0
      have q2 := cell_at e3 1
      have q3 := cell_at e3 2
      have q4 := cell_at e3 3
      have f0 := frozen_at e3 0
      have f2 := frozen_at e3 1
      have f3 := frozen_at e3 2
      have f4 := frozen_at e3 3
      have H4 := Lib.hid e3
      have HC := Lib.hid e4
      have HW := Lib.hid hW
      clear e3 e4 hW
      refine ⟨_, by go_simp <;> with_reducible rfl, ⟨?_, ?_, ?_⟩, trivial⟩
      · simpa using block_set (block_set (block_set (block_set H4.out 0 (.int .i64 (s.sent + 1))) 1 (.slice A38 bs.length c38)) 2 (.int .i64 1)) 3 (.int .i64 (nextL now 0))
      · exact HC.out.frame (S := [g8]) (T := []) (((((Fr.refl W).setCell (p := ⟨g8, 0, none⟩) _ (Nat.zero_le _) (.inl (by simp))).setCell (p := ⟨g8, 1, none⟩) _ (Nat.zero_le _) (.inl (by simp))).setCell (p := ⟨g8, 2, none⟩) _ (Nat.zero_le _) (.inl (by simp))).setCell (p := ⟨g8, 3, none⟩) _ (Nat.zero_le _) (.inl (by simp))) (by simp) (fun k hk cs fz e => by
          simp at hk
          subst hk
          rw [H4.out] at e
          injection e with e
          injection e with _ e _
          exact absurd e (by decide))
      · exact ((((HW.out).setCell (p := ⟨g8, 0, none⟩) hg81 _).setCell (p := ⟨g8, 1, none⟩) hg81 _).setCell (p := ⟨g8, 2, none⟩) hg81 _).setCell (p := ⟨g8, 3, none⟩) hg81 _
    refine flow_done2 ?_
    rintro W8 ⟨⟨r1, r2, r3⟩, _⟩ _
    have hg8 := lt_of_block r1
    have q0 := cell_at r1 0
    have q2 := cell_at r1 1
    have q3 := cell_at r1 2
    have q4 := cell_at r1 3
    have R1 := Lib.hid r1
    have R2 := Lib.hid r2
    have R3 := Lib.hid r3
    have hsz8 := r3.size
    have p8 := (r3.block _ hp1).trans BP.out
    have P8 := Lib.hid p8
    have hp8 := lt_of_block p8
    have hrow8 := (Fr.of_below (B := 0) (T := []) (S := []) r3).own HRow1.out (by simp) (by simp)
    have HRow8 := Lib.hid hrow8
    have hgS : ∀ k, k ∉ (Value.slice Av s.l.length cv).ownBlock.toList ∨ (k ≠ p ∧ k < w.heap.size) := fun k => by
      by_cases hk : k ∈ (Value.slice Av s.l.length cv).ownBlock.toList
      · exact .inr (HGP.out k (by simpa using hk))
      · exact .inl hk
    have hpS : p ∉ (Value.slice Av s.l.length cv).ownBlock.toList := (hgS p).resolve_right (fun h => h.1 rfl)
    have hsw : w.heap.size < W1.heap.size := hn1
    have hgS8 : g8 ∉ (Value.slice Av s.l.length cv).ownBlock.toList := (hgS g8).resolve_right (fun h => by omega)
    clear r1 r2 r3 p8 hrow8 q1
    go_wp2_with fail
    refine wp_region_flow2 (fun W => Fr 0 [] (Value.slice Av s.l.length cv).ownBlock.toList W8 W) (fun W => W.ownsRow 0 84 4 (.slice Av s.l.length cv) s.l.length (zs.flatMap encL)) [0, 1, 2, 3, 4, 5, 6, 7, 8, 9, 10] (by kernel_rfl) (by kernel_rfl) (by kernel_rfl) ((Fr.refl W8).drew) (HRow8.out) ?_
    refine flow_val ?_ rfl (by kernel_rfl) (by rfl) (fun W hW => ?_) ?_
    rotate_left 1
    · go_simp <;> with_reducible rfl
    simp only [Act.put, List.setIfInBounds_toArray, List.set_cons_succ, List.set_cons_zero]
    refine flow_val ?_ rfl (by kernel_rfl) (by rfl) (fun W hW => ?_) ?_
    rotate_left 1
    · go_simp <;> with_reducible rfl
    simp only [Act.put, List.setIfInBounds_toArray, List.set_cons_succ, List.set_cons_zero]
    refine flow_val ?_ rfl (by kernel_rfl) (by rfl) (fun W hW => ?_) ?_
    rotate_left 1
    · go_simp <;> with_reducible rfl
    simp only [Act.put, List.setIfInBounds_toArray, List.set_cons_succ, List.set_cons_zero]
    refine flow_val ?_ rfl (by kernel_rfl) (by rfl) (fun W hW => ?_) ?_
    rotate_left 1
    · go_simp <;> with_reducible rfl
    simp only [Act.put, List.setIfInBounds_toArray, List.set_cons_succ, List.set_cons_zero]
    refine flow_val ?_ rfl (by kernel_rfl) (by rfl) (fun W hW => ?_) ?_
    rotate_left 1
    · have c0 : W.cell? ⟨p, 0, none⟩ = some (.slice Av s.l.length cv) := (by have hk := (hW.block p hp8 (.inr ⟨fun _ _ _ _ => by simp, hpS⟩)).trans P8.out; exact cell_at hk 0); go_simp <;> with_reducible rfl
    simp only [Act.put, List.setIfInBounds_toArray, List.set_cons_succ, List.set_cons_zero]
    refine flow_val ?_ rfl (by kernel_rfl) (by rfl) (fun W hW => ?_) ?_
    rotate_left 1
    · have c0 : W.cell? ⟨g8, 0, none⟩ = some (.int .i64 (s.sent + 1)) := (by have hk := (hW.block g8 hg8 (.inr ⟨fun _ _ _ _ => by simp, hgS8⟩)).trans R1.out; exact cell_at hk 0); have c1 : W.cell? ⟨g8, 1, none⟩ = some (.slice A38 bs.length c38) := (by have hk := (hW.block g8 hg8 (.inr ⟨fun _ _ _ _ => by simp, hgS8⟩)).trans R1.out; exact cell_at hk 1); have c2 : W.cell? ⟨g8, 2, none⟩ = some (.int .i64 1) := (by have hk := (hW.block g8 hg8 (.inr ⟨fun _ _ _ _ => by simp, hgS8⟩)).trans R1.out; exact cell_at hk 2); have c3 : W.cell? ⟨g8, 3, none⟩ = some (.int .i64 (nextL now 0)) := (by have hk := (hW.block g8 hg8 (.inr ⟨fun _ _ _ _ => by simp, hgS8⟩)).trans R1.out; exact cell_at hk 3); go_simp <;> with_reducible rfl
    simp only [Act.put, List.setIfInBounds_toArray, List.set_cons_succ, List.set_cons_zero]
    refine flow_gmake (fun v W => ∃ g', v = .slice (some ⟨g', 0, none⟩) 1 1 ∧ W.heap[g']? = some (.cells #[.int .i64 (s.sent + 1), .slice A38 bs.length c38, .int .i64 1, .int .i64 (nextL now 0)] 84 (0, 0)) ∧ W.ownsRow 0 84 4 (.slice Av s.l.length cv) s.l.length (zs.flatMap encL)) rfl (by kernel_rfl) (by rfl) (by kernel_rfl) (fun W hW hC => ⟨_, _, by go_simp <;> with_reducible rfl, hW.alloc _, ⟨_, rfl, block_new _ _, (Fr.of_below (B := 0) (T := []) (S := []) ((Below.refl _ W).alloc (Nat.le_refl _) _)).own hC (by simp) (by simp)⟩⟩) ?_
    rintro v48 ⟨_, _, g', rfl, _, _⟩
    simp only [Act.put, List.setIfInBounds_toArray, List.set_cons_succ, List.set_cons_zero]
    refine flow_gmake (fun v W => W.ownsRow 0 84 4 v (s.l.length + 1) (zs.flatMap encL ++ [.int .i64 (s.sent + 1), .slice A38 bs.length c38, .int .i64 1, .int .i64 (nextL now 0)]) ∧ (v.ownBlock = (Value.slice Av s.l.length cv).ownBlock ∨ ∃ g, v.ownBlock = some g ∧ W8.heap.size ≤ g)) rfl (by kernel_rfl) (by rfl) (by kernel_rfl) (fun W hW hC => ?_) ?_
    · obtain ⟨g2, e2, hg2, ho2⟩ := hC
      injection e2 with e2 _ _
      injection e2 with e2
      injection e2 with e2 _ _
      subst e2
      refine exec_append_at (.tmp 46) (.tmp 48) 78 rfl 0 84 i0 (.agg #[.int .i64 0, .slice none 0 0, .int .i64 0, .int .i64 0]) 4 48 Try.underlying78 hi0 hz0 hz1 hz2 rfl (by decide) (.slice Av s.l.length cv) _ _ rfl ho2 (some ⟨g', 0, none⟩) 1 1 [.int .i64 (s.sent + 1), .slice A38 bs.length c38, .int .i64 1, .int .i64 (nextL now 0)] rfl ⟨rfl, fun _ => ⟨_, _, rfl, lt_of_block hg2, fun j u hu => ?_⟩⟩ (by simp [Value.oneCell']) (by unfold maxLen; omega) (by omega) (Nat.zero_le _) (fun v' w' x2 x3 x4 => ?_)
      · have hj : j = 0 ∨ j = 1 ∨ j = 2 ∨ j = 3 := by
          have := (List.getElem?_eq_some_iff.1 hu).1
          simp at this; omega
        rcases hj with rfl | rfl | rfl | rfl <;> (simp at hu; subst hu; rw [cell_at hg2]; rfl)
      · refine ⟨⟨hW.1.grown x3 (fun j hj => ⟨Nat.zero_le _, .inl (by simpa using hj)⟩), trivial⟩, x2, ?_⟩
        rcases x4 with h | h
        · exact .inl h
        · exact .inr ⟨_, h, hW.1.size⟩
    rintro v49 ⟨_, _, hv49, hG49⟩
    obtain ⟨g49, c49, rfl⟩ := own_succ hv49
    clear hv49
    simp only [Act.put, List.setIfInBounds_toArray, List.set_cons_succ, List.set_cons_zero]
    refine flow_val ?_ rfl (by kernel_rfl) (by rfl) (fun W hW => ?_) ?_
    rotate_left 1
    · go_simp <;> with_reducible rfl
    simp only [Act.put, List.setIfInBounds_toArray, List.set_cons_succ, List.set_cons_zero]
    refine flow_val ?_ rfl (by kernel_rfl) (by rfl) (fun W hW => ?_) ?_
    rotate_left 1
    · go_simp <;> with_reducible rfl
    simp only [Act.put, List.setIfInBounds_toArray, List.set_cons_succ, List.set_cons_zero]
    refine flow_bar (fun W => W.heap[p]? = some (.cells #[.slice (some ⟨g49, 0, none⟩) (s.l.length + 1) c49, .int .i64 (s.sent + 1), .int .i64 s.mark] 80 (0, 0)) ∧ W.ownsRow 0 84 4 (.slice (some ⟨g49, 0, none⟩) (s.l.length + 1) c49) (s.l.length + 1) (zs.flatMap encL ++ [.int .i64 (s.sent + 1), .slice A38 bs.length c38, .int .i64 1, .int .i64 (nextL now 0)]) ∧ Fr 0 [] (p :: (Value.slice Av s.l.length cv).ownBlock.toList) W8 W) (fun _ => True) rfl (by kernel_rfl) (by rfl) (by kernel_rfl) (by kernel_rfl) (fun W hW hC => ?_) ?_
    · have hf := hW.1.1
      have hk := (hf.block p hp8 (.inr ⟨fun _ _ _ _ => by simp, hpS⟩)).trans P8.out
      have q1 := cell_at hk 0
      have q2 := frozen_at hk 0
      have HO := Lib.hid hC.1
      have HF := Lib.hid hf
      have HK := Lib.hid hk
      clear hC hW hf hk
      refine ⟨_, by go_simp <;> with_reducible rfl, ⟨?_, ?_, ?_⟩, trivial⟩
      · simpa using block_set HK.out 0 (.slice (some ⟨g49, 0, none⟩) (s.l.length + 1) c49)
      · have fs : Fr 0 [] [p] W (W.setCell ⟨p, 0, none⟩ (.slice (some ⟨g49, 0, none⟩) (s.l.length + 1) c49)) := (Fr.refl W).setCell (p := ⟨p, 0, none⟩) _ (Nat.zero_le _) (.inl (by simp))
        exact fs.own HO.out (by simp) (fun k hk hm => by
          obtain ⟨_, cs, hc⟩ := own_block HO.out hk
          simp at hm
          subst hm
          rw [HK.out] at hc
          injection hc with hc
          injection hc with _ e _
          exact absurd e (by decide))
      · exact (HF.out.mono (Nat.le_refl _) (fun _ h => h) (fun k hk => List.mem_cons_of_mem _ hk)).setCell (p := ⟨p, 0, none⟩) _ (Nat.zero_le _) (.inl (by simp))
    refine flow_done2 ?_
    rintro W9 ⟨⟨t1, t2, t3⟩, _⟩ _
    have byo : ∀ {b : Value} {l : List Nat}, ByO W8 b l → ByO W9 b l := fun h => byo_fr P8.out (by decide) HRow8.out (by decide) t3 h
    have hE9 : IsE W9 84 80 p (some g49) ⟨s.l ++ [⟨s.sent + 1, bs, 1, nextL now 0⟩], s.sent + 1, s.mark⟩ := by
      refine ⟨_, t1, zs ++ [⟨⟨s.sent + 1, bs, 1, nextL now 0⟩, .slice A38 bs.length c38⟩], by simp [hzs], by simpa [encL] using t2, by simp [Value.ownBlock], fun z hz => ?_⟩
      rcases List.mem_append.1 hz with hz | hz
      · exact byo ((byo_fr H1.out (by decide) H2.out (by decide) (FW.out.mono (Nat.le_refl _) (fun _ h => h) (fun k hk => by simp at hk; simp [hk])) (H3.out z hz)).below R3.out)
      · rw [List.mem_singleton.1 hz]
        exact byo R2.out
    have hg8p : g8 ∉ p :: (Value.slice Av s.l.length cv).ownBlock.toList := fun h => by
      rcases List.mem_cons.1 h with h | h
      · omega
      · exact hgS8 h
    have b9 := (t3.block g8 hg8 (.inr ⟨fun _ _ _ _ => by simp, hg8p⟩)).trans R1.out
    have hnp : w.heap.size ∉ p :: (Value.slice Av s.l.length cv).ownBlock.toList := fun h => by
      rcases List.mem_cons.1 h with h | h
      · omega
      · have := (HGP.out _ (by simpa using h)).2; omega
    have n9 := (t3.block w.heap.size (by omega) (.inr ⟨fun _ _ _ _ => by simp, hnp⟩)).trans ((R3.out.block _ hn1).trans BN.out)
    have e0 := cell_at b9 0
    have e1 := cell_at b9 1
    have e2 := cell_at b9 2
    have e3 := cell_at b9 3
    have HE9 := Lib.hid hE9
    have HBo := Lib.hid (byo R2.out)
    have N9 := Lib.hid n9
    have T3 := Lib.hid t3
    have HG49 := Lib.hid hG49
    clear byo b9 n9 t1 t2 t3 hE9 hG49 q0 q2 q3 q4 hgS hpS hgS8 hg8p hnp
    go_wp2_with fail
    refine (packet_any p (some g49) _ (s.sent + 1) 1 (nextL now 0) (.slice A38 bs.length c38) bs W9 HE9.out HBo.out (by omega)).mono ?_
    rintro e W10 ⟨v10, rfl, ⟨bv10, rfl, hb10⟩, hb910⟩
    obtain ⟨A10, c10, rfl, _, _, _, _⟩ := byo_slice hb10
    have n10 := (hb910.block _ (lt_of_block N9.out)).trans N9.out
    have s0 := cell_at n10 0
    have s1 := cell_at n10 1
    have s2 := cell_at n10 2
    have z0 := frozen_at n10 0
    have z1 := frozen_at n10 1
    have z2 := frozen_at n10 2
    have N10 := Lib.hid n10
    have HB10 := Lib.hid hb10
    have HB910 := Lib.hid hb910
    clear n10 hb10 hb910 e0 e1 e2 e3
    go_wp2_with fail
    have fs : Fr 0 [] [w.heap.size] W10 (((W10.setCell ⟨w.heap.size, 0, none⟩ (.int .i64 (s.sent + 1))).setCell ⟨w.heap.size, 1, none⟩ (.int .i64 s.mark)).setCell ⟨w.heap.size, 2, none⟩ (.slice A10 bs.length c10)) := (((Fr.refl W10).setCell (p := ⟨w.heap.size, 0, none⟩) _ (Nat.zero_le _) (.inl (by simp))).setCell (p := ⟨w.heap.size, 1, none⟩) _ (Nat.zero_le _) (.inl (by simp))).setCell (p := ⟨w.heap.size, 2, none⟩) _ (Nat.zero_le _) (.inl (by simp))
    have hb11 := block_set (block_set (block_set N10.out 0 (.int .i64 (s.sent + 1))) 1 (.int .i64 s.mark)) 2 (.slice A10 bs.length c10)
    have hfin : Fr 0 [] (p :: G.toList) w (((W10.setCell ⟨w.heap.size, 0, none⟩ (.int .i64 (s.sent + 1))).setCell ⟨w.heap.size, 1, none⟩ (.int .i64 s.mark)).setCell ⟨w.heap.size, 2, none⟩ (.slice A10 bs.length c10)) := by
      rw [← hG]
      exact ((((((FW.out.mono (Nat.le_refl _) (fun _ h => h) (fun k hk => by simp at hk; simp [hk])).trans (Fr.of_below R3.out)).trans T3.out).trans (Fr.of_below HB910.out)).setNew (p := ⟨w.heap.size, 0, none⟩) _ (Nat.le_refl _)).setNew (p := ⟨w.heap.size, 1, none⟩) _ (Nat.le_refl _)).setNew (p := ⟨w.heap.size, 2, none⟩) _ (Nat.le_refl _)
    obtain ⟨W11, hW11⟩ : ∃ W11, ((W10.setCell ⟨w.heap.size, 0, none⟩ (.int .i64 (s.sent + 1))).setCell ⟨w.heap.size, 1, none⟩ (.int .i64 s.mark)).setCell ⟨w.heap.size, 2, none⟩ (.slice A10 bs.length c10) = W11 := ⟨_, rfl⟩
    rw [hW11] at fs hb11 hfin ⊢
    have y0 := cell_at hb11 0
    have y1 := cell_at hb11 1
    have y2 := cell_at hb11 2
    simp at y0 y1 y2
    refine bodyPost_ret (v := .tuple #[.agg #[.int .i64 (s.sent + 1), .int .i64 s.mark, .slice A10 bs.length c10], .int .i64 0]) (by simp [results, Try.f19, go_sem, y0, y1, y2]) rfl ?_
    refine ⟨some g49, ⟨_, rfl, ⟨_, rfl, HB10.out.far fs N10.out (by decide)⟩⟩, (HE9.out.below HB910.out).far fs N10.out (by decide) (by decide) (by decide), hfin, ?_⟩
    rcases HG49.out with h | ⟨g, h1, h2⟩
    · left; rw [← hG, ← h]; simp [Value.ownBlock]
    · right; refine ⟨g49, rfl, ?_⟩; simp [Value.ownBlock] at h1; omega
  · simp only [addAfter, addL]
    refine ok_flow (fun W => Below W1.heap.size W1 W) Nil_ [0, 1, 2, 3, 4, 6, 9, 5, 7, 8, 10] (fun _ => trivial) rfl (fun _ _ _ _ _ h => callsIn_wide.2 h) (by kernel_rfl) (by kernel_rfl) ((Below.refl _ W1).drew) (trivial) ?_
    refine flow_val ?_ rfl (by kernel_rfl) (by rfl) (fun W hW => ?_) ?_
    rotate_left 1
    · go_simp <;> with_reducible rfl
    simp only [Act.put, List.setIfInBounds_toArray, List.set_cons_succ, List.set_cons_zero]
    refine flow_val ?_ rfl (by kernel_rfl) (by rfl) (fun W hW => ?_) ?_
    rotate_left 1
    · go_simp <;> with_reducible rfl
    simp only [Act.put, List.setIfInBounds_toArray, List.set_cons_succ, List.set_cons_zero]
    refine flow_val ?_ rfl (by kernel_rfl) (by rfl) (fun W hW => ?_) ?_
    rotate_left 1
    · go_simp <;> with_reducible rfl
    simp only [Act.put, List.setIfInBounds_toArray, List.set_cons_succ, List.set_cons_zero]
    refine flow_val ?_ rfl (by kernel_rfl) (by rfl) (fun W hW => ?_) ?_
    rotate_left 1
    · have c1 : W.cell? ⟨p, 1, none⟩ = some (.int .i64 (s.sent + 1)) := (hW.cell (p := ⟨p, 1, none⟩) hp1).trans q1; go_simp <;> with_reducible rfl
    simp only [Act.put, List.setIfInBounds_toArray, List.set_cons_succ, List.set_cons_zero]
    refine flow_val ?_ rfl (by kernel_rfl) (by rfl) (fun W hW => ?_) ?_
    rotate_left 1
    · go_simp <;> with_reducible rfl
    simp only [Act.put, List.setIfInBounds_toArray, List.set_cons_succ, List.set_cons_zero]
    refine flow_val ?_ rfl (by kernel_rfl) (by rfl) (fun W hW => ?_) ?_
    rotate_left 1
    · go_simp <;> with_reducible rfl
    simp only [Act.put, List.setIfInBounds_toArray, List.set_cons_succ, List.set_cons_zero]
    refine flow_gmake (fun v W => ∃ g, v = .pointer (some ⟨g, 0, none⟩) ∧ W1.heap.size ≤ g ∧ W.heap[g]? = some (.cells #[.int .i64 0, .slice none 0 0, .int .i64 0, .int .i64 0] 84 (0, 0))) rfl (by kernel_rfl) (by rfl) (by kernel_rfl) (fun W hW hC => ⟨_, _, by go_simp <;> with_reducible rfl, hW.alloc hW.size _, ⟨_, rfl, hW.size, block_new _ _⟩⟩) ?_
    rintro v8 ⟨_, _, g8, rfl, hg81, _⟩
    simp only [Act.put, List.setIfInBounds_toArray, List.set_cons_succ, List.set_cons_zero]
    refine flow_gcall (fun v W => ∃ g, Value.pointer (some ⟨g8, 0, none⟩) = .pointer (some ⟨g, 0, none⟩) ∧ W1.heap.size ≤ g ∧ W.heap[g]? = some (.cells #[.int .i64 0, .slice none 0 0, .int .i64 0, .int .i64 0] 84 (0, 0)) ∧ ByO W v bs) rfl (by kernel_rfl) (by rfl) (by kernel_rfl) (fun W hW hC => ⟨_, _, _, by go_simp, (clone_any (.slice A bs.length c) bs W (HBs.out W hW.1) (by omega)).mono fun e w1 ⟨v, he, hv, hb1⟩ => ⟨v, he, ⟨hW.1.trans (hb1.mono hW.1.size), trivial⟩, by obtain ⟨g, e1, e2, e3⟩ := hC; exact ⟨g, e1, e2, (hb1.block _ (lt_of_block e3)).trans e3, RowU.of (own_low hv (Nat.zero_le _)), h256⟩⟩⟩) ?_
    rintro v38 ⟨_, _, _, hE, _, _, hv38, _⟩
    clear hE
    simp only [Act.put, List.setIfInBounds_toArray, List.set_cons_succ, List.set_cons_zero]
    obtain ⟨A38, c38, rfl, _, _, _, _⟩ := RowU.slice hv38
    clear hv38
    refine flow_quiet (.int .i64 (nextL now 0)) rfl (by kernel_rfl) (by rfl) (fun W hW => ⟨_, _, by go_simp, next_any now 0 W hnow (by omega)⟩) ?_
    simp only [Act.put, List.setIfInBounds_toArray, List.set_cons_succ, List.set_cons_zero]
    refine flow_val ?_ rfl (by kernel_rfl) (by rfl) (fun W hW => ?_) ?_
    rotate_left 1
    · go_simp <;> with_reducible rfl
    simp only [Act.put, List.setIfInBounds_toArray, List.set_cons_succ, List.set_cons_zero]
    refine flow_bar (fun W => W.heap[g8]? = some (.cells #[.int .i64 (s.sent + 1), .slice A38 bs.length c38, .int .i64 1, .int .i64 (nextL now 0)] 84 (0, 0)) ∧ ByO W (.slice A38 bs.length c38) bs ∧ Below W1.heap.size W1 W) (fun _ => True) rfl (by kernel_rfl) (by rfl) (by kernel_rfl) (by kernel_rfl) (fun W hW hC => ?_) ?_
    · have hW := hW.1.1
      obtain ⟨g, e1, _, e3, e4⟩ := hC
      injection e1 with e1
      injection e1 with e1
      injection e1 with e1 _ _
      subst e1
      have q0 := cell_at e3 0
      have q2 := cell_at e3 1
      have q3 := cell_at e3 2
      have q4 := cell_at e3 3
      have f0 := frozen_at e3 0
      have f2 := frozen_at e3 1
      have f3 := frozen_at e3 2
      have f4 := frozen_at e3 3
      have H4 := Lib.hid e3
      have HC := Lib.hid e4
      have HW := Lib.hid hW
      clear e3 e4 hW
      refine ⟨_, by go_simp <;> with_reducible rfl, ⟨?_, ?_, ?_⟩, trivial⟩
      · simpa using block_set (block_set (block_set (block_set H4.out 0 (.int .i64 (s.sent + 1))) 1 (.slice A38 bs.length c38)) 2 (.int .i64 1)) 3 (.int .i64 (nextL now 0))
      · exact HC.out.frame (S := [g8]) (T := []) (((((Fr.refl W).setCell (p := ⟨g8, 0, none⟩) _ (Nat.zero_le _) (.inl (by simp))).setCell (p := ⟨g8, 1, none⟩) _ (Nat.zero_le _) (.inl (by simp))).setCell (p := ⟨g8, 2, none⟩) _ (Nat.zero_le _) (.inl (by simp))).setCell (p := ⟨g8, 3, none⟩) _ (Nat.zero_le _) (.inl (by simp))) (by simp) (fun k hk cs fz e => by
          simp at hk
          subst hk
          rw [H4.out] at e
          injection e with e
          injection e with _ e _
          exact absurd e (by decide))
      · exact ((((HW.out).setCell (p := ⟨g8, 0, none⟩) hg81 _).setCell (p := ⟨g8, 1, none⟩) hg81 _).setCell (p := ⟨g8, 2, none⟩) hg81 _).setCell (p := ⟨g8, 3, none⟩) hg81 _
    refine flow_done2 ?_
    rintro W8 ⟨⟨r1, r2, r3⟩, _⟩ _
    have hg8 := lt_of_block r1
    have q0 := cell_at r1 0
    have q2 := cell_at r1 1
    have q3 := cell_at r1 2
    have q4 := cell_at r1 3
    have R1 := Lib.hid r1
    have R2 := Lib.hid r2
    have R3 := Lib.hid r3
    have hsz8 := r3.size
    have p8 := (r3.block _ hp1).trans BP.out
    have P8 := Lib.hid p8
    have hp8 := lt_of_block p8
    have hrow8 := (Fr.of_below (B := 0) (T := []) (S := []) r3).own HRow1.out (by simp) (by simp)
    have HRow8 := Lib.hid hrow8
    have hgS : ∀ k, k ∉ (Value.slice Av s.l.length cv).ownBlock.toList ∨ (k ≠ p ∧ k < w.heap.size) := fun k => by
      by_cases hk : k ∈ (Value.slice Av s.l.length cv).ownBlock.toList
      · exact .inr (HGP.out k (by simpa using hk))
      · exact .inl hk
    have hpS : p ∉ (Value.slice Av s.l.length cv).ownBlock.toList := (hgS p).resolve_right (fun h => h.1 rfl)
    have hsw : w.heap.size < W1.heap.size := hn1
    have hgS8 : g8 ∉ (Value.slice Av s.l.length cv).ownBlock.toList := (hgS g8).resolve_right (fun h => by omega)
    clear r1 r2 r3 p8 hrow8 q1
    go_wp2_with fail
    refine wp_region_flow2 (fun W => Fr 0 [] (Value.slice Av s.l.length cv).ownBlock.toList W8 W) (fun W => W.ownsRow 0 84 4 (.slice Av s.l.length cv) s.l.length (zs.flatMap encL)) [0, 1, 2, 3, 4, 5, 6, 7, 8, 9, 10] (by kernel_rfl) (by kernel_rfl) (by kernel_rfl) ((Fr.refl W8).drew) (HRow8.out) ?_
    refine flow_val ?_ rfl (by kernel_rfl) (by rfl) (fun W hW => ?_) ?_
    rotate_left 1
    · go_simp <;> with_reducible rfl
    simp only [Act.put, List.setIfInBounds_toArray, List.set_cons_succ, List.set_cons_zero]
    refine flow_val ?_ rfl (by kernel_rfl) (by rfl) (fun W hW => ?_) ?_
    rotate_left 1
    · go_simp <;> with_reducible rfl
    simp only [Act.put, List.setIfInBounds_toArray, List.set_cons_succ, List.set_cons_zero]
    refine flow_val ?_ rfl (by kernel_rfl) (by rfl) (fun W hW => ?_) ?_
    rotate_left 1
    · go_simp <;> with_reducible rfl
    simp only [Act.put, List.setIfInBounds_toArray, List.set_cons_succ, List.set_cons_zero]
    refine flow_val ?_ rfl (by kernel_rfl) (by rfl) (fun W hW => ?_) ?_
    rotate_left 1
    · go_simp <;> with_reducible rfl
    simp only [Act.put, List.setIfInBounds_toArray, List.set_cons_succ, List.set_cons_zero]
    refine flow_val ?_ rfl (by kernel_rfl) (by rfl) (fun W hW => ?_) ?_
    rotate_left 1
    · have c0 : W.cell? ⟨p, 0, none⟩ = some (.slice Av s.l.length cv) := (by have hk := (hW.block p hp8 (.inr ⟨fun _ _ _ _ => by simp, hpS⟩)).trans P8.out; exact cell_at hk 0); go_simp <;> with_reducible rfl
    simp only [Act.put, List.setIfInBounds_toArray, List.set_cons_succ, List.set_cons_zero]
    refine flow_val ?_ rfl (by kernel_rfl) (by rfl) (fun W hW => ?_) ?_
    rotate_left 1
    · have c0 : W.cell? ⟨g8, 0, none⟩ = some (.int .i64 (s.sent + 1)) := (by have hk := (hW.block g8 hg8 (.inr ⟨fun _ _ _ _ => by simp, hgS8⟩)).trans R1.out; exact cell_at hk 0); have c1 : W.cell? ⟨g8, 1, none⟩ = some (.slice A38 bs.length c38) := (by have hk := (hW.block g8 hg8 (.inr ⟨fun _ _ _ _ => by simp, hgS8⟩)).trans R1.out; exact cell_at hk 1); have c2 : W.cell? ⟨g8, 2, none⟩ = some (.int .i64 1) := (by have hk := (hW.block g8 hg8 (.inr ⟨fun _ _ _ _ => by simp, hgS8⟩)).trans R1.out; exact cell_at hk 2); have c3 : W.cell? ⟨g8, 3, none⟩ = some (.int .i64 (nextL now 0)) := (by have hk := (hW.block g8 hg8 (.inr ⟨fun _ _ _ _ => by simp, hgS8⟩)).trans R1.out; exact cell_at hk 3); go_simp <;> with_reducible rfl
    simp only [Act.put, List.setIfInBounds_toArray, List.set_cons_succ, List.set_cons_zero]
    refine flow_gmake (fun v W => ∃ g', v = .slice (some ⟨g', 0, none⟩) 1 1 ∧ W.heap[g']? = some (.cells #[.int .i64 (s.sent + 1), .slice A38 bs.length c38, .int .i64 1, .int .i64 (nextL now 0)] 84 (0, 0)) ∧ W.ownsRow 0 84 4 (.slice Av s.l.length cv) s.l.length (zs.flatMap encL)) rfl (by kernel_rfl) (by rfl) (by kernel_rfl) (fun W hW hC => ⟨_, _, by go_simp <;> with_reducible rfl, hW.alloc _, ⟨_, rfl, block_new _ _, (Fr.of_below (B := 0) (T := []) (S := []) ((Below.refl _ W).alloc (Nat.le_refl _) _)).own hC (by simp) (by simp)⟩⟩) ?_
    rintro v48 ⟨_, _, g', rfl, _, _⟩
    simp only [Act.put, List.setIfInBounds_toArray, List.set_cons_succ, List.set_cons_zero]
    refine flow_gmake (fun v W => W.ownsRow 0 84 4 v (s.l.length + 1) (zs.flatMap encL ++ [.int .i64 (s.sent + 1), .slice A38 bs.length c38, .int .i64 1, .int .i64 (nextL now 0)]) ∧ (v.ownBlock = (Value.slice Av s.l.length cv).ownBlock ∨ ∃ g, v.ownBlock = some g ∧ W8.heap.size ≤ g)) rfl (by kernel_rfl) (by rfl) (by kernel_rfl) (fun W hW hC => ?_) ?_
    · obtain ⟨g2, e2, hg2, ho2⟩ := hC
      injection e2 with e2 _ _
      injection e2 with e2
      injection e2 with e2 _ _
      subst e2
      refine exec_append_at (.tmp 46) (.tmp 48) 78 rfl 0 84 i0 (.agg #[.int .i64 0, .slice none 0 0, .int .i64 0, .int .i64 0]) 4 48 Try.underlying78 hi0 hz0 hz1 hz2 rfl (by decide) (.slice Av s.l.length cv) _ _ rfl ho2 (some ⟨g', 0, none⟩) 1 1 [.int .i64 (s.sent + 1), .slice A38 bs.length c38, .int .i64 1, .int .i64 (nextL now 0)] rfl ⟨rfl, fun _ => ⟨_, _, rfl, lt_of_block hg2, fun j u hu => ?_⟩⟩ (by simp [Value.oneCell']) (by unfold maxLen; omega) (by omega) (Nat.zero_le _) (fun v' w' x2 x3 x4 => ?_)
      · have hj : j = 0 ∨ j = 1 ∨ j = 2 ∨ j = 3 := by
          have := (List.getElem?_eq_some_iff.1 hu).1
          simp at this; omega
        rcases hj with rfl | rfl | rfl | rfl <;> (simp at hu; subst hu; rw [cell_at hg2]; rfl)
      · refine ⟨⟨hW.1.grown x3 (fun j hj => ⟨Nat.zero_le _, .inl (by simpa using hj)⟩), trivial⟩, x2, ?_⟩
        rcases x4 with h | h
        · exact .inl h
        · exact .inr ⟨_, h, hW.1.size⟩
    rintro v49 ⟨_, _, hv49, hG49⟩
    obtain ⟨g49, c49, rfl⟩ := own_succ hv49
    clear hv49
    simp only [Act.put, List.setIfInBounds_toArray, List.set_cons_succ, List.set_cons_zero]
    refine flow_val ?_ rfl (by kernel_rfl) (by rfl) (fun W hW => ?_) ?_
    rotate_left 1
    · go_simp <;> with_reducible rfl
    simp only [Act.put, List.setIfInBounds_toArray, List.set_cons_succ, List.set_cons_zero]
    refine flow_val ?_ rfl (by kernel_rfl) (by rfl) (fun W hW => ?_) ?_
    rotate_left 1
    · go_simp <;> with_reducible rfl
    simp only [Act.put, List.setIfInBounds_toArray, List.set_cons_succ, List.set_cons_zero]
    refine flow_bar (fun W => W.heap[p]? = some (.cells #[.slice (some ⟨g49, 0, none⟩) (s.l.length + 1) c49, .int .i64 (s.sent + 1), .int .i64 s.mark] 80 (0, 0)) ∧ W.ownsRow 0 84 4 (.slice (some ⟨g49, 0, none⟩) (s.l.length + 1) c49) (s.l.length + 1) (zs.flatMap encL ++ [.int .i64 (s.sent + 1), .slice A38 bs.length c38, .int .i64 1, .int .i64 (nextL now 0)]) ∧ Fr 0 [] (p :: (Value.slice Av s.l.length cv).ownBlock.toList) W8 W) (fun _ => True) rfl (by kernel_rfl) (by rfl) (by kernel_rfl) (by kernel_rfl) (fun W hW hC => ?_) ?_
    · have hf := hW.1.1
      have hk := (hf.block p hp8 (.inr ⟨fun _ _ _ _ => by simp, hpS⟩)).trans P8.out
      have q1 := cell_at hk 0
      have q2 := frozen_at hk 0
      have HO := Lib.hid hC.1
      have HF := Lib.hid hf
      have HK := Lib.hid hk
      clear hC hW hf hk
      refine ⟨_, by go_simp <;> with_reducible rfl, ⟨?_, ?_, ?_⟩, trivial⟩
      · simpa using block_set HK.out 0 (.slice (some ⟨g49, 0, none⟩) (s.l.length + 1) c49)
      · have fs : Fr 0 [] [p] W (W.setCell ⟨p, 0, none⟩ (.slice (some ⟨g49, 0, none⟩) (s.l.length + 1) c49)) := (Fr.refl W).setCell (p := ⟨p, 0, none⟩) _ (Nat.zero_le _) (.inl (by simp))
        exact fs.own HO.out (by simp) (fun k hk hm => by
          obtain ⟨_, cs, hc⟩ := own_block HO.out hk
          simp at hm
          subst hm
          rw [HK.out] at hc
          injection hc with hc
          injection hc with _ e _
          exact absurd e (by decide))
      · exact (HF.out.mono (Nat.le_refl _) (fun _ h => h) (fun k hk => List.mem_cons_of_mem _ hk)).setCell (p := ⟨p, 0, none⟩) _ (Nat.zero_le _) (.inl (by simp))
    refine flow_done2 ?_
    rintro W9 ⟨⟨t1, t2, t3⟩, _⟩ _
    have byo : ∀ {b : Value} {l : List Nat}, ByO W8 b l → ByO W9 b l := fun h => byo_fr P8.out (by decide) HRow8.out (by decide) t3 h
    have hE9 : IsE W9 84 80 p (some g49) ⟨s.l ++ [⟨s.sent + 1, bs, 1, nextL now 0⟩], s.sent + 1, s.mark⟩ := by
      refine ⟨_, t1, zs ++ [⟨⟨s.sent + 1, bs, 1, nextL now 0⟩, .slice A38 bs.length c38⟩], by simp [hzs], by simpa [encL] using t2, by simp [Value.ownBlock], fun z hz => ?_⟩
      rcases List.mem_append.1 hz with hz | hz
      · exact byo ((byo_fr H1.out (by decide) H2.out (by decide) (FW.out.mono (Nat.le_refl _) (fun _ h => h) (fun k hk => by simp at hk; simp [hk])) (H3.out z hz)).below R3.out)
      · rw [List.mem_singleton.1 hz]
        exact byo R2.out
    have hg8p : g8 ∉ p :: (Value.slice Av s.l.length cv).ownBlock.toList := fun h => by
      rcases List.mem_cons.1 h with h | h
      · omega
      · exact hgS8 h
    have b9 := (t3.block g8 hg8 (.inr ⟨fun _ _ _ _ => by simp, hg8p⟩)).trans R1.out
    have hnp : w.heap.size ∉ p :: (Value.slice Av s.l.length cv).ownBlock.toList := fun h => by
      rcases List.mem_cons.1 h with h | h
      · omega
      · have := (HGP.out _ (by simpa using h)).2; omega
    have n9 := (t3.block w.heap.size (by omega) (.inr ⟨fun _ _ _ _ => by simp, hnp⟩)).trans ((R3.out.block _ hn1).trans BN.out)
    have e0 := cell_at b9 0
    have e1 := cell_at b9 1
    have e2 := cell_at b9 2
    have e3 := cell_at b9 3
    have HE9 := Lib.hid hE9
    have HBo := Lib.hid (byo R2.out)
    have N9 := Lib.hid n9
    have T3 := Lib.hid t3
    have HG49 := Lib.hid hG49
    clear byo b9 n9 t1 t2 t3 hE9 hG49 q0 q2 q3 q4 hgS hpS hgS8 hg8p hnp
    go_wp2_with fail
    refine (packet_any p (some g49) _ (s.sent + 1) 1 (nextL now 0) (.slice A38 bs.length c38) bs W9 HE9.out HBo.out (by omega)).mono ?_
    rintro e W10 ⟨v10, rfl, ⟨bv10, rfl, hb10⟩, hb910⟩
    obtain ⟨A10, c10, rfl, _, _, _, _⟩ := byo_slice hb10
    have n10 := (hb910.block _ (lt_of_block N9.out)).trans N9.out
    have s0 := cell_at n10 0
    have s1 := cell_at n10 1
    have s2 := cell_at n10 2
    have z0 := frozen_at n10 0
    have z1 := frozen_at n10 1
    have z2 := frozen_at n10 2
    have N10 := Lib.hid n10
    have HB10 := Lib.hid hb10
    have HB910 := Lib.hid hb910
    clear n10 hb10 hb910 e0 e1 e2 e3
    go_wp2_with fail
    have fs : Fr 0 [] [w.heap.size] W10 (((W10.setCell ⟨w.heap.size, 0, none⟩ (.int .i64 (s.sent + 1))).setCell ⟨w.heap.size, 1, none⟩ (.int .i64 s.mark)).setCell ⟨w.heap.size, 2, none⟩ (.slice A10 bs.length c10)) := (((Fr.refl W10).setCell (p := ⟨w.heap.size, 0, none⟩) _ (Nat.zero_le _) (.inl (by simp))).setCell (p := ⟨w.heap.size, 1, none⟩) _ (Nat.zero_le _) (.inl (by simp))).setCell (p := ⟨w.heap.size, 2, none⟩) _ (Nat.zero_le _) (.inl (by simp))
    have hb11 := block_set (block_set (block_set N10.out 0 (.int .i64 (s.sent + 1))) 1 (.int .i64 s.mark)) 2 (.slice A10 bs.length c10)
    have hfin : Fr 0 [] (p :: G.toList) w (((W10.setCell ⟨w.heap.size, 0, none⟩ (.int .i64 (s.sent + 1))).setCell ⟨w.heap.size, 1, none⟩ (.int .i64 s.mark)).setCell ⟨w.heap.size, 2, none⟩ (.slice A10 bs.length c10)) := by
      rw [← hG]
      exact ((((((FW.out.mono (Nat.le_refl _) (fun _ h => h) (fun k hk => by simp at hk; simp [hk])).trans (Fr.of_below R3.out)).trans T3.out).trans (Fr.of_below HB910.out)).setNew (p := ⟨w.heap.size, 0, none⟩) _ (Nat.le_refl _)).setNew (p := ⟨w.heap.size, 1, none⟩) _ (Nat.le_refl _)).setNew (p := ⟨w.heap.size, 2, none⟩) _ (Nat.le_refl _)
    obtain ⟨W11, hW11⟩ : ∃ W11, ((W10.setCell ⟨w.heap.size, 0, none⟩ (.int .i64 (s.sent + 1))).setCell ⟨w.heap.size, 1, none⟩ (.int .i64 s.mark)).setCell ⟨w.heap.size, 2, none⟩ (.slice A10 bs.length c10) = W11 := ⟨_, rfl⟩
    rw [hW11] at fs hb11 hfin ⊢
    have y0 := cell_at hb11 0
    have y1 := cell_at hb11 1
    have y2 := cell_at hb11 2
    simp at y0 y1 y2
    refine bodyPost_ret (v := .tuple #[.agg #[.int .i64 (s.sent + 1), .int .i64 s.mark, .slice A10 bs.length c10], .int .i64 0]) (by simp [results, Try.f19, go_sem, y0, y1, y2]) rfl ?_
    refine ⟨some g49, ⟨_, rfl, ⟨_, rfl, HB10.out.far fs N10.out (by decide)⟩⟩, (HE9.out.below HB910.out).far fs N10.out (by decide) (by decide) (by decide), hfin, ?_⟩
    rcases HG49.out with h | ⟨g, h1, h2⟩
    · left; rw [← hG, ← h]; simp [Value.ownBlock]
    · right; refine ⟨g49, rfl, ?_⟩; simp [Value.ownBlock] at h1; omega
end Go.Proofs.Ytnmbblkfaoihfaa
