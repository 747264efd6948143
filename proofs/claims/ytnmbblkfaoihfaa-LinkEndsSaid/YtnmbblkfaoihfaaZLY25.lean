/- A packet is put on its way. -/
import Derived.Test.YtnmbblkfaoihfaaZLY24
namespace Go.Proofs.Ytnmbblkfaoihfaa
open Go.RowKit

theorem upB_false {α : Type} (f : Bool → α) (x : α) : upB f false x false = x ∧ upB f false x true = f true := by simp [upB]
theorem upB_true {α : Type} (f : Bool → α) (x : α) : upB f true x true = x ∧ upB f true x false = f false := by simp [upB]
/-- A block that is no row's. -/
def NoRow (P : Play) (vs vc vw : Bool → Value) (zs : Bool → List (LPk × Value)) (g : Nat) : Prop := ∀ r ∈ rowsY P vs vc vw zs, r.v.ownBlock ≠ some g
/-- What a call on a play leaves: a play; all else stays, but new blocks. -/
def RetY (w : World) (y : Nat) (pe : Bool → Nat) (P : Play) (vs vc vw : Bool → Value) (zs : Bool → List (LPk × Value)) (W : World) (P' : Play) (W' : World) : Prop :=
  ∃ vs' vc' vw' zs', IsY w y pe P' vs' vc' vw' zs' W' ∧ KeepsB W W' ∧ W.heap.size ≤ W'.heap.size ∧ ∀ g, g < W.heap.size → g ≠ y → NoRow P vs vc vw zs g → W'.heap[g]? = W.heap[g]? ∧ NoRow P' vs' vc' vw' zs' g
theorem IsY.fr {w W W' : World} {y : Nat} {pe : Bool → Nat} {P : Play} {vs vc vw : Bool → Value} {zs : Bool → List (LPk × Value)} (h : IsY w y pe P vs vc vw zs W) {n : Nat} (f : Fr 0 [] [n] W W') {cs : Array Value} {T : TypeId} {fz : Nat × Nat} (hn : W.heap[n]? = some (.cells cs T fz)) (hl : w.heap.size ≤ n)
    (h1 : T ≠ 5) (h2 : T ≠ 84) (h3 : T ≠ 80) (h4 : T ≠ 37) (hr : ∀ r ∈ rowsY P vs vc vw zs, r.v.ownBlock ≠ some n) : IsY w y pe P vs vc vw zs W' := by
  have hk : KeepsB W W' := fun v bs hb => hb.far f hn h1
  obtain ⟨G, H, e1, e2, e3, e4, e5, e6, e7, e8, e9⟩ := h.two
  refine ⟨f.keep h.b (by simp) (by simpa using block_ne h.b hn (Ne.symm h4)), ⟨G, H, e1.far f hn h1 h2 h3, e2.far f hn h1 h2 h3, e3, e4, e5, e6, e7, e8, e9.trans (Fr.belowT f hl e9.size)⟩, h.low, h.map, fun a z hz => hk _ _ (h.by_ a z hz), h.rows.fr f (by simp) fun r hr' g hg hm => hr r hr' (by simp at hm; rw [hg, hm])⟩

theorem En2.farN {w W W' : World} {p q : Nat} {s r : LSt} (h : En2 w p s q r W) {n : Nat} (f : Fr 0 [] [n] W W') {cs : Array Value} {T : TypeId} {fz : Nat × Nat} (hn : W.heap[n]? = some (.cells cs T fz)) (hl : w.heap.size ≤ n)
    (h1 : T ≠ 5) (h2 : T ≠ 84) (h3 : T ≠ 80) : En2 w p s q r W' := by
  obtain ⟨G, H, e1, e2, e3, e4, e5, e6, e7, e8, e9⟩ := h
  exact ⟨G, H, e1.far f hn h1 h2 h3, e2.far f hn h1 h2 h3, e3, e4, e5, e6, e7, e8, e9.trans (Fr.belowT f hl e9.size)⟩
/-- A play of which one row has turned, and has not been stored. -/
structure YF (w : World) (y : Nat) (pe : Bool → Nat) (P : Play) (vs vc vw : Bool → Value) (zs : Bool → List (LPk × Value)) (rows' : List YR) (W : World) : Prop where
  b : W.heap[y]? = some (.cells #[.pointer (some ⟨pe false, 0, none⟩), .pointer (some ⟨pe true, 0, none⟩), vs false, vs true, vc false, vc true, vw false, vw true, .int .i64 P.now] 37 (0, 0))
  two : En2 w (pe false) (P.e false) (pe true) (P.e true) W
  low : w.heap.size ≤ y
  by_ : ∀ a, ∀ z ∈ zs a, ByO W z.2 z.1.body
  rows : RowsY W w.heap.size rows'
theorem IsY.grow {w W W' : World} {y : Nat} {pe : Bool → Nat} {P : Play} {vs vc vw : Bool → Value} {zs : Bool → List (LPk × Value)} (h : IsY w y pe P vs vc vw zs W) {i : Nat} {r : YR} (hi : (rowsY P vs vc vw zs)[i]? = some r) (h1 : r.T ≠ 5) (h2 : r.T ≠ 84) (h3 : r.T ≠ 80) (h4 : r.T ≠ 37)
    (hg : W.grownBy W' r.v.ownBlock) {v' : Value} {n' : Nat} {xs' : List Value} (ho : W'.ownsRow w.heap.size r.T r.size v' n' xs') (hv : v'.ownBlock = r.v.ownBlock ∨ v'.ownBlock = some W.heap.size) :
    YF w y pe P vs vc vw zs ((rowsY P vs vc vw zs).set i ⟨r.T, r.size, v', n', xs'⟩) W' ∧ KeepsB W W' := by
  have hrows := h.rows.grow hi hg ho hv
  obtain ⟨hlt, hr⟩ := List.getElem?_eq_some_iff.1 hi
  have hor := h.rows.1 r (hr ▸ List.getElem_mem hlt)
  cases hb : r.v.ownBlock with
  | none =>
    rw [hb] at hg
    have b : Below W.heap.size W W' := ((Fr.refl W).grown (B := 0) (T := []) (S := []) hg (by simp)).below'
    exact ⟨⟨(b.block _ (lt_of_block h.b)).trans h.b, h.two.keep b, h.low, fun a z hz => (h.by_ a z hz).below b, hrows⟩, KeepsB.below b⟩
  | some g =>
    obtain ⟨hl, cs, hc⟩ := own_block hor hb
    rw [hb] at hg
    have f : Fr 0 [] [g] W W' := (Fr.refl W).grown hg fun k hk => ⟨Nat.zero_le _, .inl (by cases hk; simp)⟩
    have hk : KeepsB W W' := fun v bs hbv => hbv.far f hc h1
    exact ⟨⟨f.keep h.b (by simp) (by simpa using block_ne h.b hc (Ne.symm h4)), h.two.farN f hc hl h1 h2 h3, h.low, fun a z hz => hk _ _ (h.by_ a z hz), hrows⟩, hk⟩
theorem YF.store {w W : World} {y : Nat} {pe : Bool → Nat} {P : Play} {vs vc vw : Bool → Value} {zs : Bool → List (LPk × Value)} {rows' : List YR} (h : YF w y pe P vs vc vw zs rows' W) (hT : ∀ r ∈ rows', r.T ≠ 37) (j : Nat) (u : Value) :
    KeepsB W (W.setCell ⟨y, j, none⟩ u) ∧ En2 w (pe false) (P.e false) (pe true) (P.e true) (W.setCell ⟨y, j, none⟩ u) ∧ RowsY (W.setCell ⟨y, j, none⟩ u) w.heap.size rows' := by
  have f : Fr 0 [] [y] W (W.setCell ⟨y, j, none⟩ u) := (Fr.refl W).setCell (p := ⟨y, j, none⟩) _ (Nat.zero_le _) (.inl (by simp))
  refine ⟨fun v bs hbv => hbv.far f h.b (by decide), h.two.farN f h.b h.low (by decide) (by decide) (by decide), h.rows.fr f (by simp) fun r hr g hg => ?_⟩
  obtain ⟨_, cs, hc⟩ := own_block (h.rows.1 r hr) hg
  simpa using block_ne hc h.b (hT r hr)

set_option maxRecDepth 100000 in
set_option maxHeartbeats 2000000 in
theorem put_false (w : World) (y : Nat) (pe : Bool → Nat) (P : Play) (k : LPk) (A : Option Addr) (c : Nat) (W : World) (vs vc vw : Bool → Value) (zs : Bool → List (LPk × Value)) (hY : IsY w y pe P vs vc vw zs W) (hb : ByO W (.slice A k.body.length c) k.body) (hl : (P.way false).length ≤ 400) :
    Calls Try.prog 40 #[.pointer (some ⟨y, 0, none⟩), .int .i64 0, .agg #[.int .i64 k.seq, .int .i64 k.ack, .slice A k.body.length c]] W fun e W' => e = .returned (.tuple #[]) ∧ RetY w y pe P vs vc vw zs W (putY P false k) W' := by
  obtain ⟨i1, hi1, hy0, hy1, hy2⟩ := info_parts Try.infoPkt
  have hbA := (Below.refl _ W).alloc (Nat.le_refl _) (.cells #[.int .i64 k.seq, .int .i64 k.ack, .slice A k.body.length c] 43)
  have HY0 := Lib.hid (hY.below hbA)
  have HBY := Lib.hid (hb.below hbA)
  have hq0 := block_new W (.cells #[.int .i64 k.seq, .int .i64 k.ack, .slice A k.body.length c] 43)
  obtain ⟨W0, hW0⟩ : ∃ W0, W.alloc (.cells #[.int .i64 k.seq, .int .i64 k.ack, .slice A k.body.length c] 43) = W0 := ⟨_, rfl⟩
  obtain ⟨b, hbn⟩ : ∃ b, W.heap.size = b := ⟨_, rfl⟩
  have hown : ∀ r ∈ rowsY P vs vc vw zs, r.v.ownBlock ≠ some b := fun r hr e => by
    obtain ⟨_, cs, hc⟩ := own_block (hY.rows.1 r hr) e
    have := lt_of_block hc
    omega
  have hkeep0 : KeepsB W W0 ∧ W.heap.size ≤ W0.heap.size ∧ ∀ g, g < W.heap.size → W0.heap[g]? = W.heap[g]? := by rw [← hW0]; exact ⟨KeepsB.below hbA, hbA.size, fun g hg => hbA.block g hg⟩
  have HK0 := Lib.hid hkeep0
  rw [hW0] at HY0 HBY hq0
  rw [hbn] at hq0
  have HW0 := Lib.hid hW0
  have HBN := Lib.hid hbn
  have HQ0 := Lib.hid hq0
  have HOWN : Hid (NoRow P vs vc vw zs b) := Lib.hid hown
  have HNY : Hid (NoRow P vs vc vw zs y) := Lib.hid (fun r hr e => by
    obtain ⟨_, cs, hc⟩ := own_block (hY.rows.1 r hr) e
    refine absurd rfl (block_ne hc hY.b ?_)
    simp only [rowsY, List.mem_cons, List.not_mem_nil, or_false] at hr
    rcases hr with rfl | rfl | rfl | rfl | rfl | rfl <;> first | (show 9 ≠ 37; decide) | (show 43 ≠ 37; decide))
  obtain ⟨Av, cv, hv, kv1, kv2, _⟩ : ∃ A c, vw false = .slice A (P.way false).length c ∧ (P.way false).length ≤ c ∧ c ≤ maxLen ∧ True := by
    have ho := hY.rows.1 ⟨43, 3, vw false, (P.way false).length, (zs false).flatMap encP⟩ (by simp [rowsY])
    obtain ⟨A, c, e, h1, h2, _⟩ := own_slice ho
    exact ⟨A, c, e, h1, h2, trivial⟩
  have HVW := Lib.hid hv
  obtain ⟨n, hn⟩ : ∃ n, (P.way false).length = n := ⟨_, rfl⟩
  have HN := Lib.hid hn
  have hb0 := HY0.out.b
  rw [show vw false = _ from HVW.out] at hb0
  rw [hn] at hl kv1 hb0
  have x0 : (W.alloc (.cells #[.int .i64 k.seq, .int .i64 k.ack, .slice A k.body.length c] 43)).cell? ⟨y, 6, none⟩ = some (.slice Av n cv) := by rw [HW0.out]; exact cell_at hb0 6
  have HB0 := Lib.hid hb0
  clear hY hb hbA hq0 hW0 hbn hown hkeep0 hv hn hb0
  go_enter Try.func40, Try.ntmps40
  by_cases hlt : n < 400
  · go_wp2_with fail
    rw [HW0.out, HBN.out]
    clear x0
    refine wp_region_flow2 (fun W => W0.heap.size ≤ W.heap.size ∧ ∀ g, g < W0.heap.size → NoRow P vs vc vw zs g → W.heap[g]? = W0.heap[g]?) (fun W => IsY w y pe P vs vc vw zs W ∧ ByO W (.slice A k.body.length c) k.body ∧ KeepsB W0 W) [0, 1, 2, 3, 4, 5, 6, 7, 8, 11, 12, 9, 10, 13, 14] (by kernel_rfl) (by kernel_rfl) (by kernel_rfl) (⟨Nat.le_refl _, fun _ _ _ => rfl⟩) (⟨HY0.out.below (Below.refl _ W0).drew, HBY.out.below (Below.refl _ W0).drew, KeepsB.below (Below.refl _ W0).drew⟩) ?_
    refine flow_val ?_ rfl (by kernel_rfl) (by rfl) (fun W hW => ?_) ?_
    rotate_left 1
    · go_simp <;> with_reducible rfl
    simp only [Act.put, List.setIfInBounds_toArray, List.set_cons_succ, List.set_cons_zero]
    refine flow_val ?_ rfl (by kernel_rfl) (by rfl) (fun W hW => ?_) ?_
    rotate_left 1
    · go_simp <;> with_reducible rfl
    simp only [Act.put, List.setIfInBounds_toArray, List.set_cons_succ, List.set_cons_zero]
    refine flow_val ?_ rfl (by kernel_rfl) (by rfl) (fun W hW => ?_) ?_
    rotate_left 1
    · go_simp <;> with_reducible rfl
    simp only [Act.put, List.setIfInBounds_toArray, List.set_cons_succ, List.set_cons_zero]
    refine flow_val ?_ rfl (by kernel_rfl) (by rfl) (fun W hW => ?_) ?_
    rotate_left 1
    · go_simp <;> with_reducible rfl
    simp only [Act.put, List.setIfInBounds_toArray, List.set_cons_succ, List.set_cons_zero]
    refine flow_val ?_ rfl (by kernel_rfl) (by rfl) (fun W hW => ?_) ?_
    rotate_left 1
    · go_simp <;> with_reducible rfl
    simp only [Act.put, List.setIfInBounds_toArray, List.set_cons_succ, List.set_cons_zero]
    refine flow_val ?_ rfl (by kernel_rfl) (by rfl) (fun W hW => ?_) ?_
    rotate_left 1
    · go_simp <;> with_reducible rfl
    simp only [Act.put, List.setIfInBounds_toArray, List.set_cons_succ, List.set_cons_zero]
    refine flow_val ?_ rfl (by kernel_rfl) (by rfl) (fun W hW => ?_) ?_
    rotate_left 1
    · go_simp <;> with_reducible rfl
    simp only [Act.put, List.setIfInBounds_toArray, List.set_cons_succ, List.set_cons_zero]
    refine flow_val ?_ rfl (by kernel_rfl) (by rfl) (fun W hW => ?_) ?_
    rotate_left 1
    · have c1 : W.cell? ⟨y, 6, none⟩ = some (.slice Av n cv) := cell_at ((hW.2 y (lt_of_block HB0.out) HNY.out).trans HB0.out) 6; go_simp <;> with_reducible rfl
    simp only [Act.put, List.setIfInBounds_toArray, List.set_cons_succ, List.set_cons_zero]
    refine flow_val ?_ rfl (by kernel_rfl) (by rfl) (fun W hW => ?_) ?_
    rotate_left 1
    · have hq := (hW.2 b (lt_of_block HQ0.out) HOWN.out).trans HQ0.out; have c1 : W.cell? ⟨b, 0, none⟩ = some (.int .i64 k.seq) := cell_at hq 0; have c2 : W.cell? ⟨b, 1, none⟩ = some (.int .i64 k.ack) := cell_at hq 1; have c3 : W.cell? ⟨b, 2, none⟩ = some (.slice A k.body.length c) := cell_at hq 2; go_simp <;> with_reducible rfl
    simp only [Act.put, List.setIfInBounds_toArray, List.set_cons_succ, List.set_cons_zero]
    refine flow_val ?_ rfl (by kernel_rfl) (by rfl) (fun W hW => ?_) ?_
    rotate_left 1
    · go_simp <;> with_reducible rfl
    simp only [Act.put, List.setIfInBounds_toArray, List.set_cons_succ, List.set_cons_zero]
    refine flow_val ?_ rfl (by kernel_rfl) (by rfl) (fun W hW => ?_) ?_
    rotate_left 1
    · go_simp <;> with_reducible rfl
    simp only [Act.put, List.setIfInBounds_toArray, List.set_cons_succ, List.set_cons_zero]
    refine flow_gmake (fun v W => ∃ g', v = .slice (some ⟨g', 0, none⟩) 1 1 ∧ W.heap[g']? = some (.cells #[.int .i64 k.seq, .int .i64 k.ack, .slice A k.body.length c] 43 (0, 0)) ∧ IsY w y pe P vs vc vw zs W ∧ ByO W (.slice A k.body.length c) k.body ∧ KeepsB W0 W) rfl (by kernel_rfl) (by rfl) (by kernel_rfl) (fun W hW hC => ?_) ?_
    · have hb : Below W.heap.size W (W.alloc (.cells #[.int .i64 k.seq, .int .i64 k.ack, .slice A k.body.length c] 43)) := (Below.refl _ W).alloc (Nat.le_refl _) _
      exact ⟨_, _, by go_simp <;> with_reducible rfl, ⟨Nat.le_trans hW.1 hb.size, fun g hg hr => (hb.block _ (Nat.lt_of_lt_of_le hg hW.1)).trans (hW.2 g hg hr)⟩, ⟨_, rfl, block_new _ _, hC.1.below hb, hC.2.1.below hb, fun v bs hh => (hC.2.2 v bs hh).below hb⟩⟩
    rintro v23 ⟨_, _, g23, rfl, _, _⟩
    simp only [Act.put, List.setIfInBounds_toArray, List.set_cons_succ, List.set_cons_zero]
    refine flow_gmake (fun v W => YF w y pe P vs vc vw zs ((rowsY P vs vc vw zs).set 4 ⟨43, 3, v, n + 1, (zs false).flatMap encP ++ encP (k, .slice A k.body.length c)⟩) W ∧ ByO W (.slice A k.body.length c) k.body ∧ KeepsB W0 W ∧ (v.ownBlock = (vw false).ownBlock ∨ ∃ g, v.ownBlock = some g ∧ W0.heap.size ≤ g)) rfl (by kernel_rfl) (by rfl) (by kernel_rfl) (fun W hW hC => ?_) ?_
    · obtain ⟨g2, e2, hg2, hC2, hC3⟩ := hC
      injection e2 with e2 _ _
      injection e2 with e2
      injection e2 with e2 _ _
      subst e2
      have hir : (rowsY P vs vc vw zs)[4]? = some ⟨43, 3, vw false, (P.way false).length, (zs false).flatMap encP⟩ := rfl
      have hor := hC2.rows.1 _ (List.mem_of_getElem? hir)
      simp only [HVW.out, HN.out] at hor hir
      obtain ⟨hC3, hC4⟩ := hC3
      refine exec_append_at (.tmp 21) (.tmp 23) 34 rfl w.heap.size 43 i1 (.agg #[.int .i64 0, .int .i64 0, .slice none 0 0]) 3 40 Try.underlying34 hi1 hy0 hy1 hy2 rfl (by decide) (.slice Av n cv) n ((zs false).flatMap encP) rfl hor (some ⟨g23, 0, none⟩) 1 1 (encP (k, .slice A k.body.length c)) rfl ⟨rfl, fun _ => ⟨_, _, rfl, lt_of_block hg2, fun j u hu => ?_⟩⟩ (by simp [encP, Value.oneCell']) (by unfold maxLen; omega) (by omega) hC2.two.bel.size (fun v' w' x2 x3 x4 => ?_)
      · match j, hu with
        | 0, hu => simp [encP] at hu; subst hu; rw [cell_at hg2]; rfl
        | 1, hu => simp [encP] at hu; subst hu; rw [cell_at hg2]; rfl
        | 2, hu => simp [encP] at hu; subst hu; rw [cell_at hg2]; rfl
        | j + 3, hu => simp [encP] at hu
      · obtain ⟨hyf, hkb⟩ := hC2.grow hir (by show 43 ≠ 5; decide) (by show 43 ≠ 84; decide) (by show 43 ≠ 80; decide) (by show 43 ≠ 37; decide) x3 x2 x4
        refine ⟨⟨⟨Nat.le_trans hW.1.1 x3.size, fun g hg hr => ?_⟩, trivial⟩, hyf, hkb _ _ hC3, fun v bs hh => hkb _ _ (hC4 v bs hh), ?_⟩
        · rw [x3.block g (Nat.lt_of_lt_of_le hg hW.1.1) (fun e => hr ⟨43, 3, vw false, (P.way false).length, (zs false).flatMap encP⟩ (by simp [rowsY]) (by simp only [HVW.out, HN.out]; exact e.symm))]
          exact hW.1.2 g hg hr
        · rcases x4 with x4 | x4
          · exact .inl (by rw [HVW.out, HN.out]; exact x4)
          · exact .inr ⟨_, x4, hW.1.1⟩
    rintro v24 ⟨_, _, hv24, _⟩
    simp only [Act.put, List.setIfInBounds_toArray, List.set_cons_succ, List.set_cons_zero]
    obtain ⟨A24, c24, e24⟩ : ∃ A' c', v24 = .slice A' (n + 1) c' := by
      obtain ⟨A', c', e, _⟩ := own_slice (hv24.rows.1 ⟨43, 3, v24, n + 1, (zs false).flatMap encP ++ encP (k, .slice A k.body.length c)⟩ (by simp [rowsY]))
      exact ⟨A', c', e⟩
    subst e24
    clear hv24
    refine flow_val ?_ rfl (by kernel_rfl) (by rfl) (fun W hW => ?_) ?_
    rotate_left 1
    · go_simp <;> with_reducible rfl
    simp only [Act.put, List.setIfInBounds_toArray, List.set_cons_succ, List.set_cons_zero]
    refine flow_bar (fun W => RetY w y pe P vs vc vw zs W0 { P with way := upB P.way false (P.way false ++ [k]) } W) (fun _ => True) rfl (by kernel_rfl) (by rfl) (by kernel_rfl) (by kernel_rfl) (fun W hW hC => ?_) ?_
    · obtain ⟨hyf, hby, hkb, hnew⟩ := hC
      have q1 := cell_at hyf.b 6
      have q2 := frozen_at hyf.b 6
      have HF := Lib.hid hyf
      have HB := Lib.hid hby
      have HKB := Lib.hid hkb
      have HNEW := Lib.hid hnew
      have HWW := Lib.hid hW.1.1
      clear hyf hby hkb hnew hW
      refine ⟨_, by go_simp <;> with_reducible rfl, ?_, trivial⟩
      obtain ⟨s1, s2, s3⟩ := HF.out.store (by simp [rowsY]) 6 (.slice A24 (n + 1) c24)
      refine ⟨vs, vc, upB vw false (.slice A24 (n + 1) c24), upB zs false (zs false ++ [(k, .slice A k.body.length c)]), ⟨?_, s2, HF.out.low, fun a => ?_, fun a z hz => ?_, ?_⟩, fun v bs hh => s1 _ _ (HKB.out v bs hh), by simpa using HWW.out.1, fun g hg hy hr => ⟨?_, ?_⟩⟩
      · rw [block_set HF.out.b]; simp [upB]
      · obtain ⟨_, _, _, _, hmap⟩ : True ∧ True ∧ True ∧ True ∧ (∀ a, (zs a).map (·.1) = P.way a) := ⟨trivial, trivial, trivial, trivial, HY0.out.map⟩
        simp only [upB]
        split
        · simp [hmap]
        · exact hmap a
      · simp only [upB] at hz
        split at hz
        · rcases List.mem_append.1 hz with hz | hz
          · exact s1 _ _ (HF.out.by_ _ z hz)
          · simp at hz; subst hz; exact s1 _ _ HB.out
        · exact s1 _ _ (HF.out.by_ a z hz)
      · have := s3
        simpa [rowsY, upB, HN.out, List.flatMap_append] using this
      · refine (Below.heap_setCell _ _ _ g (by simpa using hy)).trans (HWW.out.2 g hg hr)
      · have hnw : (Value.slice A24 (n + 1) c24).ownBlock ≠ some g := by
          rcases HNEW.out with e | ⟨g', e, hg'⟩
          · rw [e]; exact hr ⟨43, 3, vw false, (P.way false).length, (zs false).flatMap encP⟩ (by simp [rowsY])
          · rw [e]; intro e2; injection e2 with e2; omega
        intro r hr2
        have hr3 := fun r hh => hr r hh
        simp only [rowsY, List.mem_cons, List.not_mem_nil, or_false] at hr2 hr3
        rcases hr2 with rfl | rfl | rfl | rfl | rfl | rfl
        · simpa [upB] using hr3 _ (.inl rfl)
        · simpa [upB] using hr3 _ (.inr (.inl rfl))
        · simpa [upB] using hr3 _ (.inr (.inr (.inl rfl)))
        · simpa [upB] using hr3 _ (.inr (.inr (.inr (.inl rfl))))
        · simpa [upB] using hnw
        · simpa [upB] using hr3 _ (.inr (.inr (.inr (.inr (.inr (rfl))))))
    simp only [Act.put]
    refine flow_done2 ?_
    intro W hW _
    go_wp2
    go_end0
    refine ⟨by simp, ?_⟩
    have e : putY P false k = { P with way := upB P.way false (P.way false ++ [k]) } := by unfold putY; rw [if_pos (by rw [HN.out]; exact hlt)]
    rw [e]
    obtain ⟨vs', vc', vw', zs', h1, h2, h3, h4⟩ := hW.1
    exact ⟨vs', vc', vw', zs', h1, fun v bs hh => h2 v bs (HK0.out.1 v bs hh), Nat.le_trans HK0.out.2.1 h3, fun g hg hy hr => by
      obtain ⟨k1, k2⟩ := h4 g (Nat.lt_of_lt_of_le hg HK0.out.2.1) hy hr
      exact ⟨k1.trans (HK0.out.2.2 g hg), k2⟩⟩
  · go_wp2
    go_end0
    refine ⟨by simp, ?_⟩
    have e : putY P false k = P := by unfold putY; rw [if_neg (by rw [HN.out]; exact hlt)]
    rw [e, HW0.out]
    exact ⟨_, _, _, _, HY0.out, HK0.out.1, HK0.out.2.1, fun g hg _ hr => ⟨HK0.out.2.2 g hg, hr⟩⟩

set_option maxRecDepth 100000 in
set_option maxHeartbeats 2000000 in
theorem put_true (w : World) (y : Nat) (pe : Bool → Nat) (P : Play) (k : LPk) (A : Option Addr) (c : Nat) (W : World) (vs vc vw : Bool → Value) (zs : Bool → List (LPk × Value)) (hY : IsY w y pe P vs vc vw zs W) (hb : ByO W (.slice A k.body.length c) k.body) (hl : (P.way true).length ≤ 400) :
    Calls Try.prog 40 #[.pointer (some ⟨y, 0, none⟩), .int .i64 1, .agg #[.int .i64 k.seq, .int .i64 k.ack, .slice A k.body.length c]] W fun e W' => e = .returned (.tuple #[]) ∧ RetY w y pe P vs vc vw zs W (putY P true k) W' := by
  obtain ⟨i1, hi1, hy0, hy1, hy2⟩ := info_parts Try.infoPkt
  have hbA := (Below.refl _ W).alloc (Nat.le_refl _) (.cells #[.int .i64 k.seq, .int .i64 k.ack, .slice A k.body.length c] 43)
  have HY0 := Lib.hid (hY.below hbA)
  have HBY := Lib.hid (hb.below hbA)
  have hq0 := block_new W (.cells #[.int .i64 k.seq, .int .i64 k.ack, .slice A k.body.length c] 43)
  obtain ⟨W0, hW0⟩ : ∃ W0, W.alloc (.cells #[.int .i64 k.seq, .int .i64 k.ack, .slice A k.body.length c] 43) = W0 := ⟨_, rfl⟩
  obtain ⟨b, hbn⟩ : ∃ b, W.heap.size = b := ⟨_, rfl⟩
  have hown : ∀ r ∈ rowsY P vs vc vw zs, r.v.ownBlock ≠ some b := fun r hr e => by
    obtain ⟨_, cs, hc⟩ := own_block (hY.rows.1 r hr) e
    have := lt_of_block hc
    omega
  have hkeep0 : KeepsB W W0 ∧ W.heap.size ≤ W0.heap.size ∧ ∀ g, g < W.heap.size → W0.heap[g]? = W.heap[g]? := by rw [← hW0]; exact ⟨KeepsB.below hbA, hbA.size, fun g hg => hbA.block g hg⟩
  have HK0 := Lib.hid hkeep0
  rw [hW0] at HY0 HBY hq0
  rw [hbn] at hq0
  have HW0 := Lib.hid hW0
  have HBN := Lib.hid hbn
  have HQ0 := Lib.hid hq0
  have HOWN : Hid (NoRow P vs vc vw zs b) := Lib.hid hown
  have HNY : Hid (NoRow P vs vc vw zs y) := Lib.hid (fun r hr e => by
    obtain ⟨_, cs, hc⟩ := own_block (hY.rows.1 r hr) e
    refine absurd rfl (block_ne hc hY.b ?_)
    simp only [rowsY, List.mem_cons, List.not_mem_nil, or_false] at hr
    rcases hr with rfl | rfl | rfl | rfl | rfl | rfl <;> first | (show 9 ≠ 37; decide) | (show 43 ≠ 37; decide))
  obtain ⟨Av, cv, hv, kv1, kv2, _⟩ : ∃ A c, vw true = .slice A (P.way true).length c ∧ (P.way true).length ≤ c ∧ c ≤ maxLen ∧ True := by
    have ho := hY.rows.1 ⟨43, 3, vw true, (P.way true).length, (zs true).flatMap encP⟩ (by simp [rowsY])
    obtain ⟨A, c, e, h1, h2, _⟩ := own_slice ho
    exact ⟨A, c, e, h1, h2, trivial⟩
  have HVW := Lib.hid hv
  obtain ⟨n, hn⟩ : ∃ n, (P.way true).length = n := ⟨_, rfl⟩
  have HN := Lib.hid hn
  have hb0 := HY0.out.b
  rw [show vw true = _ from HVW.out] at hb0
  rw [hn] at hl kv1 hb0
  have x0 : (W.alloc (.cells #[.int .i64 k.seq, .int .i64 k.ack, .slice A k.body.length c] 43)).cell? ⟨y, 7, none⟩ = some (.slice Av n cv) := by rw [HW0.out]; exact cell_at hb0 7
  have HB0 := Lib.hid hb0
  clear hY hb hbA hq0 hW0 hbn hown hkeep0 hv hn hb0
  go_enter Try.func40, Try.ntmps40
  by_cases hlt : n < 400
  · go_wp2_with fail
    rw [HW0.out, HBN.out]
    clear x0
    refine wp_region_flow2 (fun W => W0.heap.size ≤ W.heap.size ∧ ∀ g, g < W0.heap.size → NoRow P vs vc vw zs g → W.heap[g]? = W0.heap[g]?) (fun W => IsY w y pe P vs vc vw zs W ∧ ByO W (.slice A k.body.length c) k.body ∧ KeepsB W0 W) [0, 1, 2, 3, 4, 5, 6, 7, 8, 11, 12, 9, 10, 13, 14] (by kernel_rfl) (by kernel_rfl) (by kernel_rfl) (⟨Nat.le_refl _, fun _ _ _ => rfl⟩) (⟨HY0.out.below (Below.refl _ W0).drew, HBY.out.below (Below.refl _ W0).drew, KeepsB.below (Below.refl _ W0).drew⟩) ?_
    refine flow_val ?_ rfl (by kernel_rfl) (by rfl) (fun W hW => ?_) ?_
    rotate_left 1
    · go_simp <;> with_reducible rfl
    simp only [Act.put, List.setIfInBounds_toArray, List.set_cons_succ, List.set_cons_zero]
    refine flow_val ?_ rfl (by kernel_rfl) (by rfl) (fun W hW => ?_) ?_
    rotate_left 1
    · go_simp <;> with_reducible rfl
    simp only [Act.put, List.setIfInBounds_toArray, List.set_cons_succ, List.set_cons_zero]
    refine flow_val ?_ rfl (by kernel_rfl) (by rfl) (fun W hW => ?_) ?_
    rotate_left 1
    · go_simp <;> with_reducible rfl
    simp only [Act.put, List.setIfInBounds_toArray, List.set_cons_succ, List.set_cons_zero]
    refine flow_val ?_ rfl (by kernel_rfl) (by rfl) (fun W hW => ?_) ?_
    rotate_left 1
    · go_simp <;> with_reducible rfl
    simp only [Act.put, List.setIfInBounds_toArray, List.set_cons_succ, List.set_cons_zero]
    refine flow_val ?_ rfl (by kernel_rfl) (by rfl) (fun W hW => ?_) ?_
    rotate_left 1
    · go_simp <;> with_reducible rfl
    simp only [Act.put, List.setIfInBounds_toArray, List.set_cons_succ, List.set_cons_zero]
    refine flow_val ?_ rfl (by kernel_rfl) (by rfl) (fun W hW => ?_) ?_
    rotate_left 1
    · go_simp <;> with_reducible rfl
    simp only [Act.put, List.setIfInBounds_toArray, List.set_cons_succ, List.set_cons_zero]
    refine flow_val ?_ rfl (by kernel_rfl) (by rfl) (fun W hW => ?_) ?_
    rotate_left 1
    · go_simp <;> with_reducible rfl
    simp only [Act.put, List.setIfInBounds_toArray, List.set_cons_succ, List.set_cons_zero]
    refine flow_val ?_ rfl (by kernel_rfl) (by rfl) (fun W hW => ?_) ?_
    rotate_left 1
    · have c1 : W.cell? ⟨y, 7, none⟩ = some (.slice Av n cv) := cell_at ((hW.2 y (lt_of_block HB0.out) HNY.out).trans HB0.out) 7; go_simp <;> with_reducible rfl
    simp only [Act.put, List.setIfInBounds_toArray, List.set_cons_succ, List.set_cons_zero]
    refine flow_val ?_ rfl (by kernel_rfl) (by rfl) (fun W hW => ?_) ?_
    rotate_left 1
    · have hq := (hW.2 b (lt_of_block HQ0.out) HOWN.out).trans HQ0.out; have c1 : W.cell? ⟨b, 0, none⟩ = some (.int .i64 k.seq) := cell_at hq 0; have c2 : W.cell? ⟨b, 1, none⟩ = some (.int .i64 k.ack) := cell_at hq 1; have c3 : W.cell? ⟨b, 2, none⟩ = some (.slice A k.body.length c) := cell_at hq 2; go_simp <;> with_reducible rfl
    simp only [Act.put, List.setIfInBounds_toArray, List.set_cons_succ, List.set_cons_zero]
    refine flow_val ?_ rfl (by kernel_rfl) (by rfl) (fun W hW => ?_) ?_
    rotate_left 1
    · go_simp <;> with_reducible rfl
    simp only [Act.put, List.setIfInBounds_toArray, List.set_cons_succ, List.set_cons_zero]
    refine flow_val ?_ rfl (by kernel_rfl) (by rfl) (fun W hW => ?_) ?_
    rotate_left 1
    · go_simp <;> with_reducible rfl
    simp only [Act.put, List.setIfInBounds_toArray, List.set_cons_succ, List.set_cons_zero]
    refine flow_gmake (fun v W => ∃ g', v = .slice (some ⟨g', 0, none⟩) 1 1 ∧ W.heap[g']? = some (.cells #[.int .i64 k.seq, .int .i64 k.ack, .slice A k.body.length c] 43 (0, 0)) ∧ IsY w y pe P vs vc vw zs W ∧ ByO W (.slice A k.body.length c) k.body ∧ KeepsB W0 W) rfl (by kernel_rfl) (by rfl) (by kernel_rfl) (fun W hW hC => ?_) ?_
    · have hb : Below W.heap.size W (W.alloc (.cells #[.int .i64 k.seq, .int .i64 k.ack, .slice A k.body.length c] 43)) := (Below.refl _ W).alloc (Nat.le_refl _) _
      exact ⟨_, _, by go_simp <;> with_reducible rfl, ⟨Nat.le_trans hW.1 hb.size, fun g hg hr => (hb.block _ (Nat.lt_of_lt_of_le hg hW.1)).trans (hW.2 g hg hr)⟩, ⟨_, rfl, block_new _ _, hC.1.below hb, hC.2.1.below hb, fun v bs hh => (hC.2.2 v bs hh).below hb⟩⟩
    rintro v23 ⟨_, _, g23, rfl, _, _⟩
    simp only [Act.put, List.setIfInBounds_toArray, List.set_cons_succ, List.set_cons_zero]
    refine flow_gmake (fun v W => YF w y pe P vs vc vw zs ((rowsY P vs vc vw zs).set 5 ⟨43, 3, v, n + 1, (zs true).flatMap encP ++ encP (k, .slice A k.body.length c)⟩) W ∧ ByO W (.slice A k.body.length c) k.body ∧ KeepsB W0 W ∧ (v.ownBlock = (vw true).ownBlock ∨ ∃ g, v.ownBlock = some g ∧ W0.heap.size ≤ g)) rfl (by kernel_rfl) (by rfl) (by kernel_rfl) (fun W hW hC => ?_) ?_
    · obtain ⟨g2, e2, hg2, hC2, hC3⟩ := hC
      injection e2 with e2 _ _
      injection e2 with e2
      injection e2 with e2 _ _
      subst e2
      have hir : (rowsY P vs vc vw zs)[5]? = some ⟨43, 3, vw true, (P.way true).length, (zs true).flatMap encP⟩ := rfl
      have hor := hC2.rows.1 _ (List.mem_of_getElem? hir)
      simp only [HVW.out, HN.out] at hor hir
      obtain ⟨hC3, hC4⟩ := hC3
      refine exec_append_at (.tmp 21) (.tmp 23) 34 rfl w.heap.size 43 i1 (.agg #[.int .i64 0, .int .i64 0, .slice none 0 0]) 3 40 Try.underlying34 hi1 hy0 hy1 hy2 rfl (by decide) (.slice Av n cv) n ((zs true).flatMap encP) rfl hor (some ⟨g23, 0, none⟩) 1 1 (encP (k, .slice A k.body.length c)) rfl ⟨rfl, fun _ => ⟨_, _, rfl, lt_of_block hg2, fun j u hu => ?_⟩⟩ (by simp [encP, Value.oneCell']) (by unfold maxLen; omega) (by omega) hC2.two.bel.size (fun v' w' x2 x3 x4 => ?_)
      · match j, hu with
        | 0, hu => simp [encP] at hu; subst hu; rw [cell_at hg2]; rfl
        | 1, hu => simp [encP] at hu; subst hu; rw [cell_at hg2]; rfl
        | 2, hu => simp [encP] at hu; subst hu; rw [cell_at hg2]; rfl
        | j + 3, hu => simp [encP] at hu
      · obtain ⟨hyf, hkb⟩ := hC2.grow hir (by show 43 ≠ 5; decide) (by show 43 ≠ 84; decide) (by show 43 ≠ 80; decide) (by show 43 ≠ 37; decide) x3 x2 x4
        refine ⟨⟨⟨Nat.le_trans hW.1.1 x3.size, fun g hg hr => ?_⟩, trivial⟩, hyf, hkb _ _ hC3, fun v bs hh => hkb _ _ (hC4 v bs hh), ?_⟩
        · rw [x3.block g (Nat.lt_of_lt_of_le hg hW.1.1) (fun e => hr ⟨43, 3, vw true, (P.way true).length, (zs true).flatMap encP⟩ (by simp [rowsY]) (by simp only [HVW.out, HN.out]; exact e.symm))]
          exact hW.1.2 g hg hr
        · rcases x4 with x4 | x4
          · exact .inl (by rw [HVW.out, HN.out]; exact x4)
          · exact .inr ⟨_, x4, hW.1.1⟩
    rintro v24 ⟨_, _, hv24, _⟩
    simp only [Act.put, List.setIfInBounds_toArray, List.set_cons_succ, List.set_cons_zero]
    obtain ⟨A24, c24, e24⟩ : ∃ A' c', v24 = .slice A' (n + 1) c' := by
      obtain ⟨A', c', e, _⟩ := own_slice (hv24.rows.1 ⟨43, 3, v24, n + 1, (zs true).flatMap encP ++ encP (k, .slice A k.body.length c)⟩ (by simp [rowsY]))
      exact ⟨A', c', e⟩
    subst e24
    clear hv24
    refine flow_val ?_ rfl (by kernel_rfl) (by rfl) (fun W hW => ?_) ?_
    rotate_left 1
    · go_simp <;> with_reducible rfl
    simp only [Act.put, List.setIfInBounds_toArray, List.set_cons_succ, List.set_cons_zero]
    refine flow_bar (fun W => RetY w y pe P vs vc vw zs W0 { P with way := upB P.way true (P.way true ++ [k]) } W) (fun _ => True) rfl (by kernel_rfl) (by rfl) (by kernel_rfl) (by kernel_rfl) (fun W hW hC => ?_) ?_
    · obtain ⟨hyf, hby, hkb, hnew⟩ := hC
      have q1 := cell_at hyf.b 7
      have q2 := frozen_at hyf.b 7
      have HF := Lib.hid hyf
      have HB := Lib.hid hby
      have HKB := Lib.hid hkb
      have HNEW := Lib.hid hnew
      have HWW := Lib.hid hW.1.1
      clear hyf hby hkb hnew hW
      refine ⟨_, by go_simp <;> with_reducible rfl, ?_, trivial⟩
      obtain ⟨s1, s2, s3⟩ := HF.out.store (by simp [rowsY]) 7 (.slice A24 (n + 1) c24)
      refine ⟨vs, vc, upB vw true (.slice A24 (n + 1) c24), upB zs true (zs true ++ [(k, .slice A k.body.length c)]), ⟨?_, s2, HF.out.low, fun a => ?_, fun a z hz => ?_, ?_⟩, fun v bs hh => s1 _ _ (HKB.out v bs hh), by simpa using HWW.out.1, fun g hg hy hr => ⟨?_, ?_⟩⟩
      · rw [block_set HF.out.b]; simp [upB]
      · obtain ⟨_, _, _, _, hmap⟩ : True ∧ True ∧ True ∧ True ∧ (∀ a, (zs a).map (·.1) = P.way a) := ⟨trivial, trivial, trivial, trivial, HY0.out.map⟩
        simp only [upB]
        split
        · simp [hmap]
        · exact hmap a
      · simp only [upB] at hz
        split at hz
        · rcases List.mem_append.1 hz with hz | hz
          · exact s1 _ _ (HF.out.by_ _ z hz)
          · simp at hz; subst hz; exact s1 _ _ HB.out
        · exact s1 _ _ (HF.out.by_ a z hz)
      · have := s3
        simpa [rowsY, upB, HN.out, List.flatMap_append] using this
      · refine (Below.heap_setCell _ _ _ g (by simpa using hy)).trans (HWW.out.2 g hg hr)
      · have hnw : (Value.slice A24 (n + 1) c24).ownBlock ≠ some g := by
          rcases HNEW.out with e | ⟨g', e, hg'⟩
          · rw [e]; exact hr ⟨43, 3, vw true, (P.way true).length, (zs true).flatMap encP⟩ (by simp [rowsY])
          · rw [e]; intro e2; injection e2 with e2; omega
        intro r hr2
        have hr3 := fun r hh => hr r hh
        simp only [rowsY, List.mem_cons, List.not_mem_nil, or_false] at hr2 hr3
        rcases hr2 with rfl | rfl | rfl | rfl | rfl | rfl
        · simpa [upB] using hr3 _ (.inl rfl)
        · simpa [upB] using hr3 _ (.inr (.inl rfl))
        · simpa [upB] using hr3 _ (.inr (.inr (.inl rfl)))
        · simpa [upB] using hr3 _ (.inr (.inr (.inr (.inl rfl))))
        · simpa [upB] using hr3 _ (.inr (.inr (.inr (.inr (.inl rfl)))))
        · simpa [upB] using hnw
    simp only [Act.put]
    refine flow_done2 ?_
    intro W hW _
    go_wp2
    go_end0
    refine ⟨by simp, ?_⟩
    have e : putY P true k = { P with way := upB P.way true (P.way true ++ [k]) } := by unfold putY; rw [if_pos (by rw [HN.out]; exact hlt)]
    rw [e]
    obtain ⟨vs', vc', vw', zs', h1, h2, h3, h4⟩ := hW.1
    exact ⟨vs', vc', vw', zs', h1, fun v bs hh => h2 v bs (HK0.out.1 v bs hh), Nat.le_trans HK0.out.2.1 h3, fun g hg hy hr => by
      obtain ⟨k1, k2⟩ := h4 g (Nat.lt_of_lt_of_le hg HK0.out.2.1) hy hr
      exact ⟨k1.trans (HK0.out.2.2 g hg), k2⟩⟩
  · go_wp2
    go_end0
    refine ⟨by simp, ?_⟩
    have e : putY P true k = P := by unfold putY; rw [if_neg (by rw [HN.out]; exact hlt)]
    rw [e, HW0.out]
    exact ⟨_, _, _, _, HY0.out, HK0.out.1, HK0.out.2.1, fun g hg _ hr => ⟨HK0.out.2.2 g hg, hr⟩⟩
end Go.Proofs.Ytnmbblkfaoihfaa
