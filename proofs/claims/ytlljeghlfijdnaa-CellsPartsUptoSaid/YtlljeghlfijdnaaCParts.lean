/- cells.Parts: bytes, cut into parts. -/
import Derived.Test.YtlljeghlfijdnaaCChunk
namespace Go.Proofs.Ytlljeghlfijdnaa
open Go.RowKit Go.Shelf
attribute [local go_sem] Oper.semAt_some

/-- A part's bytes. -/
def partB (bs : List Nat) (x : PartOf bs.length) : List Nat := (bs.drop x.1.1).take x.1.2
theorem partB_len (bs : List Nat) (x : PartOf bs.length) : (partB bs x).length = x.1.2 := by
  have := x.2
  unfold partB
  simp
  omega
/-- The parts of m bytes each. -/
def PartsL (bs : List Nat) (m : Nat) (pl : List (List Nat)) : Prop := (∀ j (h : j < pl.length), pl[j] = (bs.drop (j * m)).take m ∧ j * m < bs.length) ∧ bs.length ≤ pl.length * m
theorem partsL_of {bs : List Nat} {m : Nat} {xs : List (PartOf bs.length)} (h : PartsOf bs.length m xs) (h2 : bs.length ≤ xs.length * m) : PartsL bs m (xs.map (partB bs)) := by
  refine ⟨fun j hj => ?_, by simpa using h2⟩
  simp only [List.length_map] at hj
  have h3 := h j hj
  have h4 := (xs[j]).2
  simp only [List.getElem_map]
  unfold partB
  rw [h3] at h4 ⊢
  simp only at h4 ⊢
  refine ⟨?_, by omega⟩
  rw [List.take_eq_take_iff]
  simp
/-- What holds between two rounds: block B holds the parts, copied. -/
def PartsI (w : World) (bs : List Nat) (pre : List (PartOf bs.length)) (W : World) : Prop :=
  (∃ v hs, W.heap[w.heap.size]? = some (.cells #[v] 61 (0, 0)) ∧ W.ownsRow (w.heap.size + 3) 22 1 v pre.length hs ∧
    ∀ k (h : k < pre.length) u, hs[k]? = some u → W.ownsRow (w.heap.size + 3) 5 1 u (partB bs pre[k]).length ((partB bs pre[k]).map u8v)) ∧ Below w.heap.size w W ∧ w.heap.size + 3 ≤ W.heap.size

theorem own_grown {w w' : World} {row : Option Nat} {base : Nat} {e : TypeId} {size n : Nat} {v : Value} {xs : List Value} (ho : w.ownsRow base e size v n xs) (hg : w.grownBy w' row) (hr : ∀ r, row = some r → ∃ o : Obj, w.heap[r]? = some o ∧ o.isCells = false) : w'.ownsRow base e size v n xs := by
  refine ho.kept hg ?_
  rcases ho.2 with ⟨rfl, _⟩ | ⟨g, cap, cur, rfl, _, hgb, _⟩
  · exact .inl rfl
  · refine .inr fun e' => ?_
    obtain ⟨o, h1, h2⟩ := hr g (by rw [← e']; simp [Value.ownBlock])
    rw [hgb] at h1
    injection h1 with h1
    subst h1
    simp [Obj.isCells] at h2
theorem partsI_own {w : World} {bs : List Nat} {B : Nat} (hB : w.heap.size ≤ B) : OwnFrom B (PartsI w bs) := by
  rintro pre W W' row ⟨⟨v, hs, h1, h2, h3⟩, hb, hsz⟩ hg hr
  have hr' : ∀ r, row = some r → ∃ o : Obj, W.heap[r]? = some o ∧ o.isCells = false := fun r e => (hr r e).2
  refine ⟨⟨v, hs, ?_, own_grown h2 hg hr', fun k hk u hu => own_grown (h3 k hk u hu) hg hr'⟩, ?_, Nat.le_trans hsz hg.size⟩
  · rw [hg.block _ (lt_of_block h1) ?_]
    · exact h1
    · intro e
      obtain ⟨o, k1, k2⟩ := hr' _ e.symm
      rw [h1] at k1
      injection k1 with k1
      subst k1
      simp [Obj.isCells] at k2
  · exact hb.grown hg hb.size (fun k e => Nat.le_trans hB (hr k e).1)

set_option maxRecDepth 100000 in
set_option maxHeartbeats 4000000 in
theorem parts_any (A : Option Addr) (c : Nat) (bs : List Nat) (m : Nat) (w : World) (hr : Rd w 1 A bs.length (bs.map u8v)) (hnc : bs.length ≤ c) (hcm : c ≤ maxLen) (ht : bs.length ≤ 4294967296) (h1 : 1 ≤ m) (h2 : m ≤ 9223372036854775807) :
    Calls Try.prog 40 #[.slice A bs.length c, .int .i64 m] w fun e w' => ∃ v pl, e = .returned v ∧ Bss w' v pl ∧ PartsL bs m pl ∧ Below w.heap.size w w' := by
  obtain ⟨i0, hi0, hz0, hz1, hz2⟩ := info_parts Try.infoBytes
  refine (callsIn_wide (n := 9)).1 ?_
  refine callsIn_of_wp_marks Try.func40 rfl trivial ?_ rfl
  simp only [Try.ntmps40, List.size_toArray, List.length_cons, List.length_nil, Nat.reduceAdd, Nat.reduceSub, Array.replicate_succ, Array.replicate_zero, List.push_toArray, List.append_toArray, List.nil_append, List.cons_append]
  refine wpIn_wide.2 ?_
  go_wp2_with fail
  refine (chunk_any _ _ _ m _ h1 h2).mono ?_
  rintro e w1 ⟨rfl, hw1⟩
  obtain ⟨W, hW⟩ : ∃ W, w.alloc (.cells #[.slice none 0 0] 61) = W := ⟨_, rfl⟩
  rw [hW] at hw1 ⊢
  have hWs : W.heap.size = w.heap.size + 1 := by rw [← hW]; simp
  have b0 : W.heap[w.heap.size]? = some (.cells #[.slice none 0 0] 61 (0, 0)) := by rw [← hW]; exact block_new _ _
  have c0 := block_alloc (block_alloc b0 (.cells #[.slice A bs.length c] 22)) (.cells #[.int .i64 m] 3)
  have c1 := block_alloc (block_new W (.cells #[.slice A bs.length c] 22)) (.cells #[.int .i64 m] 3)
  have c2 := block_new (W.alloc (.cells #[.slice A bs.length c] 22)) (.cells #[.int .i64 m] 3)
  have hbW : Below w.heap.size w W := by rw [← hW]; exact (Below.refl _ w).alloc (Nat.le_refl _) _
  have hb1 := (hbW.alloc hbW.size (.cells #[.slice A bs.length c] 22)).alloc (by simp; omega) (.cells #[.int .i64 m] 3)
  have hs1 : w1.heap.size = w.heap.size + 3 := by rw [← hw1]; simp [hWs]
  rw [hw1] at c0 c1 c2 hb1
  simp only [World.size_alloc, hWs] at c1 c2 ⊢
  clear b0 hw1 hbW hW hWs
  go_wp2_with fail
  refine (wpIn_wide (n := 9)).1 ?_
  refine wpIn_rangeFunc_ownF rfl (by omega) (gf := 51) (lb := #[.pointer (some ⟨w.heap.size + 1, 0, none⟩), .pointer (some ⟨w.heap.size + 1 + 1, 0, none⟩)]) rfl trivial (enters_of Try.func51 (by kernel_rfl) rfl)
    (chunk_iter _ (w.heap.size + 3) w.heap.size (w.heap.size + 1) (w.heap.size + 1 + 1) A bs.length c m w1 (by rw [cell_at c1]; rfl) (by rw [cell_at c2]; rfl) h1 h2 hnc hcm ht (fun h => by obtain ⟨g, o, e, _⟩ := hr.2 h; exact ⟨g, o, e⟩) (by omega) (by omega) (by omega) (by omega) (by omega)) keepBut_t (keepBut_b (Nat.le_of_eq hs1.symm)) (Below.refl _ _) (fun _ => rfl)
    (PartsI w bs) (fun _ _ _ => False) (partsI_own (by omega)) (fun _ _ _ _ _ hs _ _ => hs)
    ⟨⟨.slice none 0 0, [], c0, World.ownsRow_nil _ _ _ _, fun k h => absurd h (by simp)⟩, hb1, Nat.le_of_eq hs1.symm⟩
    (fun x => { tmps := #[.slice A bs.length c, .int .i64 m, undef, undef, .slice none 0 0, .pointer (some ⟨w.heap.size, 0, none⟩), .slice (A.map (·.add x.1.1)) x.1.2 x.1.2, .int .i64 m, .bool (decide ((m : Int) < 1)), .slice A bs.length c, .int .i64 m, .func (.func 51) #[] #[.pointer (some ⟨w.heap.size + 1, 0, none⟩), .pointer (some ⟨w.heap.size + 1 + 1, 0, none⟩)],
      .slice (A.map (·.add x.1.1)) x.1.2 x.1.2, undef, undef, undef, undef, undef, undef], defers := [] }) ?assign ?body ?done ?stop
  case assign =>
    intro l x W K hK
    dsimp only [encPart]
    gi_wp2
    exact hK
  case stop =>
    rintro D c pre W3 hD hpre hf _
    exact hf.elim
  case done =>
    rintro D ys W3 hD ⟨hp, hle⟩ ⟨⟨v, hs, k1, k2, k3⟩, hB, hw1⟩ hK
    have q0 := cell_at k1 0
    obtain ⟨A3, c3, rfl, j1, j2, j3, j4⟩ := own_slice k2
    have K1 := Lib.hid k1
    have K2 := Lib.hid k2
    have K3 := Lib.hid k3
    have J2 := Lib.hid j2
    have hK0 : W3.heap[D]? = some (.deferred (some [])) := hK
    clear k1 k2 k3 j2 j3 j4 hr
    go_wp2
    refine ⟨by simp, .inl ⟨_, _, rfl, run_takeDeferred hK0, ?_⟩⟩
    have o2 := ownsRow_putObj K2.out (.deferred none) hK0 rfl
    obtain ⟨A4, c4, e4, j1, j2, j3, _⟩ := own_slice o2
    injection e4 with e4 _ e5
    subst e4
    subst e5
    refine ⟨.slice A3 ys.length c3, by simp [results, Try.f40, go_sem], _, ys.map (partB bs), rfl, ⟨A3, c3, hs, by simp, by simpa using j1, j2, by simpa using j3, fun j hj u hu => ?_⟩, partsL_of hp hle, hB.trans (belowK_b (w := w) (Nat.le_refl _) _ D _ _ (by omega) hK0 rfl rfl)⟩
    have hj' : j < ys.length := by simpa using hj
    have h3 := Bs.of_own (ownsRow_putObj (K3.out j hj' u hu) (.deferred none) hK0 rfl)
    simpa using h3
  case body =>
    rintro l pre x W ⟨⟨v, hs, k1, k2, k3⟩, hB, hw1⟩ hlt
    obtain ⟨Av, cv, rfl, _, _, _, _⟩ := own_slice k2
    have q0 := cell_at k1 0
    have hx := x.2
    obtain ⟨g, o, rfl, _⟩ := hr.2 (by omega)
    have hrX : Rd W 1 (some ⟨g, o + x.1.1, none⟩) x.1.2 ((partB bs x).map u8v) := (hr.below hB).mid hx.2 (fun _ => rfl)
    have hl0 := partB_len bs x
    have hsl : hs.length = pre.length := by simpa using k2.1
    obtain ⟨X, hX⟩ : ∃ X, partB bs x = X := ⟨_, rfl⟩
    obtain ⟨d, hd⟩ : ∃ d, x.1.2 = d := ⟨_, rfl⟩
    obtain ⟨u, hu⟩ : ∃ u, x.1.1 = u := ⟨_, rfl⟩
    rw [hX, hd, hu] at hrX
    rw [hX, hd] at hl0
    rw [hd, hu] at hx
    have HXX := Lib.hid hX
    have HR := Lib.hid hrX
    have K1 := Lib.hid k1
    have K2 := Lib.hid k2
    have K3 := Lib.hid k3
    have hwl : w.heap.size < W.heap.size := by omega
    simp only [Option.map_some, add_none, hd, hu]
    clear hrX hX hd hu k1 k2 k3 c0 c1 c2 hs1 hb1
    gi_wp2_with fail
    refine wpIn_region_flow (fun W' => Below W.heap.size W W') Nil_ [0, 1, 2, 3, 4, 5] (fun _ => trivial) rfl (fun _ _ _ _ _ h => CallsIn.inRound l (callsIn_wide.2 h)) (by kernel_rfl) (by kernel_rfl) (by kernel_rfl) ((Below.refl _ W).drew) trivial ?_
    refine flow_val ?_ rfl (by kernel_rfl) (by rfl) (fun W' hW => ?_) ?_
    rotate_left 1
    · have q1 : W'.cell? ⟨w.heap.size, 0, none⟩ = some (.slice Av pre.length cv) := (hW.cell (p := ⟨w.heap.size, 0, none⟩) hwl).trans q0; go_simp <;> with_reducible rfl
    simp only [Act.put, List.setIfInBounds_toArray, List.set_cons_succ, List.set_cons_zero]
    refine flow_val ?_ rfl (by kernel_rfl) (by rfl) (fun W' hW => ?_) ?_
    rotate_left 1
    · go_simp <;> with_reducible rfl
    simp only [Act.put, List.setIfInBounds_toArray, List.set_cons_succ, List.set_cons_zero]
    refine flow_gcall (fun v W' => W'.ownsRow W.heap.size 5 1 v X.length (X.map u8v)) rfl (by kernel_rfl) (by rfl) (by kernel_rfl) (fun W' hW _ => ⟨_, _, _, by go_simp, (clone_any (.slice (some ⟨g, o + u, none⟩) d d) X W' ⟨some ⟨g, o + u, none⟩, d, by rw [hl0], by omega, by unfold maxLen; omega, hl0.symm ▸ HR.out.below hW⟩ (by omega)).mono fun e w1 ⟨v, he, hv, hb1⟩ => ⟨v, he, hW.trans (hb1.mono hW.size), own_base hv hW.size⟩⟩) ?_
    rintro v15 ⟨W0, _, hv15⟩
    simp only [Act.put, List.setIfInBounds_toArray, List.set_cons_succ, List.set_cons_zero]
    obtain ⟨A15, c15, rfl, _, _, _, _⟩ := own_slice hv15
    clear hv15
    refine flow_gmake (fun v W' => ∃ g', v = .slice (some ⟨g', 0, none⟩) 1 1 ∧ W'.heap[g']? = some (.cells #[.slice A15 X.length c15] 22 (0, 0)) ∧ W'.ownsRow W.heap.size 5 1 (.slice A15 X.length c15) X.length (X.map u8v)) rfl (by kernel_rfl) (by rfl) (by kernel_rfl) (fun W' hW hC => ⟨_, _, by go_simp <;> with_reducible rfl, ⟨hW.1.alloc hW.1.size _, trivial⟩, ⟨_, rfl, block_new _ _, (Fr.of_below (B := 0) (T := []) (S := []) ((Below.refl _ W').alloc (Nat.le_refl _) _)).own hC (by simp) (by simp)⟩⟩) ?_
    rintro v16 ⟨W0, _, g', rfl, _, _⟩
    simp only [Act.put, List.setIfInBounds_toArray, List.set_cons_succ, List.set_cons_zero]
    refine flow_bmake (fun W' => Fr (w.heap.size + 3) [22] [] W W') (fun v W' => W'.ownsRow (w.heap.size + 3) 22 1 v (pre.length + 1) (hs ++ [.slice A15 X.length c15]) ∧ W'.ownsRow W.heap.size 5 1 (.slice A15 X.length c15) X.length (X.map u8v)) rfl (by kernel_rfl) (by rfl) (by kernel_rfl) (by kernel_rfl) (fun W' hW hC => ?_) ?_
    · obtain ⟨g2, e2, hg2, ho2⟩ := hC
      injection e2 with e2 _ _
      injection e2 with e2
      injection e2 with e2 _ _
      subst e2
      have f0 : Fr (w.heap.size + 3) [22] [] W W' := Fr.of_below hW.1.1
      have hown := (Fr.of_below (B := 0) (T := []) (S := []) hW.1.1).own K2.out (by simp) (by simp)
      refine exec_append_rd (.tmp 13) (.tmp 16) 61 rfl (w.heap.size + 3) 22 i0 (.slice none 0 0) 1 24 Try.underlying61 hi0 hz0 hz1 hz2 rfl (by decide) _ _ _ rfl hown (some ⟨g', 0, none⟩) 1 1 [.slice A15 X.length c15] rfl ⟨rfl, fun _ => ⟨_, _, rfl, lt_of_block hg2, fun j u hu => ?_⟩⟩ (by simp [Value.oneCell']) (by unfold maxLen; omega) (by omega) (Nat.le_trans hw1 hW.1.1.size) (fun v' w' x2 x3 => ?_)
      · have hj : j = 0 := by
          have := (List.getElem?_eq_some_iff.1 hu).1
          simp at this; omega
        subst hj
        simp at hu
        subst hu
        rw [cell_at hg2]; rfl
      · have fx : Fr (w.heap.size + 3) [22] [] W' w' := (Fr.refl W').grown x3 (fun j hj => by
          obtain ⟨hb, cs, hc⟩ := own_block hown hj
          exact ⟨hb, .inr ⟨cs, _, _, hc, by simp⟩⟩)
        exact ⟨f0.trans fx, x2, fx.own ho2 (by decide) (by simp)⟩
    rintro v17 ⟨W0, _, hv17, _⟩
    obtain ⟨g17, c17, rfl⟩ := own_succ hv17
    clear hv17
    simp only [Act.put, List.setIfInBounds_toArray, List.set_cons_succ, List.set_cons_zero]
    refine flow_bar (fun W' => KeepsOthers W W' ∧ KeepBut (w.heap.size + 3) w.heap.size W W' ∧ PartsI w bs (pre ++ [x]) W') (fun _ => True) rfl (by kernel_rfl) (by rfl) (by kernel_rfl) (by kernel_rfl) (fun W' hW hC => ?_) ?_
    · obtain ⟨hf, _⟩ := hW
      obtain ⟨ho, hu⟩ := hC
      have hb0 := hf.keepLow K1.out (by omega)
      have q1 : W'.cell? ⟨w.heap.size, 0, none⟩ = some (.slice Av pre.length cv) := cell_at hb0 0
      have q2 := frozen_at hb0 0
      have HO := Lib.hid ho
      have HU := Lib.hid hu
      have HF := Lib.hid hf
      clear ho hu hf
      refine ⟨_, by go_simp <;> with_reducible rfl, ⟨?_, ?_, ?_⟩, trivial⟩
      · exact KeepsOthers.trans ⟨HF.out.size, fun k o hk ho => (HF.out.block k (lt_of_block hk) (.inr ⟨fun cs t f e => by rw [hk] at e; injection e with e; subst e; simp [Obj.isCells] at ho, by simp⟩)).trans hk⟩ (KeepsOthers.setCell _ _ _)
      · exact ⟨by have := HF.out.size; simpa using this, fun k e1 e2 => (Below.heap_setCell _ _ _ k (by simpa using e2)).trans (HF.out.block k (by omega) (.inl e1))⟩
      · have fs : Fr 0 [] [w.heap.size] W' (W'.setCell ⟨w.heap.size, 0, none⟩ (.slice (some ⟨g17, 0, none⟩) (pre.length + 1) c17)) := (Fr.refl W').setCell (p := ⟨w.heap.size, 0, none⟩) _ (Nat.zero_le _) (.inl (by simp))
        have hne : ∀ {e : TypeId} {n : Nat} {v : Value} {xs : List Value}, W'.ownsRow (w.heap.size + 3) e 1 v n xs → ∀ k, v.ownBlock = some k → k ∉ [w.heap.size] := fun ho k hk => by
          have := (own_block ho hk).1
          simp
          omega
        have hu := own_base HU.out (B' := w.heap.size + 3) hw1
        refine ⟨⟨_, _, by simpa using block_set hb0 0 (.slice (some ⟨g17, 0, none⟩) (pre.length + 1) c17), by simpa using fs.own HO.out (by simp) (hne HO.out), fun k hk u' hu' => ?_⟩, ?_, ?_⟩
        · by_cases hkx : k < pre.length
          · rw [List.getElem?_append_left (by omega)] at hu'
            have h3 := HF.out.own (K3.out k hkx u' hu') (by decide) (by simp)
            simp only [List.getElem_append_left hkx]
            exact fs.own h3 (by simp) (hne h3)
          · have hkk : k = pre.length := by simp at hk; omega
            subst hkk
            rw [← hsl, List.getElem?_append_right (Nat.le_refl _)] at hu'
            simp at hu'
            subst hu'
            have h3 := fs.own hu (by simp) (hne hu)
            simp only [List.getElem_append_right (Nat.le_refl _), Nat.sub_self, List.getElem_singleton, HXX.out]
            exact h3
        · exact (hB.trans ((HF.out.below hw1).mono (by omega))).setCell (p := ⟨w.heap.size, 0, none⟩) (by simp) _
        · have := HF.out.size
          simp
          omega
    refine flow_done2 ?_
    rintro W' ⟨⟨p1, p2, p3⟩, _⟩ _
    gi_wp2
    exact ⟨p1, p2, p3⟩
end Go.Proofs.Ytlljeghlfijdnaa
