/- Joined: A tick of both ends. What the parts of a coming leave. -/
import Derived.Test.YtnmbblkfaoihfaaZLY25
namespace Go.Proofs.Ytnmbblkfaoihfaa
open Go.RowKit

theorem IsY.ts {w W : World} {y : Nat} {pe : Bool → Nat} {P : Play} {vs vc vw : Bool → Value} {zs : Bool → List (LPk × Value)} (h : IsY w y pe P vs vc vw zs W) (a : Bool) : En2 w (pe a) (P.e a) (pe (!a)) (P.e (!a)) W := by
  cases a
  · exact h.two
  · exact h.two.symm
theorem own_keeps {W W' : World} {B e size n : Nat} {v : Value} {xs : List Value} (h : W.ownsRow B e size v n xs) (hk : ∀ g cs, v.ownBlock = some g → W.heap[g]? = some (.cells cs e (0, 0)) → W'.heap[g]? = some (.cells cs e (0, 0))) : W'.ownsRow B e size v n xs := by
  refine ⟨h.1, ?_⟩
  rcases h.2 with h | ⟨g, cap, cur, h1, h2, h3, h4⟩
  · exact .inl h
  · exact .inr ⟨g, cap, cur, h1, h2, hk g cur (by rw [h1]; rfl) h3, h4⟩
/-- A call on an end of a play. -/
theorem IsY.ends {w W W' : World} {y : Nat} {pe : Bool → Nat} {P : Play} {vs vc vw : Bool → Value} {zs : Bool → List (LPk × Value)} (h : IsY w y pe P vs vc vw zs W) {a : Bool} {s' : LSt} (hE : En2 w (pe a) s' (pe (!a)) (P.e (!a)) W') (hk : Keeps W W') : IsY w y pe { P with e := upB P.e a s' } vs vc vw zs W' := by
  refine ⟨hk.2 _ _ _ _ h.b (by decide) (by decide), ?_, h.low, h.map, fun a z hz => hk.1 _ _ (h.by_ a z hz), ⟨fun r hr => ?_, h.rows.2⟩⟩
  · cases a
    · simpa [upB] using hE
    · simpa [upB] using hE.symm
  · have hr' : r ∈ rowsY P vs vc vw zs := hr
    have hT : r.T ≠ 84 ∧ r.T ≠ 80 := by
      simp only [rowsY, List.mem_cons, List.not_mem_nil, or_false] at hr'
      rcases hr' with rfl | rfl | rfl | rfl | rfl | rfl
      · exact ⟨by show 9 ≠ _; decide, by show 9 ≠ _; decide⟩
      · exact ⟨by show 9 ≠ _; decide, by show 9 ≠ _; decide⟩
      · exact ⟨by show 9 ≠ _; decide, by show 9 ≠ _; decide⟩
      · exact ⟨by show 9 ≠ _; decide, by show 9 ≠ _; decide⟩
      · exact ⟨by show 43 ≠ _; decide, by show 43 ≠ _; decide⟩
      · exact ⟨by show 43 ≠ _; decide, by show 43 ≠ _; decide⟩
    exact own_keeps (h.rows.1 r hr') fun g cs _ hc => hk.2 _ _ _ _ hc hT.1 hT.2
theorem IsY.callE {w W : World} {y : Nat} {pe : Bool → Nat} {P : Play} {vs vc vw : Bool → Value} {zs : Bool → List (LPk × Value)} (h : IsY w y pe P vs vc vw zs W) {a : Bool} {s' : LSt} {f : FuncId} {args : Array Value} {R : Ending → World → Prop}
    (hc : Calls Try.prog f args W fun e W' => R e W' ∧ En2 w (pe a) s' (pe (!a)) (P.e (!a)) W' ∧ Keeps W W') : Calls Try.prog f args W fun e W' => R e W' ∧ IsY w y pe { P with e := upB P.e a s' } vs vc vw zs W' ∧ Keeps W W' :=
  hc.mono fun _ _ ⟨h1, h2, h3⟩ => ⟨h1, h.ends h2 h3, h3⟩
/-- The clock. -/
theorem IsY.clock {w W : World} {y : Nat} {pe : Bool → Nat} {P : Play} {vs vc vw : Bool → Value} {zs : Bool → List (LPk × Value)} (h : IsY w y pe P vs vc vw zs W) (n : Int) : IsY w y pe { P with now := n } vs vc vw zs (W.setCell ⟨y, 8, none⟩ (.int .i64 n)) := by
  have f : Fr 0 [] [y] W (W.setCell ⟨y, 8, none⟩ (.int .i64 n)) := (Fr.refl W).setCell (p := ⟨y, 8, none⟩) _ (Nat.zero_le _) (.inl (by simp))
  refine ⟨?_, h.two.farN f h.b h.low (by decide) (by decide) (by decide), h.low, h.map, fun a z hz => (h.by_ a z hz).far f h.b (by decide), h.rows.fr f (by simp) fun r hr g hg => ?_⟩
  · rw [block_set h.b]; simp
  · obtain ⟨_, cs, hc⟩ := own_block (h.rows.1 r hr) hg
    have hr' := hr
    simp only [rowsY, List.mem_cons, List.not_mem_nil, or_false] at hr'
    have hT : r.T ≠ 37 := by
      rcases hr' with rfl | rfl | rfl | rfl | rfl | rfl <;> first | (show 9 ≠ 37; decide) | (show 43 ≠ 37; decide)
    simpa using block_ne hc h.b hT
theorem IsY.rlt {w W : World} {y : Nat} {pe : Bool → Nat} {P : Play} {vs vc vw : Bool → Value} {zs : Bool → List (LPk × Value)} (h : IsY w y pe P vs vc vw zs W) : ∀ r ∈ rowsY P vs vc vw zs, ∀ g, r.v.ownBlock = some g → g < W.heap.size := fun r hr g hg => by
  obtain ⟨_, cs, hc⟩ := own_block (h.rows.1 r hr) hg
  exact lt_of_block hc
theorem putY_way {p : Play} (h : ∀ a, (p.way a).length ≤ 400) (to : Bool) (x : LPk) : ∀ a, ((putY p to x).way a).length ≤ 400 := by
  intro a
  unfold putY
  split
  · simp only [upB]
    split
    · simp; omega
    · exact h a
  · exact h a
theorem putsY_way (to : Bool) : ∀ (l : List LPk) {p : Play}, (∀ a, (p.way a).length ≤ 400) → ∀ a, ((putsY p to l).way a).length ≤ 400
  | [], _, h => h
  | x :: l, _, h => putsY_way to l (putY_way h to x)
theorem putsY_same (to : Bool) : ∀ (l : List LPk) (p : Play), (putsY p to l).sent = p.sent ∧ (putsY p to l).e = p.e ∧ (putsY p to l).came = p.came ∧ (putsY p to l).now = p.now
  | [], _ => ⟨rfl, rfl, rfl, rfl⟩
  | x :: l, p => by
    obtain ⟨h1, h2, h3, h4⟩ := putsY_same to l (putY p to x)
    obtain ⟨k1, k2, k3, k4⟩ := putY_sent p to x
    exact ⟨h1.trans k1, h2.trans k2, h3.trans k3, h4.trans k4⟩
theorem putsY_next (p : Play) (to : Bool) (l : List LPk) (k : Nat) (hk : k < l.length) : putsY p to (l.take (k + 1)) = putY (putsY p to (l.take k)) to l[k] := by
  rw [List.take_add_one, List.getElem?_eq_getElem hk]
  simp only [putsY, Option.toList_some, List.foldl_append, List.foldl_cons, List.foldl_nil]
/-- The loop over what is due. -/
def InT (w : World) (y : Nat) (pe : Bool → Nat) (P : Play) (to : Bool) (Q : List LPk) (v : Value) (k : Nat) (W : World) : Prop :=
  ∃ vs vc vw zs, IsY w y pe (putsY P to (Q.take k)) vs vc vw zs W ∧ IsPs 0 W v Q ∧ ∀ g, v.ownBlock = some g → NoRow (putsY P to (Q.take k)) vs vc vw zs g ∧ g ≠ y
theorem InT.start {w W : World} {y : Nat} {pe : Bool → Nat} {P : Play} {to : Bool} {Q : List LPk} {v : Value} {B : Nat} {vs vc vw : Bool → Value} {zs : Bool → List (LPk × Value)} (h : IsY w y pe P vs vc vw zs W) (hp : IsPs B W v Q) (hB : ∀ r ∈ rowsY P vs vc vw zs, ∀ g, r.v.ownBlock = some g → g < B) (hy : y < B) : InT w y pe P to Q v 0 W := by
  refine ⟨vs, vc, vw, zs, h, (by obtain ⟨zz, h1, h2, h3⟩ := hp; exact ⟨zz, h1, own_low h2 (Nat.zero_le _), h3⟩), fun g hg => ?_⟩
  obtain ⟨z, _, h2, _⟩ := hp
  obtain ⟨hl, _⟩ := own_block h2 hg
  exact ⟨fun r hr e => by have := hB r hr g e; omega, by omega⟩
theorem InT.next {w W W' : World} {y : Nat} {pe : Bool → Nat} {P : Play} {to : Bool} {Q : List LPk} {v : Value} {k : Nat} {vs vc vw : Bool → Value} {zs : Bool → List (LPk × Value)} (hk : k < Q.length) (hp : IsPs 0 W v Q) (hn : ∀ g, v.ownBlock = some g → NoRow (putsY P to (Q.take k)) vs vc vw zs g ∧ g ≠ y)
    (h : RetY w y pe (putsY P to (Q.take k)) vs vc vw zs W (putY (putsY P to (Q.take k)) to Q[k]) W') : InT w y pe P to Q v (k + 1) W' := by
  obtain ⟨vs', vc', vw', zs', h1, h2, h3, h4⟩ := h
  obtain ⟨z, k1, k2, k3⟩ := hp
  rw [← putsY_next _ _ _ _ hk] at h1 h4
  have hg : ∀ g, v.ownBlock = some g → W'.heap[g]? = W.heap[g]? ∧ NoRow (putsY P to (Q.take (k + 1))) vs' vc' vw' zs' g := fun g hg => by
    obtain ⟨_, cs, hc⟩ := own_block k2 hg
    exact h4 g (lt_of_block hc) (hn g hg).2 (hn g hg).1
  exact ⟨vs', vc', vw', zs', h1, ⟨z, k1, own_keeps k2 fun g cs hgv hc => ((hg g hgv).1).trans hc, fun x hx => h2 _ _ (k3 x hx)⟩, fun g hgv => ⟨(hg g hgv).2, (hn g hgv).2⟩⟩
theorem pks_at {W : World} {Q : List LPk} {v : Value} {k : Nat} (hk : k < Q.length) (hp : IsPs 0 W v Q) : ∃ g c X x, v = .slice (some ⟨g, 0, none⟩) Q.length c ∧ g < W.heap.size ∧ W.cell? ⟨g, k * 3, none⟩ = some (.int .i64 Q[k].seq) ∧ W.cell? ⟨g, k * 3 + 1, none⟩ = some (.int .i64 Q[k].ack) ∧ W.cell? ⟨g, k * 3 + 2, none⟩ = some (.slice X Q[k].body.length x) ∧ ByO W (.slice X Q[k].body.length x) Q[k].body := by
  obtain ⟨z, k1, k2, k3⟩ := hp
  obtain ⟨g, d, e⟩ := own_pos k2 (by omega)
  subst e
  obtain ⟨_, _, e1, _, _, hrd, _⟩ := own_slice k2
  injection e1 with e1 _ e2
  subst e1; subst e2
  obtain ⟨_, _, e1, hl, hc⟩ := hrd.2 (by omega)
  injection e1 with e1
  injection e1 with e1 e2
  subst e1; subst e2
  simp only [Nat.zero_add] at hc
  have hn : k < z.length := by have := congrArg List.length k1; simp at *; omega
  have e1 : z[k].1 = Q[k] := by
    have h1 : (z.map (·.1))[k]'(by simpa using hn) = Q[k] := by simp only [k1]
    simpa using h1
  have hy := k3 z[k] (List.getElem_mem _)
  rw [e1] at hy
  obtain ⟨X, x, f, _, _, _, _⟩ := byo_slice hy
  rw [f] at hy
  have hat := fun j (hj : j < 3) => flatP_at z k j hn hj
  exact ⟨g, d, X, x, rfl, hl, hc (k * 3 + 0) _ ((hat 0 (by omega)).trans (by simp only [encP, e1]; rfl)), hc (k * 3 + 1) _ ((hat 1 (by omega)).trans (by simp only [encP, e1]; rfl)), hc (k * 3 + 2) _ ((hat 2 (by omega)).trans (by simp only [encP, f]; rfl)), hy⟩
/-- What an end may bear, that a tick can be. -/
def OkE (s : LSt) : Prop := s.l.length ≤ 64 ∧ ∀ x ∈ s.l, 0 ≤ x.tries ∧ x.tries < 9223372036854775807 ∧ x.body.length ≤ 2048
theorem IsY.tickE {w W : World} {y : Nat} {pe : Bool → Nat} {P : Play} {vs vc vw : Bool → Value} {zs : Bool → List (LPk × Value)} (h : IsY w y pe P vs vc vw zs W) (a : Bool) (ho : OkE (P.e a)) (hn : 0 ≤ P.now ∧ P.now ≤ 1000000) :
    Calls Try.prog 21 #[.pointer (some ⟨pe a, 0, none⟩), .int .i64 P.now] W fun e W' => ∃ v, e = .returned v ∧ W'.heap[y]? = W.heap[y]? ∧ ∃ B, IsPs B W' v (tickP (P.e a) P.now) ∧ y < B ∧ (∀ r ∈ rowsY P vs vc vw zs, ∀ g, r.v.ownBlock = some g → g < B) ∧ IsY w y pe { P with e := upB P.e a (tickS (P.e a) P.now) } vs vc vw zs W' := by
  refine (h.callE ((h.ts a).tick P.now (by have := ho.1; omega) (fun x hx => by have := ho.2 x hx; omega) (by omega))).mono fun e W' ⟨⟨v, he, hp⟩, hI, hk⟩ => ⟨v, he, ?_, W.heap.size, hp, lt_of_block h.b, h.rlt, hI⟩
  rw [hI.b, h.b]
/-- How far a tick has come. -/
def stY (P : Play) : Nat → Play
  | 0 => P
  | 1 => tickY P false
  | _ => tickY (tickY P false) true

set_option maxRecDepth 100000 in
set_option maxHeartbeats 2000000 in
theorem ytick_any (w : World) (y : Nat) (pe : Bool → Nat) (P : Play) (W : World) (vs vc vw : Bool → Value) (zs : Bool → List (LPk × Value)) (hY : IsY w y pe P vs vc vw zs W) (hO : ∀ a, OkE (P.e a)) (hn : 0 ≤ P.now ∧ P.now < 1000000) (hw : ∀ a, (P.way a).length ≤ 400) :
    Calls Try.prog 16 #[.pointer (some ⟨y, 0, none⟩)] W fun e W' => e = .returned (.tuple #[]) ∧ ∃ vs' vc' vw' zs', IsY w y pe (ticksY P) vs' vc' vw' zs' W' := by
  have x8 := cell_at hY.b 8
  have f8 := frozen_at hY.b 8
  have hn1 : IntKind.i64.wrap (P.now + 1) = P.now + 1 := IntWalk.i64_in _ (by omega)
  have HY := Lib.hid hY
  have HO := Lib.hid hO
  have HW := Lib.hid hw
  clear hY hO hw
  go_enter Try.func16, Try.ntmps16
  go_wp2_with fail
  have HY1 := Lib.hid (HY.out.clock (P.now + 1))
  obtain ⟨P1, hP1⟩ : ∃ P1, P1 = { P with now := P.now + 1 } := ⟨_, rfl⟩
  rw [← hP1] at HY1
  have HO1 : Hid (∀ a, OkE (P1.e a)) := Lib.hid (by rw [hP1]; exact HO.out)
  have HW1 : Hid (∀ a, (P1.way a).length ≤ 400) := Lib.hid (by rw [hP1]; exact HW.out)
  have HN1 : Hid (0 ≤ P1.now ∧ P1.now ≤ 1000000) := Lib.hid (by rw [hP1]; show 0 ≤ P.now + 1 ∧ P.now + 1 ≤ 1000000; omega)
  have HP1 := Lib.hid hP1
  clear x8 f8 hP1 HY HO HW
  go_loopw [2] (fun av wr => ∃ (k : Nat) (vs vc vw : Bool → Value) (zs : Bool → List (LPk × Value)), k ≤ 2 ∧ av = .int .i64 k ∧ IsY w y pe (stY P1 k) vs vc vw zs wr) (fun av _ => 2 - (intOf av).toNat)
  case atStart => exact ⟨0, vs, vc, vw, zs, Nat.zero_le _, rfl, HY1.out⟩
  case round =>
    obtain ⟨k, vs, vc, vw, zs, hk, rfl, hI⟩ := hrel
    have HI := Lib.hid hI
    clear hI HY1
    match k, hk with
    | 0, _ =>
      have ek : ((0 : Nat) : Int) = 0 := rfl
      rw [ek]
      have hb0 := HI.out.b
      obtain ⟨P2, hP2⟩ : ∃ P2, stY P1 0 = P2 := ⟨_, rfl⟩
      rw [hP2] at HI hb0
      have HN2 : Hid (0 ≤ P2.now ∧ P2.now ≤ 1000000) := Lib.hid (by rw [← hP2]; exact HN1.out)
      have HO2 : Hid (OkE (P2.e false)) := Lib.hid (by rw [← hP2]; exact HO1.out _)
      have HW2 : Hid (∀ a, (P2.way a).length ≤ 400) := Lib.hid (by rw [← hP2]; exact HW1.out)
      have HNX : Hid (tickY P2 false = stY P1 1) := Lib.hid (by rw [← hP2]; rfl)
      obtain ⟨Q, hQ⟩ : ∃ Q, tickP (P2.e false) P2.now = Q := ⟨_, rfl⟩
      obtain ⟨P3, hP3⟩ : ∃ P3, P3 = { P2 with e := upB P2.e false (tickS (P2.e false) P2.now) } := ⟨_, rfl⟩
      have HS : Hid (∀ W, IsY w y pe P2 vs vc vw zs W → Calls Try.prog 21 #[.pointer (some ⟨pe false, 0, none⟩), .int .i64 P2.now] W fun e W' => ∃ v, e = .returned v ∧ W'.heap[y]? = W.heap[y]? ∧ ∃ B, IsPs B W' v Q ∧ y < B ∧ (∀ r ∈ rowsY P2 vs vc vw zs, ∀ g, r.v.ownBlock = some g → g < B) ∧ IsY w y pe P3 vs vc vw zs W') := Lib.hid (fun W h => by
        rw [hP3, ← hQ]
        exact h.tickE false HO2.out HN2.out)
      have HX : Hid (putsY P3 true Q = tickY P2 false) := Lib.hid (by rw [hP3, ← hQ]; rfl)
      have HW3 : Hid (∀ a, (P3.way a).length ≤ 400) := Lib.hid (by rw [hP3]; exact HW2.out)
      have HR3 : Hid (∀ r ∈ rowsY P3 vs vc vw zs, r ∈ rowsY P2 vs vc vw zs) := Lib.hid (by rw [hP3]; exact fun r hr => hr)
      have hQl : Q.length ≤ 64 := by
        rw [← hQ]
        unfold tickP
        rw [List.length_map]
        exact Nat.le_trans (List.length_filter_le _ _) HO2.out.1
      have HB0 := Lib.hid hb0
      clear hb0 hP2 hQ hP3
      go_wp2_with fail
      refine wp_region_flow2 (fun W => W.heap[y]? = wr.heap[y]?) (fun W => IsY w y pe P2 vs vc vw zs W) [0, 1, 2, 3, 4, 5, 6, 7, 8, 9, 10, 11] (by kernel_rfl) (by kernel_rfl) (by kernel_rfl) (rfl) (HI.out.below (Below.refl _ wr).drew) ?_
      refine flow_val ?_ rfl (by kernel_rfl) (by rfl) (fun W hW => ?_) ?_
      rotate_left 1
      · go_simp <;> with_reducible rfl
      simp only [Act.put, List.setIfInBounds_toArray, List.set_cons_succ, List.set_cons_zero]
      refine flow_val ?_ rfl (by kernel_rfl) (by rfl) (fun W hW => ?_) ?_
      rotate_left 1
      · go_simp <;> with_reducible rfl
      simp only [Act.put, List.setIfInBounds_toArray, List.set_cons_succ, List.set_cons_zero]
      refine flow_val ?_ rfl (by kernel_rfl) (by rfl) (fun W hW => ?_) ?_
      rotate_left 1
      · go_simp <;> with_reducible rfl
      simp only [Act.put, List.setIfInBounds_toArray, List.set_cons_succ, List.set_cons_zero]
      refine flow_val ?_ rfl (by kernel_rfl) (by rfl) (fun W hW => ?_) ?_
      rotate_left 1
      · go_simp <;> with_reducible rfl
      simp only [Act.put, List.setIfInBounds_toArray, List.set_cons_succ, List.set_cons_zero]
      refine flow_val ?_ rfl (by kernel_rfl) (by rfl) (fun W hW => ?_) ?_
      rotate_left 1
      · go_simp <;> with_reducible rfl
      simp only [Act.put, List.setIfInBounds_toArray, List.set_cons_succ, List.set_cons_zero]
      refine flow_val ?_ rfl (by kernel_rfl) (by rfl) (fun W hW => ?_) ?_
      rotate_left 1
      · have c1 : W.cell? ⟨y, 0, none⟩ = some (.pointer (some ⟨pe false, 0, none⟩)) := cell_at (hW.trans HB0.out) 0; go_simp <;> with_reducible rfl
      simp only [Act.put, List.setIfInBounds_toArray, List.set_cons_succ, List.set_cons_zero]
      refine flow_val ?_ rfl (by kernel_rfl) (by rfl) (fun W hW => ?_) ?_
      rotate_left 1
      · go_simp <;> with_reducible rfl
      simp only [Act.put, List.setIfInBounds_toArray, List.set_cons_succ, List.set_cons_zero]
      refine flow_val ?_ rfl (by kernel_rfl) (by rfl) (fun W hW => ?_) ?_
      rotate_left 1
      · go_simp <;> with_reducible rfl
      simp only [Act.put, List.setIfInBounds_toArray, List.set_cons_succ, List.set_cons_zero]
      refine flow_val ?_ rfl (by kernel_rfl) (by rfl) (fun W hW => ?_) ?_
      rotate_left 1
      · go_simp <;> with_reducible rfl
      simp only [Act.put, List.setIfInBounds_toArray, List.set_cons_succ, List.set_cons_zero]
      refine flow_val ?_ rfl (by kernel_rfl) (by rfl) (fun W hW => ?_) ?_
      rotate_left 1
      · have c1 : W.cell? ⟨y, 8, none⟩ = some (.int .i64 P2.now) := cell_at (hW.trans HB0.out) 8; go_simp <;> with_reducible rfl
      simp only [Act.put, List.setIfInBounds_toArray, List.set_cons_succ, List.set_cons_zero]
      refine flow_gcall (fun v W => ∃ B, IsPs B W v Q ∧ y < B ∧ (∀ r ∈ rowsY P2 vs vc vw zs, ∀ g, r.v.ownBlock = some g → g < B) ∧ IsY w y pe P3 vs vc vw zs W) rfl (by kernel_rfl) (by rfl) (by kernel_rfl) (fun W hW hC => ⟨_, _, _, by go_simp, (HS.out W hC).mono fun e w1 ⟨v, he, hb, hr⟩ => ⟨v, he, hb.trans hW, hr⟩⟩) ?_
      rintro v26 ⟨_, _, B26, ⟨_, _, ho26, _⟩, _⟩
      simp only [Act.put, List.setIfInBounds_toArray, List.set_cons_succ, List.set_cons_zero]
      obtain ⟨A26, c26, rfl, _, _, _, _⟩ := own_slice ho26
      clear ho26
      refine flow_val ?_ rfl (by kernel_rfl) (by rfl) (fun W hW => ?_) ?_
      rotate_left 1
      · go_simp <;> with_reducible rfl
      simp only [Act.put, List.setIfInBounds_toArray, List.set_cons_succ, List.set_cons_zero]
      refine flow_done2 ?_
      rintro W4 _ ⟨B4, hps, hyB, hrB, hI3⟩
      have HT0 : Hid (InT w y pe P3 true Q (.slice A26 Q.length c26) 0 W4) := Lib.hid (InT.start hI3 hps (fun r hr => hrB r (HR3.out r hr)) hyB)
      clear hps hyB hrB hI3 HI HB0 HS
      obtain ⟨m, hm⟩ : ∃ m, Q.length = m := ⟨_, rfl⟩
      have HM := Lib.hid hm
      rw [hm] at HT0 hQl
      rw [hm]
      clear hm
      go_wp2_with fail
      go_loopw [4] (fun iv wr => ∃ kk : Nat, kk ≤ m ∧ iv = .int .i64 kk ∧ InT w y pe P3 true Q (.slice A26 m c26) kk wr) (fun iv _ => m - (intOf iv).toNat)
      case atStart => exact ⟨0, Nat.zero_le _, rfl, HT0.out⟩
      case round =>
        obtain ⟨kk, hkk, rfl, hin⟩ := hrel
        obtain ⟨vs3, vc3, vw3, zs3, hi3, hp3, hn3⟩ := hin
        have HI3 := Lib.hid hi3
        have HP3 := Lib.hid hp3
        have HN3 := Lib.hid hn3
        clear hi3 hp3 hn3 HT0
        by_cases hlm : kk < m
        · have hkQ : kk < Q.length := by have := HM.out; omega
          obtain ⟨g, c, X, x, e1, hl, k0, k1, k2, hby⟩ := pks_at hkQ HP3.out
          rw [HM.out] at e1
          injection e1 with e1 _ e2
          subst e1; subst e2
          have HBY := Lib.hid hby
          have HPUT : Hid (∀ W', RetY w y pe (putsY P3 true (Q.take kk)) vs3 vc3 vw3 zs3 wr (putY (putsY P3 true (Q.take kk)) true Q[kk]) W' → InT w y pe P3 true Q (.slice (some ⟨g, 0, none⟩) m c26) (kk + 1) W') := Lib.hid (fun W' hr => InT.next hkQ HP3.out HN3.out hr)
          obtain ⟨pk, hpk⟩ : ∃ pk, Q[kk] = pk := ⟨_, rfl⟩
          rw [hpk] at k0 k1 k2 HBY HPUT
          obtain ⟨P4, hP4⟩ : ∃ P4, putsY P3 true (Q.take kk) = P4 := ⟨_, rfl⟩
          rw [hP4] at HI3 HPUT
          have HW4 : Hid ((P4.way true).length ≤ 400) := Lib.hid (by rw [← hP4]; exact putsY_way _ _ HW3.out _)
          have hkm : decide (kk < m) = true := by simpa using hlm
          clear hP4 hpk hby HN3 HP3
          go_wp2_with fail
          refine (put_true w y pe P4 pk X x wr vs3 vc3 vw3 zs3 HI3.out HBY.out HW4.out).mono ?_
          rintro e W5 ⟨rfl, hret⟩
          have HRET := Lib.hid (HPUT.out W5 hret)
          clear hret HPUT HI3 k0 k1 k2
          go_wp2_with fail
          go_roundw
          case rel => exact ⟨kk + 1, hlm, by go_num, HRET.out⟩
          case measure => simp [intOf]; omega
        · have ekm : kk = m := by omega
          subst ekm
          have HFIN : Hid (IsY w y pe (stY P1 1) vs3 vc3 vw3 zs3 wr) := Lib.hid (by
            have h := HI3.out
            rw [List.take_of_length_le (by have := HM.out; omega), HX.out, HNX.out] at h
            exact h)
          clear HI3 HP3 HN3
          go_wp2_with fail
          go_roundw
          case rel => exact ⟨1, vs3, vc3, vw3, zs3, by omega, by go_num, HFIN.out⟩
          case measure => simp [intOf]
    | 1, _ =>
      have ek : ((1 : Nat) : Int) = 1 := rfl
      rw [ek]
      have hb0 := HI.out.b
      obtain ⟨P2, hP2⟩ : ∃ P2, stY P1 1 = P2 := ⟨_, rfl⟩
      rw [hP2] at HI hb0
      have HN2 : Hid (0 ≤ P2.now ∧ P2.now ≤ 1000000) := Lib.hid (by rw [← hP2]; have := (putsY_same true (tickP (P1.e false) P1.now) { P1 with e := upB P1.e false (tickS (P1.e false) P1.now) }).2.2.2; show 0 ≤ (tickY P1 false).now ∧ (tickY P1 false).now ≤ 1000000; unfold tickY; simp only [Bool.not_false]; rw [this]; exact HN1.out)
      have HO2 : Hid (OkE (P2.e true)) := Lib.hid (by rw [← hP2]; have := (putsY_same true (tickP (P1.e false) P1.now) { P1 with e := upB P1.e false (tickS (P1.e false) P1.now) }).2.1; show OkE ((tickY P1 false).e true); unfold tickY; simp only [Bool.not_false]; rw [this]; simpa [upB] using HO1.out true)
      have HW2 : Hid (∀ a, (P2.way a).length ≤ 400) := Lib.hid (by rw [← hP2]; exact putsY_way _ _ (p := { P1 with e := upB P1.e false (tickS (P1.e false) P1.now) }) HW1.out)
      have HNX : Hid (tickY P2 true = stY P1 2) := Lib.hid (by rw [← hP2]; rfl)
      obtain ⟨Q, hQ⟩ : ∃ Q, tickP (P2.e true) P2.now = Q := ⟨_, rfl⟩
      obtain ⟨P3, hP3⟩ : ∃ P3, P3 = { P2 with e := upB P2.e true (tickS (P2.e true) P2.now) } := ⟨_, rfl⟩
      have HS : Hid (∀ W, IsY w y pe P2 vs vc vw zs W → Calls Try.prog 21 #[.pointer (some ⟨pe true, 0, none⟩), .int .i64 P2.now] W fun e W' => ∃ v, e = .returned v ∧ W'.heap[y]? = W.heap[y]? ∧ ∃ B, IsPs B W' v Q ∧ y < B ∧ (∀ r ∈ rowsY P2 vs vc vw zs, ∀ g, r.v.ownBlock = some g → g < B) ∧ IsY w y pe P3 vs vc vw zs W') := Lib.hid (fun W h => by
        rw [hP3, ← hQ]
        exact h.tickE true HO2.out HN2.out)
      have HX : Hid (putsY P3 false Q = tickY P2 true) := Lib.hid (by rw [hP3, ← hQ]; rfl)
      have HW3 : Hid (∀ a, (P3.way a).length ≤ 400) := Lib.hid (by rw [hP3]; exact HW2.out)
      have HR3 : Hid (∀ r ∈ rowsY P3 vs vc vw zs, r ∈ rowsY P2 vs vc vw zs) := Lib.hid (by rw [hP3]; exact fun r hr => hr)
      have hQl : Q.length ≤ 64 := by
        rw [← hQ]
        unfold tickP
        rw [List.length_map]
        exact Nat.le_trans (List.length_filter_le _ _) HO2.out.1
      have HB0 := Lib.hid hb0
      clear hb0 hP2 hQ hP3
      go_wp2_with fail
      refine wp_region_flow2 (fun W => W.heap[y]? = wr.heap[y]?) (fun W => IsY w y pe P2 vs vc vw zs W) [0, 1, 2, 3, 4, 5, 6, 7, 8, 9, 10, 11] (by kernel_rfl) (by kernel_rfl) (by kernel_rfl) (rfl) (HI.out.below (Below.refl _ wr).drew) ?_
      refine flow_val ?_ rfl (by kernel_rfl) (by rfl) (fun W hW => ?_) ?_
      rotate_left 1
      · go_simp <;> with_reducible rfl
      simp only [Act.put, List.setIfInBounds_toArray, List.set_cons_succ, List.set_cons_zero]
      refine flow_val ?_ rfl (by kernel_rfl) (by rfl) (fun W hW => ?_) ?_
      rotate_left 1
      · go_simp <;> with_reducible rfl
      simp only [Act.put, List.setIfInBounds_toArray, List.set_cons_succ, List.set_cons_zero]
      refine flow_val ?_ rfl (by kernel_rfl) (by rfl) (fun W hW => ?_) ?_
      rotate_left 1
      · go_simp <;> with_reducible rfl
      simp only [Act.put, List.setIfInBounds_toArray, List.set_cons_succ, List.set_cons_zero]
      refine flow_val ?_ rfl (by kernel_rfl) (by rfl) (fun W hW => ?_) ?_
      rotate_left 1
      · go_simp <;> with_reducible rfl
      simp only [Act.put, List.setIfInBounds_toArray, List.set_cons_succ, List.set_cons_zero]
      refine flow_val ?_ rfl (by kernel_rfl) (by rfl) (fun W hW => ?_) ?_
      rotate_left 1
      · go_simp <;> with_reducible rfl
      simp only [Act.put, List.setIfInBounds_toArray, List.set_cons_succ, List.set_cons_zero]
      refine flow_val ?_ rfl (by kernel_rfl) (by rfl) (fun W hW => ?_) ?_
      rotate_left 1
      · have c1 : W.cell? ⟨y, 1, none⟩ = some (.pointer (some ⟨pe true, 0, none⟩)) := cell_at (hW.trans HB0.out) 1; go_simp <;> with_reducible rfl
      simp only [Act.put, List.setIfInBounds_toArray, List.set_cons_succ, List.set_cons_zero]
      refine flow_val ?_ rfl (by kernel_rfl) (by rfl) (fun W hW => ?_) ?_
      rotate_left 1
      · go_simp <;> with_reducible rfl
      simp only [Act.put, List.setIfInBounds_toArray, List.set_cons_succ, List.set_cons_zero]
      refine flow_val ?_ rfl (by kernel_rfl) (by rfl) (fun W hW => ?_) ?_
      rotate_left 1
      · go_simp <;> with_reducible rfl
      simp only [Act.put, List.setIfInBounds_toArray, List.set_cons_succ, List.set_cons_zero]
      refine flow_val ?_ rfl (by kernel_rfl) (by rfl) (fun W hW => ?_) ?_
      rotate_left 1
      · go_simp <;> with_reducible rfl
      simp only [Act.put, List.setIfInBounds_toArray, List.set_cons_succ, List.set_cons_zero]
      refine flow_val ?_ rfl (by kernel_rfl) (by rfl) (fun W hW => ?_) ?_
      rotate_left 1
      · have c1 : W.cell? ⟨y, 8, none⟩ = some (.int .i64 P2.now) := cell_at (hW.trans HB0.out) 8; go_simp <;> with_reducible rfl
      simp only [Act.put, List.setIfInBounds_toArray, List.set_cons_succ, List.set_cons_zero]
      refine flow_gcall (fun v W => ∃ B, IsPs B W v Q ∧ y < B ∧ (∀ r ∈ rowsY P2 vs vc vw zs, ∀ g, r.v.ownBlock = some g → g < B) ∧ IsY w y pe P3 vs vc vw zs W) rfl (by kernel_rfl) (by rfl) (by kernel_rfl) (fun W hW hC => ⟨_, _, _, by go_simp, (HS.out W hC).mono fun e w1 ⟨v, he, hb, hr⟩ => ⟨v, he, hb.trans hW, hr⟩⟩) ?_
      rintro v26 ⟨_, _, B26, ⟨_, _, ho26, _⟩, _⟩
      simp only [Act.put, List.setIfInBounds_toArray, List.set_cons_succ, List.set_cons_zero]
      obtain ⟨A26, c26, rfl, _, _, _, _⟩ := own_slice ho26
      clear ho26
      refine flow_val ?_ rfl (by kernel_rfl) (by rfl) (fun W hW => ?_) ?_
      rotate_left 1
      · go_simp <;> with_reducible rfl
      simp only [Act.put, List.setIfInBounds_toArray, List.set_cons_succ, List.set_cons_zero]
      refine flow_done2 ?_
      rintro W4 _ ⟨B4, hps, hyB, hrB, hI3⟩
      have HT0 : Hid (InT w y pe P3 false Q (.slice A26 Q.length c26) 0 W4) := Lib.hid (InT.start hI3 hps (fun r hr => hrB r (HR3.out r hr)) hyB)
      clear hps hyB hrB hI3 HI HB0 HS
      obtain ⟨m, hm⟩ : ∃ m, Q.length = m := ⟨_, rfl⟩
      have HM := Lib.hid hm
      rw [hm] at HT0 hQl
      rw [hm]
      clear hm
      go_wp2_with fail
      go_loopw [4] (fun iv wr => ∃ kk : Nat, kk ≤ m ∧ iv = .int .i64 kk ∧ InT w y pe P3 false Q (.slice A26 m c26) kk wr) (fun iv _ => m - (intOf iv).toNat)
      case atStart => exact ⟨0, Nat.zero_le _, rfl, HT0.out⟩
      case round =>
        obtain ⟨kk, hkk, rfl, hin⟩ := hrel
        obtain ⟨vs3, vc3, vw3, zs3, hi3, hp3, hn3⟩ := hin
        have HI3 := Lib.hid hi3
        have HP3 := Lib.hid hp3
        have HN3 := Lib.hid hn3
        clear hi3 hp3 hn3 HT0
        by_cases hlm : kk < m
        · have hkQ : kk < Q.length := by have := HM.out; omega
          obtain ⟨g, c, X, x, e1, hl, k0, k1, k2, hby⟩ := pks_at hkQ HP3.out
          rw [HM.out] at e1
          injection e1 with e1 _ e2
          subst e1; subst e2
          have HBY := Lib.hid hby
          have HPUT : Hid (∀ W', RetY w y pe (putsY P3 false (Q.take kk)) vs3 vc3 vw3 zs3 wr (putY (putsY P3 false (Q.take kk)) false Q[kk]) W' → InT w y pe P3 false Q (.slice (some ⟨g, 0, none⟩) m c26) (kk + 1) W') := Lib.hid (fun W' hr => InT.next hkQ HP3.out HN3.out hr)
          obtain ⟨pk, hpk⟩ : ∃ pk, Q[kk] = pk := ⟨_, rfl⟩
          rw [hpk] at k0 k1 k2 HBY HPUT
          obtain ⟨P4, hP4⟩ : ∃ P4, putsY P3 false (Q.take kk) = P4 := ⟨_, rfl⟩
          rw [hP4] at HI3 HPUT
          have HW4 : Hid ((P4.way false).length ≤ 400) := Lib.hid (by rw [← hP4]; exact putsY_way _ _ HW3.out _)
          have hkm : decide (kk < m) = true := by simpa using hlm
          clear hP4 hpk hby HN3 HP3
          go_wp2_with fail
          refine (put_false w y pe P4 pk X x wr vs3 vc3 vw3 zs3 HI3.out HBY.out HW4.out).mono ?_
          rintro e W5 ⟨rfl, hret⟩
          have HRET := Lib.hid (HPUT.out W5 hret)
          clear hret HPUT HI3 k0 k1 k2
          go_wp2_with fail
          go_roundw
          case rel => exact ⟨kk + 1, hlm, by go_num, HRET.out⟩
          case measure => simp [intOf]; omega
        · have ekm : kk = m := by omega
          subst ekm
          have HFIN : Hid (IsY w y pe (stY P1 2) vs3 vc3 vw3 zs3 wr) := Lib.hid (by
            have h := HI3.out
            rw [List.take_of_length_le (by have := HM.out; omega), HX.out, HNX.out] at h
            exact h)
          clear HI3 HP3 HN3
          go_wp2_with fail
          go_roundw
          case rel => exact ⟨2, vs3, vc3, vw3, zs3, by omega, by go_num, HFIN.out⟩
          case measure => simp [intOf]
    | 2, _ =>
      go_wp2
      go_end0
      refine ⟨by simp, vs, vc, vw, zs, ?_⟩
      have e : stY P1 2 = ticksY P := by rw [HP1.out]; rfl
      rw [← e]
      exact HI.out
end Go.Proofs.Ytnmbblkfaoihfaa

namespace Go.Proofs.Ytnmbblkfaoihfaa
open Go.RowKit

theorem RowsY.fresh {W : World} {B M : Nat} {l : List YR} {i : Nat} {r : YR} (h : RowsY W B l) (hM : B ≤ M) (hlt : ∀ x ∈ l, ∀ g, x.v.ownBlock = some g → g < M) {v' : Value} {n' : Nat} {xs' : List Value} (ho : W.ownsRow M r.T r.size v' n' xs') : RowsY W B (l.set i ⟨r.T, r.size, v', n', xs'⟩) := by
  have sym : ∀ a b : YR, (∀ g, a.v.ownBlock = some g → b.v.ownBlock ≠ some g) → ∀ g, b.v.ownBlock = some g → a.v.ownBlock ≠ some g := fun a b hab g hb ha => hab g ha hb
  refine ⟨fun x hx => ?_, pairwise_set sym h.2 fun j hj _ g hg e => ?_⟩
  · rcases List.mem_or_eq_of_mem_set hx with hx | rfl
    · exact h.1 x hx
    · exact own_low ho hM
  · obtain ⟨hl, _⟩ := own_block ho hg
    have := hlt _ (List.getElem_mem hj) g e
    omega
theorem flatP_take (zs : List (LPk × Value)) (k : Nat) : (zs.take k).flatMap encP = (zs.flatMap encP).take (k * 3) := by
  induction zs generalizing k with
  | nil => simp
  | cons z zs ih =>
    cases k with
    | zero => simp
    | succ k => rw [List.take_succ_cons, List.flatMap_cons, List.flatMap_cons, ih k, show (k + 1) * 3 = 3 + k * 3 by omega, show 3 = (encP z).length from rfl, List.take_length_add_append]
theorem flatP_drop (zs : List (LPk × Value)) (k : Nat) : (zs.drop k).flatMap encP = (zs.flatMap encP).drop (k * 3) := by
  induction zs generalizing k with
  | nil => simp
  | cons z zs ih =>
    cases k with
    | zero => simp
    | succ k => rw [List.drop_succ_cons, List.flatMap_cons, ih k, show (k + 1) * 3 = 3 + k * 3 by omega, show 3 = (encP z).length from rfl, List.drop_length_add_append]
theorem flatP_erase (zs : List (LPk × Value)) (k : Nat) : (zs.eraseIdx k).flatMap encP = (zs.take k).flatMap encP ++ (zs.drop (k + 1)).flatMap encP := by
  rw [List.eraseIdx_eq_take_drop_succ, List.flatMap_append]
theorem rd_part {W : World} {g n : Nat} {zs : List (LPk × Value)} (h : Rd W 3 (some ⟨g, 0, none⟩) n (zs.flatMap encP)) (hn : zs.length = n) (k m : Nat) (hk : k ≤ n) (hm : m ≤ n) : Rd W 3 (some ⟨g, 0, none⟩) k ((zs.take k).flatMap encP) ∧ Rd W 3 (some ⟨g, m * 3, none⟩) (n - m) ((zs.drop m).flatMap encP) := by
  have hl : ∀ l : List (LPk × Value), (l.flatMap encP).length = l.length * 3 := fun l => by
    induction l with
    | nil => rfl
    | cons z l ih => rw [List.flatMap_cons, List.length_append, ih, encP_len, List.length_cons]; omega
  refine ⟨⟨by rw [hl, List.length_take]; omega, fun hp => ?_⟩, ⟨by rw [hl, List.length_drop]; omega, fun hp => ?_⟩⟩
  · obtain ⟨g', o, e, h1, h2⟩ := h.2 (by omega)
    injection e with e
    injection e with e1 e2
    subst e1; subst e2
    refine ⟨g, 0, rfl, h1, fun j u hu => h2 j u ?_⟩
    rw [flatP_take, List.getElem?_take] at hu
    split at hu
    · exact hu
    · cases hu
  · obtain ⟨g', o, e, h1, h2⟩ := h.2 (by omega)
    injection e with e
    injection e with e1 e2
    subst e1; subst e2
    refine ⟨g, m * 3, rfl, h1, fun j u hu => ?_⟩
    rw [flatP_drop, List.getElem?_drop] at hu
    have := h2 _ u hu
    rw [Nat.zero_add] at this
    exact this
theorem IsY.pks {w W : World} {y : Nat} {pe : Bool → Nat} {P : Play} {vs vc vw : Bool → Value} {zs : Bool → List (LPk × Value)} (h : IsY w y pe P vs vc vw zs W) (a : Bool) : IsPs 0 W (vw a) (P.way a) := by
  refine ⟨zs a, h.map a, own_low (B := w.heap.size) ?_ (Nat.zero_le _), h.by_ a⟩
  cases a
  · exact h.rows.1 ⟨43, 3, vw false, (P.way false).length, (zs false).flatMap encP⟩ (by simp [rowsY])
  · exact h.rows.1 ⟨43, 3, vw true, (P.way true).length, (zs true).flatMap encP⟩ (by simp [rowsY])
theorem IsY.norow {w W : World} {y : Nat} {pe : Bool → Nat} {P : Play} {vs vc vw : Bool → Value} {zs : Bool → List (LPk × Value)} (h : IsY w y pe P vs vc vw zs W) {g : Nat} {cs : Array Value} {T : TypeId} {fz : Nat × Nat} (hc : W.heap[g]? = some (.cells cs T fz)) (h1 : T ≠ 9) (h2 : T ≠ 43) : NoRow P vs vc vw zs g := fun r hr e => by
  obtain ⟨_, cs', hc'⟩ := own_block (h.rows.1 r hr) e
  refine absurd rfl (block_ne hc' hc ?_)
  simp only [rowsY, List.mem_cons, List.not_mem_nil, or_false] at hr
  rcases hr with rfl | rfl | rfl | rfl | rfl | rfl <;> first | exact h1.symm | exact h2.symm
theorem IsY.norow_new {w W : World} {y : Nat} {pe : Bool → Nat} {P : Play} {vs vc vw : Bool → Value} {zs : Bool → List (LPk × Value)} (h : IsY w y pe P vs vc vw zs W) {g : Nat} (hg : W.heap.size ≤ g) : NoRow P vs vc vw zs g := fun r hr e => by
  have := h.rlt r hr g e
  omega
/-- What is on its way is another list now. -/
theorem IsY.took {w W : World} {y : Nat} {pe : Bool → Nat} {P : Play} {vs vc vw : Bool → Value} {zs : Bool → List (LPk × Value)} (h : IsY w y pe P vs vc vw zs W) {a : Bool} {l : List (LPk × Value)} {Q : List LPk} {v : Value} {M : Nat} (hl : l.map (·.1) = Q) (hsub : ∀ z ∈ l, z ∈ zs a) (ho : W.ownsRow M 43 3 v Q.length (l.flatMap encP)) (hM : w.heap.size ≤ M) (hlt : ∀ x ∈ rowsY P vs vc vw zs, ∀ g, x.v.ownBlock = some g → g < M) :
    IsY w y pe { P with way := upB P.way a Q } vs vc (upB vw a v) (upB zs a l) (W.setCell ⟨y, if a = true then 7 else 6, none⟩ v) := by
  cases a
  · have hf : YF w y pe P vs vc vw zs ((rowsY P vs vc vw zs).set 4 ⟨43, 3, v, Q.length, l.flatMap encP⟩) W := ⟨h.b, h.two, h.low, h.by_, h.rows.fresh (i := 4) (r := ⟨43, 3, v, Q.length, l.flatMap encP⟩) hM hlt ho⟩
    obtain ⟨s1, s2, s3⟩ := hf.store (by simp [rowsY]) 6 v
    refine ⟨?_, s2, h.low, fun b => ?_, fun b z hz => ?_, ?_⟩
    · simp only [Bool.false_eq_true, if_false]; rw [block_set h.b]; simp [upB]
    · simp only [upB]; split
      · exact hl
      · exact h.map b
    · simp only [upB] at hz; split at hz
      · exact s1 _ _ (h.by_ _ z (hsub z hz))
      · exact s1 _ _ (h.by_ b z hz)
    · have := s3
      simpa [rowsY, upB] using this
  · have hf : YF w y pe P vs vc vw zs ((rowsY P vs vc vw zs).set 5 ⟨43, 3, v, Q.length, l.flatMap encP⟩) W := ⟨h.b, h.two, h.low, h.by_, h.rows.fresh (i := 5) (r := ⟨43, 3, v, Q.length, l.flatMap encP⟩) hM hlt ho⟩
    obtain ⟨s1, s2, s3⟩ := hf.store (by simp [rowsY]) 7 v
    refine ⟨?_, s2, h.low, fun b => ?_, fun b z hz => ?_, ?_⟩
    · simp only [if_true]; rw [block_set h.b]; simp [upB]
    · simp only [upB]; split
      · exact hl
      · exact h.map b
    · simp only [upB] at hz; split at hz
      · exact s1 _ _ (h.by_ _ z (hsub z hz))
      · exact s1 _ _ (h.by_ b z hz)
    · have := s3
      simpa [rowsY, upB] using this
theorem IsY.onE {w W : World} {y : Nat} {pe : Bool → Nat} {P : Play} {vs vc vw : Bool → Value} {zs : Bool → List (LPk × Value)} (h : IsY w y pe P vs vc vw zs W) (a : Bool) (k : LPk) (A : Option Addr) (c : Nat) (hb : ByO W (.slice A k.body.length c) k.body) (hmk : 0 ≤ (P.e a).mark ∧ (P.e a).mark < 9223372036854775807) :
    Calls Try.prog 20 #[.pointer (some ⟨pe a, 0, none⟩), .agg #[.int .i64 k.seq, .int .i64 k.ack, .slice A k.body.length c]] W fun e W' => ∃ v, e = .returned v ∧ (∃ bv v3, v = .tuple #[bv, .bool (onI (P.e a) k), v3] ∧ ByO W' bv (onB (P.e a) k) ∧ IsP W' v3 (onP (P.e a) k)) ∧ IsY w y pe { P with e := upB P.e a (onS (P.e a) k) } vs vc vw zs W' ∧ Keeps W W' := by
  have hl : k.body.length ≤ 9223372036854775807 := by
    obtain ⟨A', c', e, h1, h2, _⟩ := byo_slice hb
    unfold maxLen at h2
    omega
  refine (h.callE ((h.ts a).on k A c hb hl hmk)).mono fun e W' ⟨⟨bv, v3, he, h1, h2⟩, hI, hk⟩ => ⟨_, he, ⟨bv, v3, rfl, h1, h2⟩, hI, hk⟩
/-- A coming, spelled out. -/
theorem comeY_nil {P : Play} {a : Bool} (h : P.way a = []) (n : Int) (stays lost : Bool) : comeY P a n stays lost = P := by
  unfold comeY
  rw [h]
theorem comeY_eq {P : Play} {a : Bool} {N k : Nat} (hN : (P.way a).length = N) (n : Int) (hk : (n.tmod (N : Int)).natAbs = k) (hkN : k < (P.way a).length) (stays lost : Bool) :
    comeY P a n stays lost = if lost = true then (if stays = true then P else { P with way := upB P.way a ((P.way a).eraseIdx k) }) else onY (if stays = true then P else { P with way := upB P.way a ((P.way a).eraseIdx k) }) a (P.way a)[k] := by
  unfold comeY
  split
  · rename_i hw
    rw [hw] at hkN
    exact absurd hkN (by simp)
  · rename_i x r hw
    have e1 : N = r.length + 1 := by rw [← hN, hw]; simp
    subst e1
    simp only
    rw [hk]
    have e2 : (x :: r).getD k x = (P.way a)[k] := by
      simp only [← hw, List.getD_eq_getElem?_getD, List.getElem?_eq_getElem hkN, Option.getD_some]
    rw [e2, ← hw]
theorem tmod_small (n : Int) (N : Nat) (hN : 0 < N) (hN' : N ≤ 400) : -400 < n.tmod (N : Int) ∧ n.tmod (N : Int) < 400 ∧ (n.tmod (N : Int)).natAbs < N := by
  have h1 : (n.tmod (N : Int)).natAbs = n.natAbs % N := by rw [Int.natAbs_tmod]; simp
  have h2 := Nat.mod_lt n.natAbs hN
  omega
end Go.Proofs.Ytnmbblkfaoihfaa
