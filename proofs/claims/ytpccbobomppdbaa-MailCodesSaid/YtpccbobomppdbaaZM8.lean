/- Joined: items.May and the reference's. The reference's May of lists. -/
import Derived.Test.YtpccbobomppdbaaZM3
import Derived.RangeFuncFrom
import Derived.Test.YtpccbobomppdbaaZM7
namespace Go.Proofs.Ytpccbobomppdbaa
open Go.RowKit Go.Shelf
attribute [local go_sem] Oper.semAt_some

theorem keepsOthers_b {W W' : World} (h : Below W.heap.size W W') : KeepsOthers W W' := ⟨h.size, fun k _ hk _ => (h.block k (lt_of_block hk)).trans hk⟩
/-- The last good so far. -/
def lastG (pre : List BIt) : ByteArray := match pre.getLast? with | none => ByteArray.empty | some x => x.1.good
theorem lastG_snoc (pre : List BIt) (x : BIt) : lastG (pre ++ [x]) = x.1.good := by simp [lastG]
theorem lt_empty {s : ByteArray} (h : goodS s = true) : ltS ByteArray.empty s = true := by
  unfold goodS at h
  simp only [Bool.and_eq_true, decide_eq_true_eq] at h
  unfold ltS
  rw [Lib.toList_data, Lib.toList_data]
  have h1 := h.1.2
  cases e : s.data.toList with
  | nil => exact absurd (by have := congrArg List.length e; simpa using this) (by omega : ¬ s.size = 0)
  | cons a l => rfl
theorem okAt_snoc (pre : List BIt) (x : BIt) : okAt ((pre ++ [x]).map (·.1)) pre.length = (okItem x.1 && ltS (lastG pre) x.1.good) := by
  rcases List.eq_nil_or_concat pre with rfl | ⟨q, y, rfl⟩
  · have e : okAt ([x.1]) 0 = okItem x.1 := by simp [okAt]
    refine (show okAt (([] ++ [x] : List BIt).map (fun y => y.1)) ([] : List BIt).length = _ from e).trans ?_
    by_cases h : okItem x.1 = true
    · have := (okItem_iff.1 h).1
      rw [show lastG [] = ByteArray.empty from rfl, lt_empty this, h]
      rfl
    · rw [show okItem x.1 = false by simpa using h]; rfl
  · rw [List.concat_eq_append]
    have hl : (((q ++ [y]) ++ [x]).map (·.1)).length = q.length + 1 + 1 := by simp
    rw [show (q ++ [y]).length = q.length + 1 by simp, okAt_succ (by rw [hl]; omega), lastG_snoc]
    congr 1
    · simp
    · congr 1 <;> simp
theorem okAt_prefix {pre : List It} {l : List It} (h : pre <+: l) {k : Nat} (hk : k < pre.length) : okAt l k = okAt pre k := by
  obtain ⟨r, rfl⟩ := h
  have e : ∀ j, j < pre.length → (pre ++ r)[j]? = pre[j]? := fun j hj => List.getElem?_append_left hj
  unfold okAt
  rw [e k hk]
  cases k with
  | zero => rfl
  | succ k => simp only [e k (by omega)]
theorem block_own {W W' : World} {row : Option Nat} {k : Nat} {cs : Array Value} {T : TypeId} {fz : Nat × Nat} (h : W.heap[k]? = some (.cells cs T fz)) (hg : W.grownBy W' row) (hr : ∀ r, row = some r → ∃ o : Obj, W.heap[r]? = some o ∧ o.isCells = false) : W'.heap[k]? = some (.cells cs T fz) := by
  rw [hg.block k (lt_of_block h) ?_]
  · exact h
  · intro e
    obtain ⟨o, k1, k2⟩ := hr _ e.symm
    rw [h] at k1
    injection k1 with k1
    subst k1
    simp [Obj.isCells] at k2
/-- Between two rounds. -/
def MayJ (w : World) (pre : List BIt) (W : World) : Prop :=
  ((∀ k, k < pre.length → okAt (pre.map (·.1)) k = true) ∧ W.heap[w.heap.size]? = some (.cells #[.bool false] 4 (0, 0)) ∧ W.heap[w.heap.size + 1]? = some (.cells #[.string (lastG pre)] 9 (0, 0))) ∧ Below w.heap.size w W
def MayX (w : World) (c : Code) (pre : List BIt) (W : World) : Prop :=
  (c = .ret ∧ (∃ k, k < pre.length ∧ okAt (pre.map (·.1)) k = false) ∧ W.heap[w.heap.size]? = some (.cells #[.bool false] 4 (0, 0))) ∧ Below w.heap.size w W
theorem mayJ_own {w : World} {B : Nat} (hB : w.heap.size ≤ B) : OwnFrom B (MayJ w) := by
  rintro pre W W' row ⟨⟨h1, h2, h3⟩, hb⟩ hg hr
  have hr' : ∀ r, row = some r → ∃ o : Obj, W.heap[r]? = some o ∧ o.isCells = false := fun r e => (hr r e).2
  exact ⟨⟨h1, block_own h2 hg hr', block_own h3 hg hr'⟩, hb.grown hg hb.size (fun k e => Nat.le_trans hB (hr k e).1)⟩
theorem mayX_own {w : World} {B : Nat} (hB : w.heap.size ≤ B) (c : Code) : OwnFrom B (MayX w c) := by
  rintro pre W W' row ⟨⟨h1, h2, h3⟩, hb⟩ hg hr
  have hr' : ∀ r, row = some r → ∃ o : Obj, W.heap[r]? = some o ∧ o.isCells = false := fun r e => (hr r e).2
  exact ⟨⟨h1, h2, block_own h3 hg hr'⟩, hb.grown hg hb.size (fun k e => Nat.le_trans hB (hr k e).1)⟩
theorem mayJ_next {w W W' : World} {pre : List BIt} {x : BIt} (h : MayJ w pre W) (hok : okItem x.1 = true) (hlt : ltS (lastG pre) x.1.good = true) (hb : Below W.heap.size W W') :
    MayJ w (pre ++ [x]) (W'.setCell ⟨w.heap.size + 1, 0, none⟩ (.string x.1.good)) := by
  obtain ⟨⟨h1, h2, h3⟩, hB⟩ := h
  refine ⟨⟨fun k hk => ?_, block_far ((hb.block _ (lt_of_block h2)).trans h2) (by simp) _, ?_⟩, (hB.trans (hb.mono hB.size)).setCell (p := ⟨w.heap.size + 1, 0, none⟩) (by simp) _⟩
  · rcases Nat.lt_or_ge k pre.length with hlt' | hge
    · rw [okAt_prefix (pre := pre.map (·.1)) (by simp) (by simpa using hlt')]
      exact h1 k hlt'
    · have : k = pre.length := by simp at hk; omega
      subst this
      rw [okAt_snoc, hok, hlt]
      rfl
  · rw [lastG_snoc]
    simpa using block_set ((hb.block _ (lt_of_block h3)).trans h3) 0 (.string x.1.good)
theorem mayX_of {w W W' : World} {pre : List BIt} {x : BIt} (h : MayJ w pre W) (hbad : (okItem x.1 && ltS (lastG pre) x.1.good) = false) (hb : Below W.heap.size W W') : MayX w .ret (pre ++ [x]) (W'.setCell ⟨w.heap.size, 0, none⟩ (.bool false)) := by
  obtain ⟨⟨h1, h2, h3⟩, hB⟩ := h
  exact ⟨⟨rfl, ⟨pre.length, by simp, by rw [okAt_snoc]; exact hbad⟩, by simpa using block_set ((hb.block _ (lt_of_block h2)).trans h2) 0 (.bool false)⟩, (hB.trans (hb.mono hB.size)).setCell (p := ⟨w.heap.size, 0, none⟩) (by simp) _⟩

set_option maxRecDepth 100000 in
set_option maxHeartbeats 2000000 in
theorem imay_any (A : Option Addr) (c : Nat) (rs : List It) (w : World) (hr : Rd w 2 A rs.length (rs.flatMap encI)) (hb : ∀ z ∈ rs, BdIt z) (hm : rs.length ≤ 4611686018427387903) :
    Calls Try.prog 31 #[.slice A rs.length c] w fun e w' => e = .returned (.bool (mayI rs)) ∧ Below w.heap.size w w' := by
  obtain ⟨qs, hq⟩ := bits_of hb
  refine (callsIn_wide (n := 9)).1 ?_
  refine callsIn_of_wp_marks Try.func31 rfl trivial ?_ rfl
  simp only [Try.ntmps31, List.size_toArray, List.length_cons, List.length_nil, Nat.reduceAdd, Nat.reduceSub, Array.replicate_succ, Array.replicate_zero, List.push_toArray, List.append_toArray, List.nil_append, List.cons_append]
  refine wpIn_wide.2 ?_
  have HQ := Lib.hid hq
  clear hq
  go_wp2_with fail
  refine (all_any _ _ _ _).mono ?_
  rintro e w1 ⟨rfl, hw1⟩
  have b0 := block_alloc (block_alloc (block_new w (.cells #[.bool false] 4)) (.cells #[.string ByteArray.empty] 9)) (.cells #[.slice A rs.length c] 22)
  have b1 := block_alloc (block_new (w.alloc (.cells #[.bool false] 4)) (.cells #[.string ByteArray.empty] 9)) (.cells #[.slice A rs.length c] 22)
  have b2 := block_new ((w.alloc (.cells #[.bool false] 4)).alloc (.cells #[.string ByteArray.empty] 9)) (.cells #[.slice A rs.length c] 22)
  have hB1 := (((Below.refl _ w).alloc (Nat.le_refl _) (.cells #[.bool false] 4)).alloc (by simp) (.cells #[.string ByteArray.empty] 9)).alloc (by simp; omega) (.cells #[.slice A rs.length c] 22)
  rw [show ((w.alloc (.cells #[.bool false] 4)).alloc (.cells #[.string ByteArray.empty] 9)).alloc (.cells #[.slice A rs.length c] 22) = w1 from hw1] at b0 b1 b2 hB1
  simp only [World.size_alloc] at b1 b2
  have hsz1 : w.heap.size ≤ w1.heap.size := hB1.size
  have HRD := Lib.hid (hr.below hB1)
  have hA : ∀ a, A = some a → 0 < rs.length → a.block < w.heap.size := fun a ha hp => by
    obtain ⟨g, o', e, hg, _⟩ := hr.2 hp
    rw [e] at ha
    cases ha
    exact hg
  clear hw1 hr
  go_wp2_with fail
  refine (wpIn_wide (n := 9)).1 ?_
  refine wpIn_rangeFunc_ownF rfl (by omega) (gf := 54) (lb := #[.pointer (some ⟨w.heap.size + 1 + 1, 0, none⟩)]) rfl trivial (enters_of Try.func54 (by kernel_rfl) rfl)
    (all_iter _ w.heap.size (w.heap.size + 1 + 1) A c rs qs HQ.out w1 (by rw [cell_at b2]; rfl) HRD.out hm (by omega) hA) belowK_t (belowK_b hsz1) (Below.refl _ _) (fun _ => rfl)
    (MayJ w) (MayX w)
    (mayJ_own hsz1) (mayX_own hsz1)
    ⟨⟨by simp, b0, b1⟩, hB1⟩
    (fun x => { tmps := #[.slice A rs.length c, undef, .pointer (some ⟨w.heap.size, 0, none⟩), .pointer (some ⟨w.heap.size + 1, 0, none⟩), .string x.1.good, .int .i64 x.1.n, .slice A rs.length c, .func (.func 54) #[] #[.pointer (some ⟨w.heap.size + 1 + 1, 0, none⟩)], .string x.1.good, .int .i64 x.1.n, undef, undef, undef, undef, undef, undef, undef, undef, undef, undef, undef, undef, undef, undef, undef, undef, undef, undef, undef, undef, undef], defers := [] }) ?assign ?body ?done ?stop
  case assign =>
    intro l x W K hK
    dsimp only [encRowI]
    gi_wp2
    exact hK
  case stop =>
    rintro D c pre W3 hD hpre ⟨⟨rfl, ⟨k, hk, hbad⟩, hc⟩, hB⟩ hK
    have hc5 := cell_kept (by rw [cell_at hc]; rfl : W3.cell? ⟨w.heap.size, 0, none⟩ = some (.bool false)) (grownBy_putObj' _ D (.deferred none)) (fun r e => by cases e; exact ⟨_, hK, rfl⟩)
    have hmay : mayI rs = false := by
      have hpr : pre.map (·.1) <+: rs := by rw [← HQ.out]; exact hpre.map _
      have hk' : k < (pre.map (·.1)).length := by simpa using hk
      exact mayI_bad (Nat.lt_of_lt_of_le hk' hpr.length_le) (by rw [okAt_prefix hpr hk']; exact hbad)
    gi_wp2
    refine ⟨by simp, .inl ⟨_, _, rfl, run_takeDeferred hK, ?_⟩⟩
    refine ⟨.bool false, ?_, by rw [hmay], hB.trans (belowK_b (w := w) (Nat.le_refl _) W3 D _ _ (by omega) hK rfl rfl)⟩
    simp [results, Try.f31, go_sem, hc5]
  case done =>
    rintro D xs W3 hD rfl ⟨⟨hall, hc, _⟩, hB⟩ hK
    have q0 : W3.cell? ⟨w.heap.size, 0, none⟩ = some (.bool false) := by rw [cell_at hc]; rfl
    have q1 := frozen_at hc 0
    have HC := Lib.hid hc
    have hmay : mayI rs = decide ((rs.length : Int) ≤ 16) := by
      rw [mayI_all (fun k hk => by rw [← HQ.out]; exact hall k (by rw [← HQ.out] at hk; simpa using hk))]
      exact decide_eq_decide.2 (by omega)
    have HM := Lib.hid hmay
    clear hmay hall hc
    go_wp2
    have hK' := (KeepsOthers.setCell W3 ⟨w.heap.size, 0, none⟩ (.bool (decide ((rs.length : Int) ≤ 16)))).same D _ hK rfl
    refine ⟨by simp, .inl ⟨_, _, rfl, run_takeDeferred hK', ?_⟩⟩
    have hc5 := cell_kept (World.cell?_setCell_same' W3 ⟨w.heap.size, 0, none⟩ (.bool (decide ((rs.length : Int) ≤ 16))) (by rw [q0]; rfl)) (grownBy_putObj' _ D (.deferred none)) (fun r e => by cases e; exact ⟨_, hK', rfl⟩)
    refine ⟨.bool (mayI rs), ?_, rfl, (hB.setCell (p := ⟨w.heap.size, 0, none⟩) (by simp) _).trans (belowK_b (w := w) (Nat.le_refl _) _ D _ _ (by omega) hK' rfl rfl)⟩
    rw [HM.out]
    simp [results, Try.f31, go_sem, hc5]
  case body =>
    rintro l pre x W hJ hlt
    have HJ := Lib.hid hJ
    obtain ⟨⟨_, h2, h3⟩, hB⟩ := hJ
    obtain ⟨LG, hLG⟩ : ∃ LG, lastG pre = LG := ⟨_, rfl⟩
    rw [hLG] at h3
    have HLG := Lib.hid hLG
    have hx := x.2
    obtain ⟨z, hz⟩ : ∃ z, x.1 = z := ⟨_, rfl⟩
    rw [hz] at hx ⊢
    have HZ := Lib.hid hz
    obtain ⟨gd, n⟩ := z
    obtain ⟨hx1, hx2, hx3⟩ := hx
    simp only at hx1 hx2 hx3 ⊢
    clear hLG hz hB hlt b0 b1 b2 hB1
    have hgo := good_any gd W hx1
    obtain ⟨G, hG⟩ : ∃ G, goodS gd = G := ⟨_, rfl⟩
    rw [hG] at hgo
    have HGD := Lib.hid hG
    have HGO := Lib.hid hgo
    clear hG hgo
    gi_wp2_with fail
    refine ⟨trivial, (CallsIn.inRound l (callsIn_wide.2 HGO.out)).mono ?_⟩
    rintro e W2 ⟨rfl, pos, hW2⟩
    have hbW : Below W.heap.size W W2 := by rw [hW2]; exact (Below.refl _ W).alloc (Nat.le_refl _) _
    have HBW := Lib.hid hbW
    have g2 := (hbW.block _ (lt_of_block h2)).trans h2
    have g3 := (hbW.block _ (lt_of_block h3)).trans h3
    have k2 : W2.cell? ⟨w.heap.size, 0, none⟩ = some (.bool false) := by rw [cell_at g2]; rfl
    have k3 := frozen_at g2 0
    have k4 : W2.cell? ⟨w.heap.size + 1, 0, none⟩ = some (.string LG) := by rw [cell_at g3]; rfl
    have k5 := frozen_at g3 0
    clear hW2 hbW h2 h3 HGO g2 g3
    cases G
    · have hbad : (okItem x.1 && ltS (lastG pre) x.1.good) = false := by rw [HZ.out]; simp [okItem, HGD.out]
      have HBAD := Lib.hid hbad
      clear hbad
      gi_wp2_with fail
      refine ⟨trivial, ?_⟩
      gi_wp2_with fail
      exact ⟨(keepsOthers_b HBW.out).trans (KeepsOthers.setCell _ _ _), mayX_of HJ.out HBAD.out HBW.out⟩
    · by_cases h1 : 1 ≤ n
      · cases hmc : mayC n
        · have hbad : (okItem x.1 && ltS (lastG pre) x.1.good) = false := by
            have h2 : ¬ n ≤ 1099511627776 := fun h => by rw [show mayC n = true by simp [mayC, h]; omega] at hmc; cases hmc
            rw [HZ.out]; simp [okItem, h2]
          have HBAD := Lib.hid hbad
          have HMC := Lib.hid hmc
          clear hbad hmc
          gi_wp2_with fail
          refine ⟨trivial, (CallsIn.inRound l (callsIn_wide.2 (HMC.out ▸ cmay_any n W2))).mono ?_⟩
          rintro e W3 ⟨rfl, rfl⟩
          gi_wp2_with fail
          exact ⟨(keepsOthers_b HBW.out).trans (KeepsOthers.setCell _ _ _), mayX_of HJ.out HBAD.out HBW.out⟩
        · have hmm : mayC n = true := hmc
          have hn2 : n ≤ 1099511627776 := by simp [mayC] at hmm; omega
          have hok : okItem x.1 = true := by rw [HZ.out]; exact okItem_iff.2 ⟨HGD.out, h1, hn2⟩
          have HOK := Lib.hid hok
          have HMC := Lib.hid hmc
          have hle := leS_iff gd LG
          obtain ⟨LT, hLT⟩ : ∃ LT, ltS LG gd = LT := ⟨_, rfl⟩
          rw [hLT] at hle
          have HLT := Lib.hid hLT
          clear hok hmm hmc hLT
          gi_wp2_with fail
          refine ⟨trivial, (CallsIn.inRound l (callsIn_wide.2 (HMC.out ▸ cmay_any n W2))).mono ?_⟩
          rintro e W3 ⟨rfl, rfl⟩
          cases LT
          · have hbad : (okItem x.1 && ltS (lastG pre) x.1.good) = false := by rw [HLG.out, HZ.out, show ltS LG (⟨gd, n⟩ : It).good = false from HLT.out, Bool.and_false]
            have HBAD := Lib.hid hbad
            have hle2 : (Op.bytesLess gd.toList LG.toList || gd.toList == LG.toList) = true := hle
            clear hbad hle
            gi_wp2_with fail
            exact ⟨(keepsOthers_b HBW.out).trans (KeepsOthers.setCell _ _ _), mayX_of HJ.out HBAD.out HBW.out⟩
          · have hle2 : (Op.bytesLess gd.toList LG.toList || gd.toList == LG.toList) = false := hle
            clear hle
            gi_wp2_with fail
            have hgd : x.1.good = gd := by rw [HZ.out]
            have hJ2 := mayJ_next HJ.out HOK.out (by rw [HLG.out, hgd]; exact HLT.out) HBW.out
            rw [hgd] at hJ2
            exact ⟨(keepsOthers_b HBW.out).trans (KeepsOthers.setCell _ _ _), (HBW.out.mono HJ.out.2.size).setCell (p := ⟨w.heap.size + 1, 0, none⟩) (by simp) _, hJ2⟩
      · have hbad : (okItem x.1 && ltS (lastG pre) x.1.good) = false := by rw [HZ.out]; simp [okItem, h1]
        have HBAD := Lib.hid hbad
        clear hbad
        gi_wp2_with fail
        refine ⟨trivial, ?_⟩
        gi_wp2_with fail
        exact ⟨(keepsOthers_b HBW.out).trans (KeepsOthers.setCell _ _ _), mayX_of HJ.out HBAD.out HBW.out⟩
end Go.Proofs.Ytpccbobomppdbaa

namespace Go.Proofs.Ytpccbobomppdbaa
open Go.RowKit

set_option maxRecDepth 100000 in
set_option maxHeartbeats 2000000 in
theorem xmayI_any (A : Option Addr) (c : Nat) (l : List It) (w : World) (hr : Rd w 2 A l.length (l.flatMap encI)) (hb : ∀ z ∈ l, BdIt z) (hm : l.length ≤ 4611686018427387903) :
    Calls Try.prog 35 #[.slice A l.length c] w fun e w' => e = .returned (.bool (mayI l)) ∧ Below w.heap.size w w' := by
  obtain ⟨m, hm2⟩ : ∃ m, l.length = m := ⟨_, rfl⟩
  have HM := Lib.hid hm2
  have HRD := Lib.hid hr
  have HBD := Lib.hid hb
  rw [hm2] at hm ⊢
  clear hr hb hm2
  go_enter Try.func35, Try.ntmps35
  go_wp2_with fail
  go_loopw [3] (fun iv wr => ∃ k : Nat, k ≤ m ∧ iv = .int .i64 k ∧ (∀ j, j < k → okAt l j = true) ∧ Below w.heap.size w wr) (fun iv _ => m - (intOf iv).toNat)
  case atStart => exact ⟨0, Nat.zero_le _, rfl, fun j hj => absurd hj (by omega), Below.refl _ _⟩
  case round =>
    obtain ⟨k, hk, rfl, hall, hbw⟩ := hrel
    have HALL := Lib.hid hall
    have HBW := Lib.hid hbw
    clear hall hbw
    by_cases hlt : k < m
    · have hkl : k < l.length := by have := HM.out; omega
      obtain ⟨g, o, rfl, hg, c0, c1⟩ := rdi_at (HRD.out.below HBW.out) hkl
      have hbd := HBD.out _ (List.getElem_mem hkl)
      obtain ⟨z, hz⟩ : ∃ z, l[k] = z := ⟨_, rfl⟩
      rw [hz] at c0 c1 hbd
      have HZ : Hid (l[k] = z) := Lib.hid hz
      clear hz
      obtain ⟨gd, n⟩ := z
      obtain ⟨hx1, hx2, hx3⟩ := hbd
      simp only at c0 c1 hx1 hx2 hx3
      have hok : okAt l k = (okItem ⟨gd, n⟩ && (match k with | 0 => true | j + 1 => match l[j]? with | none => false | some x => ltS x.good gd)) := by
        unfold okAt
        rw [List.getElem?_eq_getElem hkl, HZ.out]
        cases k <;> rfl
      have HOK := Lib.hid hok
      clear hok
      have hgo := xgood_any gd
      obtain ⟨G, hG⟩ : ∃ G, goodS gd = G := ⟨_, rfl⟩
      rw [hG] at hgo
      have HGD := Lib.hid hG
      have HGO := Lib.hid hgo
      clear hG hgo
      cases G
      · have HBAD : Hid (mayI l = false) := Lib.hid (mayI_bad hkl (by rw [HOK.out]; simp [okItem, HGD.out]))
        go_wp2_with fail
        refine wp_region_flow (fun W => W = wr.drew) [0, 1, 2, 3, 4, 5, 6, 7, 8, 9, 10, 11, 12, 13, 14, 15, 16, 17, 18, 19, 20, 21, 22, 23, 24, 25, 26, 27, 28, 29, 30, 31, 32, 33, 34, 35, 36, 37, 38, 39, 40, 41] (by kernel_rfl) (by kernel_rfl) (by kernel_rfl) (rfl) ?_
        iterate 5
         refine flow_val ?_ rfl (by kernel_rfl) (by rfl) (fun W hW => ?_) ?_
         rotate_left 1
         · go_simp <;> with_reducible rfl
         simp only [Act.put, List.setIfInBounds_toArray, List.set_cons_succ, List.set_cons_zero]
        refine flow_quiet (.bool false) rfl (by kernel_rfl) (by rfl) (fun W hW => ⟨_, _, by go_simp, HGO.out W hx1⟩) ?_
        simp only [Act.put, List.setIfInBounds_toArray, List.set_cons_succ, List.set_cons_zero]
        iterate 2
         refine flow_val ?_ rfl (by kernel_rfl) (by rfl) (fun W hW => ?_) ?_
         rotate_left 1
         · go_simp <;> with_reducible rfl
         simp only [Act.put, List.setIfInBounds_toArray, List.set_cons_succ, List.set_cons_zero]
         refine flow_val ?_ rfl (by kernel_rfl) (by rfl) (fun W hW => ?_) ?_
         rotate_left 1
         · go_simp <;> with_reducible rfl
         simp only [Act.put, List.setIfInBounds_toArray, List.set_cons_succ, List.set_cons_zero]
         refine flow_off rfl (by kernel_rfl) (by rfl) ?_
         simp only [Act.put, List.setIfInBounds_toArray, List.set_cons_succ, List.set_cons_zero]
         refine flow_off rfl (by kernel_rfl) (by rfl) ?_
         simp only [Act.put, List.setIfInBounds_toArray, List.set_cons_succ, List.set_cons_zero]
         refine flow_off rfl (by kernel_rfl) (by rfl) ?_
         simp only [Act.put, List.setIfInBounds_toArray, List.set_cons_succ, List.set_cons_zero]
         refine flow_off rfl (by kernel_rfl) (by rfl) ?_
         simp only [Act.put, List.setIfInBounds_toArray, List.set_cons_succ, List.set_cons_zero]
         refine flow_off rfl (by kernel_rfl) (by rfl) ?_
         simp only [Act.put, List.setIfInBounds_toArray, List.set_cons_succ, List.set_cons_zero]
         refine flow_off rfl (by kernel_rfl) (by rfl) ?_
         simp only [Act.put, List.setIfInBounds_toArray, List.set_cons_succ, List.set_cons_zero]
        refine flow_off rfl (by kernel_rfl) (by rfl) ?_
        simp only [Act.put, List.setIfInBounds_toArray, List.set_cons_succ, List.set_cons_zero]
        iterate 2
         refine flow_val ?_ rfl (by kernel_rfl) (by rfl) (fun W hW => ?_) ?_
         rotate_left 1
         · go_simp <;> with_reducible rfl
         simp only [Act.put, List.setIfInBounds_toArray, List.set_cons_succ, List.set_cons_zero]
        iterate 16
         refine flow_off rfl (by kernel_rfl) (by rfl) ?_
         simp only [Act.put, List.setIfInBounds_toArray, List.set_cons_succ, List.set_cons_zero]
        refine flow_val ?_ rfl (by kernel_rfl) (by rfl) (fun W hW => ?_) ?_
        rotate_left 1
        · go_simp <;> with_reducible rfl
        simp only [Act.put, List.setIfInBounds_toArray, List.set_cons_succ, List.set_cons_zero]
        refine flow_done ?_
        rintro W hW
        subst hW
        go_wp2
        go_ret
        exact ⟨ret_bool HBAD.out.symm, HBW.out.drew⟩
      · by_cases h1 : 1 ≤ n
        · have hd1 : decide (n < 1) = false := by simp; omega
          cases hmc : mayC n
          · have h2 : ¬ n ≤ 1099511627776 := fun h => by rw [show mayC n = true by simp [mayC, h]; omega] at hmc; cases hmc
            have HBAD : Hid (mayI l = false) := Lib.hid (mayI_bad hkl (by rw [HOK.out]; simp [okItem, h2]))
            have HMC := Lib.hid hmc
            clear hmc
            go_wp2_with fail
            refine wp_region_flow (fun W => W = wr.drew) [0, 1, 2, 3, 4, 5, 6, 7, 8, 9, 10, 11, 12, 13, 14, 15, 16, 17, 18, 19, 20, 21, 22, 23, 24, 25, 26, 27, 28, 29, 30, 31, 32, 33, 34, 35, 36, 37, 38, 39, 40, 41] (by kernel_rfl) (by kernel_rfl) (by kernel_rfl) (rfl) ?_
            iterate 5
             refine flow_val ?_ rfl (by kernel_rfl) (by rfl) (fun W hW => ?_) ?_
             rotate_left 1
             · go_simp <;> with_reducible rfl
             simp only [Act.put, List.setIfInBounds_toArray, List.set_cons_succ, List.set_cons_zero]
            refine flow_quiet (.bool true) rfl (by kernel_rfl) (by rfl) (fun W hW => ⟨_, _, by go_simp, HGO.out W hx1⟩) ?_
            simp only [Act.put, List.setIfInBounds_toArray, List.set_cons_succ, List.set_cons_zero]
            iterate 15
             refine flow_val ?_ rfl (by kernel_rfl) (by rfl) (fun W hW => ?_) ?_
             rotate_left 1
             · go_simp <;> with_reducible rfl
             simp only [Act.put, List.setIfInBounds_toArray, List.set_cons_succ, List.set_cons_zero]
            refine flow_quiet (.bool false) rfl (by kernel_rfl) (by rfl) (fun W hW => ⟨_, _, by go_simp, HMC.out ▸ xcmay_any n W⟩) ?_
            simp only [Act.put, List.setIfInBounds_toArray, List.set_cons_succ, List.set_cons_zero]
            iterate 3
             refine flow_val ?_ rfl (by kernel_rfl) (by rfl) (fun W hW => ?_) ?_
             rotate_left 1
             · go_simp <;> with_reducible rfl
             simp only [Act.put, List.setIfInBounds_toArray, List.set_cons_succ, List.set_cons_zero]
            iterate 16
             refine flow_off rfl (by kernel_rfl) (by rfl) ?_
             simp only [Act.put, List.setIfInBounds_toArray, List.set_cons_succ, List.set_cons_zero]
            refine flow_val ?_ rfl (by kernel_rfl) (by rfl) (fun W hW => ?_) ?_
            rotate_left 1
            · go_simp <;> with_reducible rfl
            simp only [Act.put, List.setIfInBounds_toArray, List.set_cons_succ, List.set_cons_zero]
            refine flow_done ?_
            rintro W hW
            subst hW
            go_wp2
            go_ret
            exact ⟨ret_bool HBAD.out.symm, HBW.out.drew⟩
          · have hn2 : n ≤ 1099511627776 := by simp [mayC] at hmc; omega
            have hoi : okItem ⟨gd, n⟩ = true := okItem_iff.2 ⟨HGD.out, h1, hn2⟩
            have HOI := Lib.hid hoi
            have HMC := Lib.hid hmc
            clear hmc hoi
            by_cases hk0 : k = 0
            · subst hk0
              simp only [Nat.zero_mul, Nat.add_zero] at c0 c1
              have HGOOD : Hid (okAt l 0 = true) := Lib.hid (by rw [HOK.out, HOI.out]; rfl)
              go_wp2_with fail
              refine wp_region_flow (fun W => W = wr.drew) [0, 1, 2, 3, 4, 5, 6, 7, 8, 9, 10, 11, 12, 13, 14, 15, 16, 17, 18, 19, 20, 21, 22, 23, 24, 25, 26, 27, 28, 29, 30, 31, 32, 33, 34, 35, 36, 37, 38, 39, 40, 41] (by kernel_rfl) (by kernel_rfl) (by kernel_rfl) (rfl) ?_
              iterate 5
               refine flow_val ?_ rfl (by kernel_rfl) (by rfl) (fun W hW => ?_) ?_
               rotate_left 1
               · go_simp <;> with_reducible rfl
               simp only [Act.put, List.setIfInBounds_toArray, List.set_cons_succ, List.set_cons_zero]
              refine flow_quiet (.bool true) rfl (by kernel_rfl) (by rfl) (fun W hW => ⟨_, _, by go_simp, HGO.out W hx1⟩) ?_
              simp only [Act.put, List.setIfInBounds_toArray, List.set_cons_succ, List.set_cons_zero]
              iterate 15
               refine flow_val ?_ rfl (by kernel_rfl) (by rfl) (fun W hW => ?_) ?_
               rotate_left 1
               · go_simp <;> with_reducible rfl
               simp only [Act.put, List.setIfInBounds_toArray, List.set_cons_succ, List.set_cons_zero]
              refine flow_quiet (.bool true) rfl (by kernel_rfl) (by rfl) (fun W hW => ⟨_, _, by go_simp, HMC.out ▸ xcmay_any n W⟩) ?_
              simp only [Act.put, List.setIfInBounds_toArray, List.set_cons_succ, List.set_cons_zero]
              iterate 6
               refine flow_val ?_ rfl (by kernel_rfl) (by rfl) (fun W hW => ?_) ?_
               rotate_left 1
               · go_simp <;> with_reducible rfl
               simp only [Act.put, List.setIfInBounds_toArray, List.set_cons_succ, List.set_cons_zero]
              iterate 12
               refine flow_off rfl (by kernel_rfl) (by rfl) ?_
               simp only [Act.put, List.setIfInBounds_toArray, List.set_cons_succ, List.set_cons_zero]
              iterate 2
               refine flow_val ?_ rfl (by kernel_rfl) (by rfl) (fun W hW => ?_) ?_
               rotate_left 1
               · go_simp <;> with_reducible rfl
               simp only [Act.put, List.setIfInBounds_toArray, List.set_cons_succ, List.set_cons_zero]
              refine flow_done ?_
              rintro W hW
              subst hW
              go_wp2_with fail
              go_roundw
              case rel =>
                refine ⟨0 + 1, by omega, by go_num, fun i hi => ?_, HBW.out.drew⟩
                rcases Nat.lt_or_ge i (0) with h | h
                · exact HALL.out i h
                · obtain rfl : i = 0 := by omega
                  exact HGOOD.out
              case measure => simp [intOf]; omega
            · obtain ⟨j, hj⟩ : ∃ j, j + 1 = k := ⟨k - 1, by omega⟩
              have hjl : j < l.length := by omega
              obtain ⟨_, _, e1, _, p0, _⟩ := rdi_at (HRD.out.below HBW.out) hjl
              injection e1 with e1
              injection e1 with e1 e2
              subst e1; subst e2
              obtain ⟨LG, hLG⟩ : ∃ LG, l[j].good = LG := ⟨_, rfl⟩
              rw [hLG] at p0
              obtain ⟨LT, hLT⟩ : ∃ LT, ltS LG gd = LT := ⟨_, rfl⟩
              have HOK2 : Hid (okAt l k = LT) := Lib.hid (by
                rw [HOK.out, HOI.out, Bool.true_and]
                subst hj
                simp only [List.getElem?_eq_getElem hjl, hLG, hLT])
              have hlt2 : Op.bytesLess LG.toList gd.toList = LT := hLT
              have hw1 : IntKind.i64.wrap ((k : Int) - 1) = (j : Int) := by rw [show ((k : Int) - 1) = (j : Int) by omega]; exact IntWalk.i64_in _ (by omega)
              have hgt : decide ((k : Int) > 0) = true := by simp; omega
              have hgt' : decide (0 < (k : Int)) = true := by simp; omega
              have hjm : j < m := by omega
              have hgn : decide (0 < k) = true := by simp; omega
              clear hLG hLT HOK hj
              cases LT
              · have HBAD : Hid (mayI l = false) := Lib.hid (mayI_bad hkl HOK2.out)
                go_wp2_with fail
                refine wp_region_flow (fun W => W = wr.drew) [0, 1, 2, 3, 4, 5, 6, 7, 8, 9, 10, 11, 12, 13, 14, 15, 16, 17, 18, 19, 20, 21, 22, 23, 24, 25, 26, 27, 28, 29, 30, 31, 32, 33, 34, 35, 36, 37, 38, 39, 40, 41] (by kernel_rfl) (by kernel_rfl) (by kernel_rfl) (rfl) ?_
                iterate 5
                 refine flow_val ?_ rfl (by kernel_rfl) (by rfl) (fun W hW => ?_) ?_
                 rotate_left 1
                 · go_simp <;> with_reducible rfl
                 simp only [Act.put, List.setIfInBounds_toArray, List.set_cons_succ, List.set_cons_zero]
                refine flow_quiet (.bool true) rfl (by kernel_rfl) (by rfl) (fun W hW => ⟨_, _, by go_simp, HGO.out W hx1⟩) ?_
                simp only [Act.put, List.setIfInBounds_toArray, List.set_cons_succ, List.set_cons_zero]
                iterate 15
                 refine flow_val ?_ rfl (by kernel_rfl) (by rfl) (fun W hW => ?_) ?_
                 rotate_left 1
                 · go_simp <;> with_reducible rfl
                 simp only [Act.put, List.setIfInBounds_toArray, List.set_cons_succ, List.set_cons_zero]
                refine flow_quiet (.bool true) rfl (by kernel_rfl) (by rfl) (fun W hW => ⟨_, _, by go_simp, HMC.out ▸ xcmay_any n W⟩) ?_
                simp only [Act.put, List.setIfInBounds_toArray, List.set_cons_succ, List.set_cons_zero]
                iterate 20
                 refine flow_val ?_ rfl (by kernel_rfl) (by rfl) (fun W hW => ?_) ?_
                 rotate_left 1
                 · go_simp <;> with_reducible rfl
                 simp only [Act.put, List.setIfInBounds_toArray, List.set_cons_succ, List.set_cons_zero]
                refine flow_done ?_
                rintro W hW
                subst hW
                go_wp2
                go_ret
                exact ⟨ret_bool HBAD.out.symm, HBW.out.drew⟩
              · have HGOOD : Hid (okAt l k = true) := HOK2
                go_wp2_with fail
                refine wp_region_flow (fun W => W = wr.drew) [0, 1, 2, 3, 4, 5, 6, 7, 8, 9, 10, 11, 12, 13, 14, 15, 16, 17, 18, 19, 20, 21, 22, 23, 24, 25, 26, 27, 28, 29, 30, 31, 32, 33, 34, 35, 36, 37, 38, 39, 40, 41] (by kernel_rfl) (by kernel_rfl) (by kernel_rfl) (rfl) ?_
                iterate 5
                 refine flow_val ?_ rfl (by kernel_rfl) (by rfl) (fun W hW => ?_) ?_
                 rotate_left 1
                 · go_simp <;> with_reducible rfl
                 simp only [Act.put, List.setIfInBounds_toArray, List.set_cons_succ, List.set_cons_zero]
                refine flow_quiet (.bool true) rfl (by kernel_rfl) (by rfl) (fun W hW => ⟨_, _, by go_simp, HGO.out W hx1⟩) ?_
                simp only [Act.put, List.setIfInBounds_toArray, List.set_cons_succ, List.set_cons_zero]
                iterate 15
                 refine flow_val ?_ rfl (by kernel_rfl) (by rfl) (fun W hW => ?_) ?_
                 rotate_left 1
                 · go_simp <;> with_reducible rfl
                 simp only [Act.put, List.setIfInBounds_toArray, List.set_cons_succ, List.set_cons_zero]
                refine flow_quiet (.bool true) rfl (by kernel_rfl) (by rfl) (fun W hW => ⟨_, _, by go_simp, HMC.out ▸ xcmay_any n W⟩) ?_
                simp only [Act.put, List.setIfInBounds_toArray, List.set_cons_succ, List.set_cons_zero]
                iterate 20
                 refine flow_val ?_ rfl (by kernel_rfl) (by rfl) (fun W hW => ?_) ?_
                 rotate_left 1
                 · go_simp <;> with_reducible rfl
                 simp only [Act.put, List.setIfInBounds_toArray, List.set_cons_succ, List.set_cons_zero]
                refine flow_done ?_
                rintro W hW
                subst hW
                go_wp2_with fail
                go_roundw
                case rel =>
                  refine ⟨k + 1, by omega, by go_num, fun i hi => ?_, HBW.out.drew⟩
                  rcases Nat.lt_or_ge i (k) with h | h
                  · exact HALL.out i h
                  · obtain rfl : i = k := by omega
                    exact HGOOD.out
                case measure => simp [intOf]; omega
        · have hd1 : decide (n < 1) = true := by simp; omega
          have HBAD : Hid (mayI l = false) := Lib.hid (mayI_bad hkl (by rw [HOK.out]; simp [okItem, h1]))
          go_wp2_with fail
          refine wp_region_flow (fun W => W = wr.drew) [0, 1, 2, 3, 4, 5, 6, 7, 8, 9, 10, 11, 12, 13, 14, 15, 16, 17, 18, 19, 20, 21, 22, 23, 24, 25, 26, 27, 28, 29, 30, 31, 32, 33, 34, 35, 36, 37, 38, 39, 40, 41] (by kernel_rfl) (by kernel_rfl) (by kernel_rfl) (rfl) ?_
          iterate 5
           refine flow_val ?_ rfl (by kernel_rfl) (by rfl) (fun W hW => ?_) ?_
           rotate_left 1
           · go_simp <;> with_reducible rfl
           simp only [Act.put, List.setIfInBounds_toArray, List.set_cons_succ, List.set_cons_zero]
          refine flow_quiet (.bool true) rfl (by kernel_rfl) (by rfl) (fun W hW => ⟨_, _, by go_simp, HGO.out W hx1⟩) ?_
          simp only [Act.put, List.setIfInBounds_toArray, List.set_cons_succ, List.set_cons_zero]
          iterate 10
           refine flow_val ?_ rfl (by kernel_rfl) (by rfl) (fun W hW => ?_) ?_
           rotate_left 1
           · go_simp <;> with_reducible rfl
           simp only [Act.put, List.setIfInBounds_toArray, List.set_cons_succ, List.set_cons_zero]
          iterate 7
           refine flow_off rfl (by kernel_rfl) (by rfl) ?_
           simp only [Act.put, List.setIfInBounds_toArray, List.set_cons_succ, List.set_cons_zero]
          iterate 2
           refine flow_val ?_ rfl (by kernel_rfl) (by rfl) (fun W hW => ?_) ?_
           rotate_left 1
           · go_simp <;> with_reducible rfl
           simp only [Act.put, List.setIfInBounds_toArray, List.set_cons_succ, List.set_cons_zero]
          iterate 16
           refine flow_off rfl (by kernel_rfl) (by rfl) ?_
           simp only [Act.put, List.setIfInBounds_toArray, List.set_cons_succ, List.set_cons_zero]
          refine flow_val ?_ rfl (by kernel_rfl) (by rfl) (fun W hW => ?_) ?_
          rotate_left 1
          · go_simp <;> with_reducible rfl
          simp only [Act.put, List.setIfInBounds_toArray, List.set_cons_succ, List.set_cons_zero]
          refine flow_done ?_
          rintro W hW
          subst hW
          go_wp2
          go_ret
          exact ⟨ret_bool HBAD.out.symm, HBW.out.drew⟩
    · have hmay : mayI l = decide ((m : Int) ≤ 16) := by
        rw [mayI_all (fun j hj => HALL.out j (by have := HM.out; omega)), HM.out]
        exact decide_eq_decide.2 (by omega)
      have HMAY := Lib.hid hmay
      clear hmay
      go_wp2
      go_ret
      exact ⟨ret_bool HMAY.out.symm, HBW.out⟩
end Go.Proofs.Ytpccbobomppdbaa
