/- The reference's Tick. -/
import Derived.Test.YtnmbblkfaoihfaaZLY11
namespace Go.Proofs.Ytnmbblkfaoihfaa
open Go.RowKit

theorem flatL_one {W : World} {zs : List LIm} (h : ∀ z ∈ zs, ByO W z.bv z.it.body) : ∀ u ∈ zs.flatMap encL, u.oneCell' = true := by
  intro u hu
  obtain ⟨z, hz, hu⟩ := List.mem_flatMap.1 hu
  obtain ⟨A, n, c, hb⟩ := bv_form (h z hz)
  simp [encL, hb] at hu
  rcases hu with rfl | rfl | rfl | rfl <;> rfl
theorem own_none (w : World) (T : TypeId) : (w.alloc (.cells #[] T)).ownsRow w.heap.size T 4 (.slice (some ⟨w.heap.size, 0, none⟩) 0 0) 0 [] :=
  ⟨rfl, .inr ⟨w.heap.size, 0, #[], rfl, Nat.le_refl _, block_new _ _, Nat.le_refl _, by unfold maxLen; omega, rfl, rfl⟩⟩
/-- What holds between two rounds of Tick. -/
def RTickI (w : World) (s : LSt) (now : Int) (v6 : Value) (k : Nat) (ov : Value) (W : World) : Prop :=
  (∃ zs : List LIm, zs.map (·.it) = tickL now s.l k ∧ W.ownsRow w.heap.size 91 4 v6 s.l.length (zs.flatMap encL) ∧ ∀ z ∈ zs, ByO W z.bv z.it.body) ∧ IsPs w.heap.size W ov (tickQ now s.mark s.l k) ∧ Below w.heap.size w W

set_option maxRecDepth 100000 in
set_option maxHeartbeats 1000000 in
theorem rtick_any (p : Nat) (G : Option Nat) (s : LSt) (now : Int) (w : World) (h : IsX w p G s) (hn : s.l.length ≤ 1048576) (hI : ∀ x ∈ s.l, 0 ≤ x.tries ∧ x.tries < 9223372036854775807)
    (hnow : -9223372036854775808 ≤ now ∧ now ≤ 9223372036854775807) :
    Calls Try.prog 24 #[.pointer (some ⟨p, 0, none⟩), .int .i64 now] w (RetX p G (fun e w' => ∃ v, e = .returned v ∧ IsPs w.heap.size w' v (tickP s now)) (tickS s now) w) := by
  obtain ⟨i0, hi0, hz0, hz1, hz2⟩ := info_parts Try.infoRItem
  obtain ⟨i1, hi1, hy0, hy1, hy2⟩ := info_parts Try.infoPkt
  have HI := Lib.hid hI
  obtain ⟨v, h1, zs, hzs, h2, hG, h3⟩ := h
  obtain ⟨Av, cv, rfl, _, _, hrd, _⟩ := own_slice h2
  have c0 := cell_at h1 0
  have hp := lt_of_block h1
  have H1 := Lib.hid h1
  have H3 := Lib.hid h3
  have HZS := Lib.hid hzs
  have HRD := Lib.hid hrd
  clear h1 h2 h3 hzs hrd hG hI
  go_enter Try.func24, Try.ntmps24
  go_wp2_with (first
    | (at_builtin
       refine wpList_append_rd_at _ rfl (.tmp 8) (.tmp 12) 53 rfl w.heap.size 91 i0 (.agg #[.int .i64 0, .slice none 0 0, .int .i64 0, .int .i64 0]) 4 48 Try.underlying53 hi0 hz0 hz1 hz2 rfl (by decide) (.slice (some ⟨w.heap.size, 0, none⟩) 0 0) 0 [] rfl (own_none w _) Av s.l.length cv (zs.flatMap encL) rfl (HRD.out.below ((Below.refl _ _).alloc (Nat.le_refl _) _)) (flatL_one H3.out) (by unfold maxLen; omega) (by omega) (by simp) ?_
       intro v6 w6 hown6 hgrow6 _
       have HO6 := Lib.hid hown6
       have HB6 := Lib.hid ((Fr.grown (B := w.heap.size) (T := [91]) (S := []) ((Fr.refl w).alloc (.cells #[] 91)) hgrow6 (fun j hj => by
         simp [Value.ownBlock] at hj
         subst hj
         exact ⟨Nat.le_refl _, .inr ⟨_, _, _, block_new _ _, by simp⟩⟩)).below (Nat.le_refl _))
       clear hown6 hgrow6))
  obtain ⟨A6, c6, rfl, _, _, _, _⟩ := own_slice HO6.out
  simp only [Nat.zero_add]
  have HO6' : Hid (w6.ownsRow w.heap.size 91 4 (.slice A6 s.l.length c6) s.l.length (zs.flatMap encL)) := Lib.hid (by have := HO6.out; simpa using this)
  clear HO6 c0
  go_wp2_with fail
  go_loopw [5, 7] (fun ov kv wr => ∃ k : Nat, k ≤ s.l.length ∧ kv = .int .i64 k ∧ RTickI w s now (.slice A6 s.l.length c6) k ov wr) (fun _ kv _ => s.l.length - (intOf kv).toNat)
  case atStart => exact ⟨0, Nat.zero_le _, rfl, ⟨zs, by rw [tickL_zero]; exact HZS.out, HO6'.out, fun z hz => (H3.out z hz).frame (S := []) (T := []) (Fr.of_below HB6.out) (by simp) (by simp)⟩, ⟨[], rfl, World.ownsRow_nil _ _ _ _, by simp⟩, HB6.out⟩
  case round =>
    obtain ⟨k, hk, rfl, ⟨zk, hzk, hok, hbk⟩, hQ, hB⟩ := hrel
    by_cases hlt : k < s.l.length
    · obtain ⟨g, c6', e6⟩ := own_pos hok (by omega)
      injection e6 with e6 _ e7
      subst e6; subst e7
      obtain ⟨_, _, e8, _, _, hrd, _⟩ := own_slice hok
      injection e8 with e8 _ e9
      subst e8; subst e9
      obtain ⟨_, _, e8, hgl, hcell⟩ := hrd.2 (by omega)
      injection e8 with e8
      injection e8 with e8 e9
      subst e8; subst e9
      have hzl : zk.length = s.l.length := by
        have := congrArg List.length hzk
        simpa [tickL_len] using this
      have hkz : k < zk.length := by omega
      have hzkk : zk[k].it = s.l[k] := by
        have h1 : (zk.map (·.it))[k]'(by simpa using hkz) = (tickL now s.l k)[k]'(by rw [tickL_len]; exact hlt) := by simp only [hzk]
        rw [tickL_at now s.l k hlt] at h1
        simpa using h1
      have hat := fun j (hj : j < 4) => flatL_at zk k j hkz hj
      simp only [Nat.zero_add] at hcell
      have k0 : wr.cell? ⟨g, k * 4, none⟩ = some (.int .i64 s.l[k].seq) := hcell (k * 4 + 0) _ ((hat 0 (by omega)).trans (by simp only [encL, hzkk]; rfl))
      have k2 : wr.cell? ⟨g, k * 4 + 2, none⟩ = some (.int .i64 s.l[k].tries) := hcell (k * 4 + 2) _ ((hat 2 (by omega)).trans (by simp only [encL, hzkk]; rfl))
      have k3 : wr.cell? ⟨g, k * 4 + 3, none⟩ = some (.int .i64 s.l[k].due) := hcell (k * 4 + 3) _ ((hat 3 (by omega)).trans (by simp only [encL, hzkk]; rfl))
      have hbk0 : ByO wr zk[k].bv s.l[k].body := by
        have := hbk zk[k] (List.getElem_mem _)
        rwa [hzkk] at this
      obtain ⟨Ab, cb, hbv, _, _, _, _⟩ := byo_slice hbk0
      have k1 : wr.cell? ⟨g, k * 4 + 1, none⟩ = some (.slice Ab s.l[k].body.length cb) := hcell (k * 4 + 1) _ ((hat 1 (by omega)).trans (by simp only [encL, hbv]; rfl))
      have hbv0 := hbv
      rw [hbv] at hbk0
      obtain ⟨hgb, csg, hgr⟩ := own_block hok (by simp [Value.ownBlock] : (Value.slice (some ⟨g, 0, none⟩) s.l.length c6).ownBlock = some g)
      have p1 := (hB.block p hp).trans H1.out
      have m2 := cell_at p1 2
      have hik := HI.out s.l[k] (List.getElem_mem _)
      have hqs := tickQ_succ now s.mark s.l k hlt
      have hts := tickL_succ now s.l k hlt
      have HQ := Lib.hid hQ
      obtain ⟨qs, hq1, hq2, hq3⟩ := hQ
      have hql := tickQ_len now s.mark s.l k
      obtain ⟨nq, hnq⟩ : ∃ nq, (tickQ now s.mark s.l k).length = nq := ⟨_, rfl⟩
      rw [hnq] at hq2 hql
      obtain ⟨x, hx⟩ : ∃ x, s.l[k] = x := ⟨_, rfl⟩
      rw [hx] at k0 k1 k2 k3 hik hqs hts hbk0 hbv0
      rw [hx] at hzkk
      have HX := Lib.hid hx
      have HZK := Lib.hid hzk
      have HZKK := Lib.hid hzkk
      have HBV := Lib.hid hbv0
      have HOK := Lib.hid hok
      have HBK := Lib.hid hbk
      have HB := Lib.hid hB
      have HGR := Lib.hid hgr
      have HP1 := Lib.hid p1
      have HBK0 := Lib.hid hbk0
      have HQS := Lib.hid hqs
      have HTS := Lib.hid hts
      have HQ1 := Lib.hid hq1
      have HQ2 := Lib.hid hq2
      have HQ3 := Lib.hid hq3
      have HNQ := Lib.hid hnq
      have HZL := Lib.hid hzl
      clear hzk hok hbk hrd hcell hat hbv hbv0 hgr p1 hzkk hbk0 hqs hts hq1 hq2 hq3 hnq hB hzl hx HB6 HO6'
      by_cases hd : x.due ≤ now
      · have HD := Lib.hid hd
        obtain ⟨Ao, co, rfl, _, _, _, _⟩ := own_slice HQ2.out
        have hSp : p ∉ (Value.slice Ao nq co).ownBlock.toList := fun hm => by
          have := (own_block HQ2.out (by simpa using hm : (Value.slice Ao nq co).ownBlock = some p)).1
          omega
        have hSg : g ∉ (Value.slice Ao nq co).ownBlock.toList := fun hm => by
          obtain ⟨_, cs, hc⟩ := own_block HQ2.out (by simpa using hm : (Value.slice Ao nq co).ownBlock = some g)
          exact block_ne hc HGR.out (by decide) rfl
        have hpl : p < wr.heap.size := lt_of_block HP1.out
        have hgl2 : g < wr.heap.size := lt_of_block HGR.out
        have P2 := Lib.hid m2
        have K0 := Lib.hid k0
        have K1 := Lib.hid k1
        have K2 := Lib.hid k2
        have K3 := Lib.hid k3
        go_wp2_with fail
        refine wp_region_flow2 (fun W => Fr 0 [] (Value.slice Ao nq co).ownBlock.toList wr W) (fun W => W.ownsRow w.heap.size 43 3 (.slice Ao nq co) nq (qs.flatMap encP)) [0, 1, 2, 3, 4, 5, 6, 7, 8, 9, 10, 11, 12, 13, 14, 15, 16, 17, 18] (by kernel_rfl) (by kernel_rfl) (by kernel_rfl) ((Fr.refl wr).drew) (HQ2.out) ?_
        refine flow_val ?_ rfl (by kernel_rfl) (by rfl) (fun W hW => ?_) ?_
        rotate_left 1
        · go_simp <;> with_reducible rfl
        simp only [Act.put, List.setIfInBounds_toArray, List.set_cons_succ, List.set_cons_zero]
        refine flow_val ?_ rfl (by kernel_rfl) (by rfl) (fun W hW => ?_) ?_
        rotate_left 1
        · go_simp <;> with_reducible rfl
        simp only [Act.put, List.setIfInBounds_toArray, List.set_cons_succ, List.set_cons_zero]
        refine flow_val ?_ rfl (by kernel_rfl) (by rfl) (fun W hW => ?_) ?_
        rotate_left 1
        · go_simp <;> with_reducible rfl
        simp only [Act.put, List.setIfInBounds_toArray, List.set_cons_succ, List.set_cons_zero]
        refine flow_val ?_ rfl (by kernel_rfl) (by rfl) (fun W hW => ?_) ?_
        rotate_left 1
        · go_simp <;> with_reducible rfl
        simp only [Act.put, List.setIfInBounds_toArray, List.set_cons_succ, List.set_cons_zero]
        refine flow_val ?_ rfl (by kernel_rfl) (by rfl) (fun W hW => ?_) ?_
        rotate_left 1
        · go_simp <;> with_reducible rfl
        simp only [Act.put, List.setIfInBounds_toArray, List.set_cons_succ, List.set_cons_zero]
        refine flow_val ?_ rfl (by kernel_rfl) (by rfl) (fun W hW => ?_) ?_
        rotate_left 1
        · have c1 : W.cell? ⟨g, k * 4, none⟩ = some (.int .i64 x.seq) := (Fr.cellS hW hgl2 hSg).trans K0.out; go_simp <;> with_reducible rfl
        simp only [Act.put, List.setIfInBounds_toArray, List.set_cons_succ, List.set_cons_zero]
        refine flow_val ?_ rfl (by kernel_rfl) (by rfl) (fun W hW => ?_) ?_
        rotate_left 1
        · go_simp <;> with_reducible rfl
        simp only [Act.put, List.setIfInBounds_toArray, List.set_cons_succ, List.set_cons_zero]
        refine flow_val ?_ rfl (by kernel_rfl) (by rfl) (fun W hW => ?_) ?_
        rotate_left 1
        · go_simp <;> with_reducible rfl
        simp only [Act.put, List.setIfInBounds_toArray, List.set_cons_succ, List.set_cons_zero]
        refine flow_val ?_ rfl (by kernel_rfl) (by rfl) (fun W hW => ?_) ?_
        rotate_left 1
        · go_simp <;> with_reducible rfl
        simp only [Act.put, List.setIfInBounds_toArray, List.set_cons_succ, List.set_cons_zero]
        refine flow_val ?_ rfl (by kernel_rfl) (by rfl) (fun W hW => ?_) ?_
        rotate_left 1
        · have c1 : W.cell? ⟨p, 2, none⟩ = some (.int .i64 s.mark) := (Fr.cellS hW hpl hSp).trans P2.out; go_simp <;> with_reducible rfl
        simp only [Act.put, List.setIfInBounds_toArray, List.set_cons_succ, List.set_cons_zero]
        refine flow_val ?_ rfl (by kernel_rfl) (by rfl) (fun W hW => ?_) ?_
        rotate_left 1
        · go_simp <;> with_reducible rfl
        simp only [Act.put, List.setIfInBounds_toArray, List.set_cons_succ, List.set_cons_zero]
        refine flow_val ?_ rfl (by kernel_rfl) (by rfl) (fun W hW => ?_) ?_
        rotate_left 1
        · go_simp <;> with_reducible rfl
        simp only [Act.put, List.setIfInBounds_toArray, List.set_cons_succ, List.set_cons_zero]
        refine flow_val ?_ rfl (by kernel_rfl) (by rfl) (fun W hW => ?_) ?_
        rotate_left 1
        · go_simp <;> with_reducible rfl
        simp only [Act.put, List.setIfInBounds_toArray, List.set_cons_succ, List.set_cons_zero]
        refine flow_val ?_ rfl (by kernel_rfl) (by rfl) (fun W hW => ?_) ?_
        rotate_left 1
        · go_simp <;> with_reducible rfl
        simp only [Act.put, List.setIfInBounds_toArray, List.set_cons_succ, List.set_cons_zero]
        refine flow_val ?_ rfl (by kernel_rfl) (by rfl) (fun W hW => ?_) ?_
        rotate_left 1
        · have c1 : W.cell? ⟨g, k * 4 + 1, none⟩ = some (.slice Ab x.body.length cb) := (Fr.cellS hW hgl2 hSg).trans K1.out; go_simp <;> with_reducible rfl
        simp only [Act.put, List.setIfInBounds_toArray, List.set_cons_succ, List.set_cons_zero]
        refine flow_val ?_ rfl (by kernel_rfl) (by rfl) (fun W hW => ?_) ?_
        rotate_left 1
        · go_simp <;> with_reducible rfl
        simp only [Act.put, List.setIfInBounds_toArray, List.set_cons_succ, List.set_cons_zero]
        refine flow_gmake (fun v W => ∃ g', v = .slice (some ⟨g', 0, none⟩) 1 1 ∧ W.heap[g']? = some (.cells #[.int .i64 x.seq, .int .i64 s.mark, .slice Ab x.body.length cb] 43 (0, 0)) ∧ W.ownsRow w.heap.size 43 3 (.slice Ao nq co) nq (qs.flatMap encP)) rfl (by kernel_rfl) (by rfl) (by kernel_rfl) (fun W hW hC => ⟨_, _, by go_simp <;> with_reducible rfl, hW.alloc _, ⟨_, rfl, block_new _ _, (Fr.of_below (B := 0) (T := []) (S := []) ((Below.refl _ W).alloc (Nat.le_refl _) _)).own hC (by simp) (by simp)⟩⟩) ?_
        rintro v43 ⟨_, _, g', rfl, _, _⟩
        simp only [Act.put, List.setIfInBounds_toArray, List.set_cons_succ, List.set_cons_zero]
        refine flow_gmake (fun v W => W.ownsRow w.heap.size 43 3 v (nq + 1) (qs.flatMap encP ++ [.int .i64 x.seq, .int .i64 s.mark, .slice Ab x.body.length cb])) rfl (by kernel_rfl) (by rfl) (by kernel_rfl) (fun W hW hC => ?_) ?_
        · obtain ⟨g2, e2, hg2, ho2⟩ := hC
          injection e2 with e2 _ _
          injection e2 with e2
          injection e2 with e2 _ _
          subst e2
          refine exec_append_at (.tmp 27) (.tmp 43) 34 rfl w.heap.size 43 i1 (.agg #[.int .i64 0, .int .i64 0, .slice none 0 0]) 3 40 Try.underlying34 hi1 hy0 hy1 hy2 rfl (by decide) (.slice Ao nq co) _ _ rfl ho2 (some ⟨g', 0, none⟩) 1 1 [.int .i64 x.seq, .int .i64 s.mark, .slice Ab x.body.length cb] rfl ⟨rfl, fun _ => ⟨_, _, rfl, lt_of_block hg2, fun j u hu => ?_⟩⟩ (by simp [Value.oneCell']) (by unfold maxLen; omega) (by omega) (Nat.le_trans HB.out.size hW.1.size) (fun v' w' x2 x3 _ => ?_)
          · have hj : j = 0 ∨ j = 1 ∨ j = 2 := by
              have := (List.getElem?_eq_some_iff.1 hu).1
              simp at this; omega
            rcases hj with rfl | rfl | rfl <;> (simp at hu; subst hu; rw [cell_at hg2]; rfl)
          · exact ⟨⟨hW.1.grown x3 (fun j hj => ⟨Nat.zero_le _, .inl (by simpa using hj)⟩), trivial⟩, x2⟩
        rintro v44 ⟨_, _, hv44⟩
        obtain ⟨g44, c44, rfl⟩ := own_succ hv44
        clear hv44
        simp only [Act.put, List.setIfInBounds_toArray, List.set_cons_succ, List.set_cons_zero]
        refine flow_val ?_ rfl (by kernel_rfl) (by rfl) (fun W hW => ?_) ?_
        rotate_left 1
        · go_simp <;> with_reducible rfl
        simp only [Act.put, List.setIfInBounds_toArray, List.set_cons_succ, List.set_cons_zero]
        refine flow_done2 ?_
        intro W7 hS7 ho7
        obtain ⟨⟨hS7, _⟩, _⟩ := hS7
        have k2 := (hS7.cellS hgl2 hSg).trans K2.out
        have k3 := (hS7.cellS hgl2 hSg).trans K3.out
        have hg7 := (hS7.block g hgl2 (.inr ⟨fun _ _ _ _ => by simp, hSg⟩)).trans HGR.out
        have z2 := frozen_at hg7 (k * 4 + 2)
        have z3 := frozen_at hg7 (k * 4 + 3)
        have HG7 := Lib.hid hg7
        have HS7 := Lib.hid hS7
        have HO7 := Lib.hid ho7
        have ht1 : x.tries + 1 ≤ 9223372036854775807 := by omega
        have ht0 : 0 ≤ x.tries ∧ x.tries ≤ 9223372036854775807 := by omega
        clear hS7 ho7 hg7 k0 k1 m2 hd
        go_wp2_with (go_at_call 46; refine (rnext_any now x.tries _ hnow ht0).mono ?_; rintro e w8 ⟨rfl, rfl⟩)
        go_roundw
        case rel =>
          have byo : ∀ {b : Value} {l : List Nat}, ByO wr b l → ByO W7 b l := fun h => h.frame HS7.out (by simp) (fun j hj cs fz e => by
            obtain ⟨_, cs2, hc⟩ := own_block HQ2.out (by simpa using hj : (Value.slice Ao nq co).ownBlock = some j)
            rw [hc] at e
            injection e with e
            injection e with _ e _
            exact absurd e (by decide))
          have hrow := rtick_row (k := k) hkz (HS7.out.own HOK.out (by simp) (fun j hj hm => by simp [Value.ownBlock] at hj; subst hj; exact hSg hm)) HZL.out (nextL now x.tries) (x.tries + 1)
          have f1 : Fr 0 [] [g] W7 ((W7.setCell ⟨g, k * 4 + 3, none⟩ (.int .i64 (nextL now x.tries))).setCell ⟨g, k * 4 + 2, none⟩ (.int .i64 (x.tries + 1))) :=
            ((Fr.refl W7).setCell (p := ⟨g, k * 4 + 3, none⟩) _ (Nat.zero_le _) (.inl (by simp))).setCell (p := ⟨g, k * 4 + 2, none⟩) _ (Nat.zero_le _) (.inl (by simp))
          refine ⟨k + 1, hlt, by go_num, ⟨_, ?_, hrow, fun z hz => ?_⟩, ?_, ?_⟩
          · rw [HTS.out, ← HZK.out, List.map_set]
            simp only [HZKK.out, tickI, HD.out, if_true]
          · rcases List.mem_or_eq_of_mem_set hz with hz | rfl
            · exact (byo (HBK.out z hz)).far f1 HG7.out (by decide)
            · exact (byo (HBK.out zk[k] (List.getElem_mem _))).far f1 HG7.out (by decide)
          · rw [HQS.out, if_pos HD.out]
            refine ⟨qs ++ [(⟨x.seq, s.mark, x.body⟩, .slice Ab x.body.length cb)], by simp [HQ1.out], ?_, fun z hz => ?_⟩
            · have := f1.own HO7.out (by simp) (fun j hj hm => by
                obtain ⟨_, cs2, hc⟩ := own_block HO7.out hj
                simp at hm
                subst hm
                exact block_ne hc HG7.out (by decide) rfl)
              simpa [encP, HNQ.out] using this
            · rcases List.mem_append.1 hz with hz | hz
              · exact (byo (HQ3.out z hz)).far f1 HG7.out (by decide)
              · rw [List.mem_singleton.1 hz]
                exact (byo HBK0.out).far f1 HG7.out (by decide)
          · have hb7 : Below w.heap.size wr W7 := ⟨HS7.out.os, HS7.out.tape, HS7.out.output, HS7.out.size, fun j hj => HS7.out.block j (by have := HB.out.size; omega) (.inr ⟨fun _ _ _ _ => by simp, fun hm => by
              have := (own_block HQ2.out (by simpa using hm : (Value.slice Ao nq co).ownBlock = some j)).1
              omega⟩)⟩
            exact (((HB.out.trans hb7).setCell (p := ⟨g, k * 4 + 3, none⟩) hgb _).setCell (p := ⟨g, k * 4 + 2, none⟩) hgb _)
        case measure => simp [intOf]; omega
      · have HD := Lib.hid hd
        go_wp2_with fail
        go_roundw
        case rel => exact ⟨k + 1, hlt, by go_num, ⟨zk, by
          have e : tickI now x = x := by unfold tickI; rw [if_neg HD.out]
          have e2 : (tickL now s.l k).set k x = tickL now s.l k := by rw [← HX.out, ← tickL_at now s.l k hlt]; exact List.set_getElem_self _
          rw [HTS.out, e, e2]; exact HZK.out, HOK.out, HBK.out⟩, by rw [HQS.out, if_neg HD.out]; exact HQ.out, HB.out⟩
        case measure => simp [intOf]; omega
    · obtain rfl : k = s.l.length := by omega
      rw [tickL_all] at hzk
      have p1 := (hB.block p hp).trans H1.out
      have q1 := cell_at p1 0
      have q2 := frozen_at p1 0
      have HP1 := Lib.hid p1
      have HZK := Lib.hid hzk
      have HOK := Lib.hid hok
      have HBK := Lib.hid hbk
      have HQ := Lib.hid hQ
      have HB := Lib.hid hB
      clear hzk hok hbk hQ hB p1 HB6 HO6'
      go_wp2
      go_ret
      have hzl : zk.length = s.l.length := by
        have := congrArg List.length HZK.out
        simpa using this
      have hE := isx_set0 HP1.out (own_low (by rw [hzl]; exact HOK.out) (Nat.zero_le _)) HZK.out HBK.out
      have fs : Fr 0 [] [p] wr (wr.setCell ⟨p, 0, none⟩ (.slice A6 s.l.length c6)) := (Fr.refl wr).setCell (p := ⟨p, 0, none⟩) _ (Nat.zero_le _) (.inl (by simp))
      have hbo : ∀ {b : Value} {l : List Nat}, ByO wr b l → ByO (wr.setCell ⟨p, 0, none⟩ (.slice A6 s.l.length c6)) b l := fun h => h.far fs HP1.out (by decide)
      refine ⟨_, ⟨_, rfl, ?_⟩, hE, (Fr.of_below HB.out).setCell (p := ⟨p, 0, none⟩) _ (Nat.zero_le _) (.inl (by simp)), fun g hg => .inr (own_block HOK.out hg).1⟩
      obtain ⟨qs, hq1, hq2, hq3⟩ := HQ.out
      have e : tickQ now s.mark s.l s.l.length = tickP s now := by simp [tickQ, tickP]
      rw [e] at hq1 hq2
      exact ⟨qs, hq1, fs.own hq2 (by simp) (fun j hj hm => by
        obtain ⟨_, cs2, hc⟩ := own_block hq2 hj
        simp at hm
        subst hm
        exact block_ne hc HP1.out (by decide) rfl), fun z hz => hbo (hq3 z hz)⟩
end Go.Proofs.Ytnmbblkfaoihfaa
