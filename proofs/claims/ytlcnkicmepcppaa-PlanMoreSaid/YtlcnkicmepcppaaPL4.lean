/- The walk of the law PlanMore. -/
import Derived.Test.YtlcnkicmepcppaaXPMay
import Derived.Test.YtlcnkicmepcppaaPLives
import Derived.Test.YtlcnkicmepcppaaPPlain2
namespace Go.Proofs.Ytlcnkicmepcppaa
open Go.RowKit

section
variable {P : Program} (w : World)
theorem wpList_append_rdG {ops : Array Oper} {rest : List Oper} {o : Oper} {a : Act} {Q : Exit → Act → World → Prop} (hgd : Region.wanted o (yielded ops a.tmps) = true) (s x : Operand) (t : TypeId)
    (ho : o.op = .call { callee := .builtin .append, args := #[s, x], argTypes := #[t, t] })
    (base : Nat) (e : TypeId) (i : TypeInfo) (z : Value) (size bytes : Nat) (ht : P.underlying t = some (.slice e)) (hi : P.info? e = some i) (hz : i.zero = some z)
    (hsize : i.size = size) (hby : i.bytes = bytes) (hzs : z.cells.size = size) (hsz : 0 < size)
    (v : Value) (n : Nat) (xs : List Value) (hs : a.eval s = v) (hown : w.ownsRow base e size v n xs)
    (A : Option Addr) (m c : Nat) (news : List Value) (hx : a.eval x = .slice A m c) (hr : Rd w size A m news) (h1 : ∀ u ∈ news, u.oneCell' = true)
    (h63 : n + m ≤ maxLen) (hbytes : (n + m) * bytes ≤ 140737488355328) (hbase : base ≤ w.heap.size)
    (h : ∀ v' w', w'.ownsRow base e size v' (n + m) (xs ++ news) → w.grownBy w' v.ownBlock → (v' = .slice none 0 0 → v = .slice none 0 0 ∧ m = 0) → wpList P ops Q rest (a.put o.dst v') w') : wpList P ops Q (o :: rest) a w :=
  wpList_step fun K hK => by
    rw [if_pos hgd]
    exact wp_append_rd w s x t ho base e i z size bytes ht hi hz hsize hby hzs hsz v n xs hs hown A m c news hx hr h1 h63 hbytes hbase fun v' w' h2 h3 h4 => hK _ _ (h v' w' h2 h3 h4)
end
theorem join_rd {W : World} {hs : List Value} {ls : List (List It)} {u : Value} {l : List It} (hl : hs.length = ls.length) (h : ∀ (j : Nat) (hj : j < ls.length), ∃ u, hs[j]? = some u ∧ RdI W u ls[j]) (hu : RdI W u l) :
    ∀ (j : Nat) (hj : j < (ls ++ [l]).length), ∃ u', (hs ++ [u])[j]? = some u' ∧ RdI W u' (ls ++ [l])[j] := by
  intro j hj
  by_cases hjk : j < ls.length
  · obtain ⟨x, h1, h2⟩ := h j hjk
    exact ⟨x, by rw [List.getElem?_append_left (by omega)]; exact h1, by rw [List.getElem_append_left hjk]; exact h2⟩
  · have e : j = ls.length := by simp at hj; omega
    subst e
    exact ⟨u, by rw [List.getElem?_append_right (by omega), hl]; simp, by rw [List.getElem_append_right (by omega)]; simpa using hu⟩
set_option maxRecDepth 100000 in
set_option maxHeartbeats 2000000 in
theorem pmore_any (v1 v2 v3 : Value) (want : List It) (offers : List (List It)) (more : List It) (w : World) (h1 : RdI w v1 want) (h2 : RdII w v2 offers) (h3 : RdI w v3 more) (hb1 : BdL want) (hb2 : ∀ l ∈ offers, BdL l) (hb3 : BdL more) (hm : offers.length ≤ 4611686018427387903) :
    Calls Try.prog 6 #[v1, v2, v3] w fun e W => e = .returned (.bool true) ∧ Below w.heap.size w W := by
  obtain ⟨i0, hi0, hz0, hz1, hz2⟩ := info_parts Try.infoItems
  have HS := Lib.hid (psmall_any v1 v2 want offers w h1 h2)
  have H1 := Lib.hid h1
  have H2 := Lib.hid h2
  have H3 := Lib.hid h3
  obtain ⟨A1, c1, rfl, _, _, _⟩ := h1
  obtain ⟨A3, c3, rfl, _, _, _⟩ := h3
  obtain ⟨A2, c2, hs2, rfl, hc1, hc2, hr, hi⟩ := h2
  obtain ⟨m, hm2⟩ : ∃ m, offers.length = m := ⟨_, rfl⟩
  have HM := Lib.hid hm2
  obtain ⟨n1, hn1⟩ : ∃ n1, want.length = n1 := ⟨_, rfl⟩
  obtain ⟨n3, hn3⟩ : ∃ n3, more.length = n3 := ⟨_, rfl⟩
  obtain ⟨SP, hSP⟩ : ∃ SP, smallP want offers = SP := ⟨_, rfl⟩
  have HONE : Hid (∀ u ∈ hs2, u.oneCell' = true) := Lib.hid (fun u hu => by
    obtain ⟨j, hj, rfl⟩ := List.getElem_of_mem hu
    obtain ⟨u', hu', A', c', e', _⟩ := hi j (by have := hr.1; omega)
    rw [List.getElem?_eq_getElem hj] at hu'
    injection hu' with hu'
    rw [hu', e']; rfl)
  have HB := Lib.hid hb2
  have HB3 : Hid (∀ l ∈ offers ++ [more], BdL l) := Lib.hid (fun l hl => by
    rcases List.mem_append.1 hl with h | h
    · exact hb2 l h
    · rw [List.mem_singleton.1 h]; exact hb3)
  have HL3 : Hid ((offers ++ [more]).length ≤ 4611686018427387904) := Lib.hid (by simp; omega)
  have HMO : Hid (offers.length ≤ 4611686018427387903) := Lib.hid hm
  rw [hSP] at HS
  rw [hm2] at HS H2 hm hc1 hr ⊢
  rw [hn1] at HS H1 ⊢
  rw [hn3] at H3 ⊢
  have HJO : Hid (∀ W B A c, Below w.heap.size w W → W.ownsRow B 26 1 (.slice A (m + 1) c) (m + 1) (hs2 ++ [.slice A3 n3 c3]) → RdII W (.slice A (m + 1) c) (offers ++ [more])) := Lib.hid (fun W B A c hW ho => by
    obtain ⟨A', c', e', k1, k2, k3, _⟩ := own_slice ho
    have hlen : (offers ++ [more]).length = m + 1 := by have := HM.out; simp; omega
    refine ⟨A', c', _, by rw [hlen]; exact e', by rw [hlen]; exact k1, k2, by rw [hlen]; exact k3, ?_⟩
    exact join_rd (by have := hr.1; have := HM.out; omega) (fun j hj => by obtain ⟨u, q1, q2⟩ := hi j hj; exact ⟨u, q1, q2.below hW⟩) (H3.out.below hW))
  clear hn1 hm2 hn3 hSP hb2
  go_enter Try.func6, Try.ntmps6
  go_wp2_with fail
  refine HS.out.mono ?_
  rintro e w1 ⟨rfl, rfl⟩
  cases SP
  · go_wp2_with fail
    refine (plives_any w).mono ?_
    rintro e w1 ⟨rfl, hb⟩
    go_wp2
    go_ret
    exact ⟨rfl, hb⟩
  · by_cases hm7 : m ≤ 7
    · have d1 : decide ((7 : Int) < (m : Int)) = false := by simp; omega
      have HL9 : Hid ((offers ++ [more]).length ≤ 4611686018427387903) := Lib.hid (by have := HM.out; simp; omega)
      have HW0 : Hid (Below w.heap.size w w) := Lib.hid (Below.refl _ _)
      have HBEa := Lib.hid ((Below.refl w.heap.size w).alloc (Nat.le_refl _) (.cells #[] 26))
      have HOEa := Lib.hid (own_empty (w := w) 26 1)
      have HREa := Lib.hid ((hr.below HW0.out).below HBEa.out)
      go_wp2_with (first
                   | (at_builtin
                      refine wpList_append_rdG _ (by rfl) (.tmp 25) (.tmp 26) 27 rfl w.heap.size 26 i0 (.slice none 0 0) 1 24 Try.underlying27 hi0 hz0 hz1 hz2 rfl (by decide) (.slice (some ⟨w.heap.size, 0, none⟩) 0 0) 0 [] rfl HOEa.out A2 m c2 hs2 rfl HREa.out HONE.out (by unfold maxLen; omega) (by omega) HBEa.out.size ?_
                      intro v6 w6a hown6 hgrow6 _
                      have f6 : Fr w.heap.size [26] [] (w.alloc (.cells #[] 26)) w6a := (Fr.refl _).grown hgrow6 fun j hj => by
                        obtain ⟨hb, cs, hc⟩ := own_block HOEa.out hj
                        exact ⟨hb, .inr ⟨cs, _, _, hc, by simp⟩⟩
                      have HB6a := Lib.hid (HBEa.out.trans (f6.below HBEa.out.size))
                      simp only [Nat.zero_add, List.nil_append] at hown6
                      obtain ⟨A6a, c6a, rfl, _, _, _, _⟩ := own_slice hown6
                      have HBNa := Lib.hid ((Below.refl w6a.heap.size w6a).alloc (Nat.le_refl _) (.cells #[.slice A3 n3 c3] 26))
                      have HO7a := Lib.hid ((Fr.of_below (B := 0) (T := []) (S := []) HBNa.out).own hown6 (by simp) (by simp))
                      have HNWa := Lib.hid (block_new w6a (.cells #[.slice A3 n3 c3] 26))
                      have HSZa := Lib.hid (Nat.le_trans HB6a.out.size HBNa.out.size)
                      clear hown6 hgrow6 f6)
                   | (at_builtin
                      refine wpList_append_rdG _ (by rfl) (.tmp 27) (.tmp 29) 27 rfl w.heap.size 26 i0 (.slice none 0 0) 1 24 Try.underlying27 hi0 hz0 hz1 hz2 rfl (by decide) (.slice A6a m c6a) m hs2 rfl HO7a.out (some ⟨w6a.heap.size, 0, none⟩) 1 1 [.slice A3 n3 c3] rfl (rd_cell HNWa.out) (by simp [Value.oneCell']) (by unfold maxLen; omega) (by omega) HSZa.out ?_
                      intro v8 w8a hown8 hgrow8 _
                      have f8 : Fr w.heap.size [26] [] (w6a.alloc (.cells #[.slice A3 n3 c3] 26)) w8a := (Fr.refl _).grown hgrow8 fun j hj => by
                        obtain ⟨hb, cs, hc⟩ := own_block HO7a.out hj
                        exact ⟨hb, .inr ⟨cs, _, _, hc, by simp⟩⟩
                      have HB8a := Lib.hid ((HB6a.out.trans (HBNa.out.mono HB6a.out.size)).trans (f8.below HSZa.out))
                      have HO8a := Lib.hid hown8
                      obtain ⟨A8a, c8a, rfl, _, _, _, _⟩ := own_slice hown8
                      clear hown8 hgrow8 f8))
      have HBWa := Lib.hid (HW0.out.trans (HB8a.out.mono HW0.out.size))
      have HALLa := Lib.hid (HJO.out w8a w.heap.size A8a c8a HBWa.out HO8a.out)
      refine (xpmay_any _ _ want (offers ++ [more]) w8a (H1.out.below HBWa.out) HALLa.out hb1 HB3.out).mono ?_
      rintro e w2 ⟨rfl, hb⟩
      have HB2 := Lib.hid (HBWa.out.trans (hb.mono HBWa.out.size))
      clear hb
      obtain ⟨MP, hMP⟩ : ∃ MP, mayP want (offers ++ [more]) = MP := ⟨_, rfl⟩
      rw [hMP]
      have HMP := Lib.hid hMP
      clear hMP
      cases MP
      · go_wp2_with fail
        refine (plives_any w2).mono ?_
        rintro e w3 ⟨rfl, hb⟩
        have HB4 := Lib.hid (HB2.out.trans (hb.mono HB2.out.size))
        go_wp2
        go_ret
        exact ⟨rfl, HB4.out⟩
      · have HPO : Hid (mayP want offers = true) := Lib.hid (by
          obtain ⟨k1, k2, k3⟩ := mayP_parts HMP.out
          exact mayP_of k1 (by simp at k2; omega) (fun o ho => k3 o (by simp [ho])))
        have HMA : Hid (mayI (leftP want offers) = true) := Lib.hid (by
          obtain ⟨k1, k2, k3⟩ := mayP_parts HPO.out
          exact leftP_may k1 k3)
        have HMB : Hid (mayI (leftP want (offers ++ [more])) = true) := Lib.hid (by
          obtain ⟨k1, k2, k3⟩ := mayP_parts HMP.out
          exact leftP_may k1 k3)
        have HRM : Hid (restI (leftP want (offers ++ [more])) (leftP want offers) = []) := Lib.hid (by
          obtain ⟨k1, k2, k3⟩ := mayP_parts HMP.out
          exact rest_more k1 (fun o ho => k3 o (by simp [ho])) (k3 more (by simp)))
        have HFE := Lib.hid (fewer HMP.out)
        have HEM : Hid (enoughR want offers = true → enoughR want (offers ++ [more]) = true) := Lib.hid (fun h => enough_more HMP.out h)
        have HBEb := Lib.hid ((Below.refl w2.heap.size w2).alloc (Nat.le_refl _) (.cells #[] 26))
        have HOEb := Lib.hid (own_empty (w := w2) 26 1)
        have HREb := Lib.hid ((hr.below HB2.out).below HBEb.out)
        go_wp2_with (first
                     | (at_builtin
                        refine wpList_append_rdG _ (by rfl) (.tmp 35) (.tmp 36) 27 rfl w2.heap.size 26 i0 (.slice none 0 0) 1 24 Try.underlying27 hi0 hz0 hz1 hz2 rfl (by decide) (.slice (some ⟨w2.heap.size, 0, none⟩) 0 0) 0 [] rfl HOEb.out A2 m c2 hs2 rfl HREb.out HONE.out (by unfold maxLen; omega) (by omega) HBEb.out.size ?_
                        intro v6 w6b hown6 hgrow6 _
                        have f6 : Fr w2.heap.size [26] [] (w2.alloc (.cells #[] 26)) w6b := (Fr.refl _).grown hgrow6 fun j hj => by
                          obtain ⟨hb, cs, hc⟩ := own_block HOEb.out hj
                          exact ⟨hb, .inr ⟨cs, _, _, hc, by simp⟩⟩
                        have HB6b := Lib.hid (HBEb.out.trans (f6.below HBEb.out.size))
                        simp only [Nat.zero_add, List.nil_append] at hown6
                        obtain ⟨A6b, c6b, rfl, _, _, _, _⟩ := own_slice hown6
                        have HBNb := Lib.hid ((Below.refl w6b.heap.size w6b).alloc (Nat.le_refl _) (.cells #[.slice A3 n3 c3] 26))
                        have HO7b := Lib.hid ((Fr.of_below (B := 0) (T := []) (S := []) HBNb.out).own hown6 (by simp) (by simp))
                        have HNWb := Lib.hid (block_new w6b (.cells #[.slice A3 n3 c3] 26))
                        have HSZb := Lib.hid (Nat.le_trans HB6b.out.size HBNb.out.size)
                        clear hown6 hgrow6 f6)
                     | (at_builtin
                        refine wpList_append_rdG _ (by rfl) (.tmp 37) (.tmp 39) 27 rfl w2.heap.size 26 i0 (.slice none 0 0) 1 24 Try.underlying27 hi0 hz0 hz1 hz2 rfl (by decide) (.slice A6b m c6b) m hs2 rfl HO7b.out (some ⟨w6b.heap.size, 0, none⟩) 1 1 [.slice A3 n3 c3] rfl (rd_cell HNWb.out) (by simp [Value.oneCell']) (by unfold maxLen; omega) (by omega) HSZb.out ?_
                        intro v8 w8b hown8 hgrow8 _
                        have f8 : Fr w2.heap.size [26] [] (w6b.alloc (.cells #[.slice A3 n3 c3] 26)) w8b := (Fr.refl _).grown hgrow8 fun j hj => by
                          obtain ⟨hb, cs, hc⟩ := own_block HO7b.out hj
                          exact ⟨hb, .inr ⟨cs, _, _, hc, by simp⟩⟩
                        have HB8b := Lib.hid ((HB6b.out.trans (HBNb.out.mono HB6b.out.size)).trans (f8.below HSZb.out))
                        have HO8b := Lib.hid hown8
                        obtain ⟨A8b, c8b, rfl, _, _, _, _⟩ := own_slice hown8
                        clear hown8 hgrow8 f8))
        have HBWb := Lib.hid (HB2.out.trans (HB8b.out.mono HB2.out.size))
        have HALLb := Lib.hid (HJO.out w8b w2.heap.size A8b c8b HBWb.out HO8b.out)
        have HLA : Hid ((splitR want offers).2 = leftP want offers) := Lib.hid (by unfold splitR; rw [if_pos HPO.out])
        have HLB : Hid ((splitR want (offers ++ [more])).2 = leftP want (offers ++ [more])) := Lib.hid (by unfold splitR; rw [if_pos HMP.out])
        obtain ⟨LA, hLA⟩ : ∃ LA, leftP want offers = LA := ⟨_, rfl⟩
        obtain ⟨LB, hLB⟩ : ∃ LB, leftP want (offers ++ [more]) = LB := ⟨_, rfl⟩
        rw [hLA] at HLA HRM HMA
        rw [hLB] at HLB HRM HMB
        obtain ⟨EE, hEE⟩ : ∃ EE, enoughR want offers = EE := ⟨_, rfl⟩
        have HEQ := Lib.hid hEE
        clear hLA hLB hEE
        refine (psplit_any _ _ want offers w8b (H1.out.below HBWb.out) (H2.out.below HBWb.out) hb1 HB.out HMO.out).mono ?_
        rintro e w3 ⟨u1, u2, rfl, h1, hl, hb⟩
        rw [HLA.out] at hl
        obtain ⟨Aa, ca, rfl, hra⟩ := hl.bd
        obtain ⟨Au, cu, _, rfl, _⟩ := h1
        have HRA := Lib.hid hra
        have HB33 := Lib.hid (HBWb.out.trans (hb.mono HBWb.out.size))
        have HALL3 := Lib.hid (HALLb.out.below hb)
        obtain ⟨na, hna⟩ : ∃ na, LA.length = na := ⟨_, rfl⟩
        have HNA := Lib.hid hna
        rw [hna]
        clear hl hra hb hna
        go_wp2_with fail
        refine (psplit_any _ _ want (offers ++ [more]) w3 (H1.out.below HB33.out) HALL3.out hb1 HB3.out HL9.out).mono ?_
        rintro e w4 ⟨u3, u4, rfl, h1, hl, hb⟩
        rw [HLB.out] at hl
        obtain ⟨Ab, cb, rfl, hrb⟩ := hl.bd
        obtain ⟨Au3, cu3, _, rfl, _⟩ := h1
        have HRB := Lib.hid hrb
        have HRA4 := Lib.hid (HRA.out.below hb)
        have HB4 := Lib.hid (HB33.out.trans (hb.mono HB33.out.size))
        have HALL4 := Lib.hid (HALL3.out.below hb)
        obtain ⟨nb, hnb⟩ : ∃ nb, LB.length = nb := ⟨_, rfl⟩
        have HNB := Lib.hid hnb
        rw [hnb]
        clear hl hrb hb hnb
        go_wp2_with fail
        refine (fewest_any _ _ want offers w4 (H1.out.below HB4.out) (H2.out.below HB4.out) hb1 HB.out HMO.out).mono ?_
        rintro e w5 ⟨u5, rfl, ⟨Ax, cx, rfl, _⟩, hb⟩
        rw [intsN_len]
        obtain ⟨nx, hnx⟩ : ∃ nx, (fewP want offers).length = nx := ⟨_, rfl⟩
        rw [hnx] at HFE ⊢
        have HRA5 := Lib.hid (HRA4.out.below hb)
        have HRB5 := Lib.hid (HRB.out.below hb)
        have HB5 := Lib.hid (HB4.out.trans (hb.mono HB4.out.size))
        have HALL5 := Lib.hid (HALL4.out.below hb)
        clear hb hnx
        go_wp2_with fail
        refine (fewest_any _ _ want (offers ++ [more]) w5 (H1.out.below HB5.out) HALL5.out hb1 HB3.out HL9.out).mono ?_
        rintro e w6 ⟨u6, rfl, ⟨Ay, cy, rfl, _⟩, hb⟩
        rw [intsN_len]
        obtain ⟨ny, hny⟩ : ∃ ny, (fewP want (offers ++ [more])).length = ny := ⟨_, rfl⟩
        rw [hny] at HFE ⊢
        have HRA6 := Lib.hid (HRA5.out.below hb)
        have HRB6 := Lib.hid (HRB5.out.below hb)
        have HB6 := Lib.hid (HB5.out.trans (hb.mono HB5.out.size))
        have HALL6 := Lib.hid (HALL5.out.below hb)
        clear hb hny
        go_wp2_with fail
        refine (plives_any w6).mono ?_
        rintro e w7 ⟨rfl, hb⟩
        have HC := Lib.hid (xrest_any Ab cb LB Aa ca LA w7 (HRB6.out.below hb) (HRA6.out.below hb) HMB.out HMA.out)
        rw [HNA.out, HNB.out, HRM.out] at HC
        have HB7 := Lib.hid (HB6.out.trans (hb.mono HB6.out.size))
        have HALL7 := Lib.hid (HALL6.out.below hb)
        clear hb
        go_wp2_with fail
        refine HC.out.mono ?_
        rintro e w8 ⟨v8, rfl, ho8, hb⟩
        obtain ⟨A88, c88, rfl, _⟩ := own_slice ho8
        have HB8 := Lib.hid (HB7.out.trans (hb.mono HB7.out.size))
        have HALL8 := Lib.hid (HALL7.out.below hb)
        simp only [List.length_nil]
        clear ho8 hb
        have hfe := HFE.out
        by_cases hx : nx = 0
        · subst hx
          clear hfe
          go_wp2_with fail
          refine (pen_any _ _ want offers w8 (H1.out.below HB8.out) (H2.out.below HB8.out) hb1 HB.out HMO.out).mono ?_
          rintro e w9 ⟨rfl, hb⟩
          have HB9 := Lib.hid (HB8.out.trans (hb.mono HB8.out.size))
          have HALL9 := Lib.hid (HALL8.out.below hb)
          clear hb
          rw [HEQ.out]
          cases EE
          · go_wp2
            go_ret
            exact ⟨by simp, HB9.out⟩
          · go_wp2_with fail
            refine (pen_any _ _ want (offers ++ [more]) w9 (H1.out.below HB9.out) HALL9.out hb1 HB3.out HL9.out).mono ?_
            rintro e w10 ⟨rfl, hb⟩
            rw [HEM.out HEQ.out]
            have HB10 := Lib.hid (HB9.out.trans (hb.mono HB9.out.size))
            clear hb
            go_wp2
            go_ret
            exact ⟨by simp, HB10.out⟩
        · have hx' : ((nx : Int) == 0) = false := by simp [hx]
          have hy1 : decide (0 < ny) = true := by simp; omega
          have hy0 : 0 < ny := by omega
          have hy3 : ny ≤ nx := by omega
          have hy2 : decide (ny ≤ nx) = true := by simp; omega
          clear hfe
          go_wp2_with fail
          refine (pen_any _ _ want offers w8 (H1.out.below HB8.out) (H2.out.below HB8.out) hb1 HB.out HMO.out).mono ?_
          rintro e w9 ⟨rfl, hb⟩
          have HB9 := Lib.hid (HB8.out.trans (hb.mono HB8.out.size))
          have HALL9 := Lib.hid (HALL8.out.below hb)
          clear hb
          rw [HEQ.out]
          cases EE
          · go_wp2
            go_ret
            exact ⟨by simp, HB9.out⟩
          · go_wp2_with fail
            refine (pen_any _ _ want (offers ++ [more]) w9 (H1.out.below HB9.out) HALL9.out hb1 HB3.out HL9.out).mono ?_
            rintro e w10 ⟨rfl, hb⟩
            rw [HEM.out HEQ.out]
            have HB10 := Lib.hid (HB9.out.trans (hb.mono HB9.out.size))
            clear hb
            go_wp2
            go_ret
            exact ⟨by simp, HB10.out⟩
    · have d1 : decide ((7 : Int) < (m : Int)) = true := by simp; omega
      go_wp2_with fail
      refine (plives_any w).mono ?_
      rintro e w1 ⟨rfl, hb⟩
      go_wp2
      go_ret
      exact ⟨rfl, hb⟩
end Go.Proofs.Ytlcnkicmepcppaa
