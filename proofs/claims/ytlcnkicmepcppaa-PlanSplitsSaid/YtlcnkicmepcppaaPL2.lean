/- The walk of the law PlanSplits. -/
import Derived.Test.YtlcnkicmepcppaaXNorm
import Derived.Test.YtlcnkicmepcppaaXPSplit
import Derived.Test.YtlcnkicmepcppaaPLives
namespace Go.Proofs.Ytlcnkicmepcppaa
open Go.RowKit

/-- What is left and what the first k give. -/
def allK (want : List It) (offers : List (List It)) (k : Nat) : List It := leftP want offers ++ ((gotsP want offers).take k).flatten
theorem allK_succ {want : List It} {offers : List (List It)} {k : Nat} (h : k < (gotsP want offers).length) : allK want offers (k + 1) = allK want offers k ++ (gotsP want offers)[k] := by
  unfold allK
  rw [List.take_succ_eq_append_getElem h, List.flatten_append, ← List.append_assoc]
  simp
theorem allK_all (want : List It) (offers : List (List It)) : allK want offers (gotsP want offers).length = allP want offers := by
  unfold allK allP
  rw [List.take_length]
theorem allK_len {want : List It} {offers : List (List It)} (h : mayI want = true) (hl : ∀ o ∈ offers, mayI o = true) : ∀ k, k ≤ (gotsP want offers).length → (allK want offers k).length ≤ 16 + 16 * k
  | 0, _ => by
    unfold allK
    have := (mayI_at (leftP_may h hl)).1
    simp
    omega
  | k + 1, hk => by
    have h1 := allK_len h hl k (by omega)
    have h2 := (mayI_at (gotsP_may h hl _ (List.getElem_mem (show k < (gotsP want offers).length by omega)))).1
    rw [allK_succ (by omega), List.length_append]
    omega
theorem splitR_not {want : List It} {offers : List (List It)} (h : mayP want offers = false) : splitR want offers = ([], []) ∧ enoughR want offers = false := by
  unfold enoughR splitR
  rw [h]
  exact ⟨rfl, rfl⟩
theorem splitR_ok {want : List It} {offers : List (List It)} (h : mayP want offers = true) : splitR want offers = (gotsP want offers, leftP want offers) ∧ enoughR want offers = decide ((leftP want offers).length = 0) := by
  unfold enoughR splitR
  rw [h]
  exact ⟨rfl, rfl⟩
set_option maxRecDepth 100000 in
set_option maxHeartbeats 2000000 in
theorem psplits_any (v1 v2 : Value) (want : List It) (offers : List (List It)) (w : World) (h1 : RdI w v1 want) (h2 : RdII w v2 offers) (hb1 : BdL want) (hb2 : ∀ l ∈ offers, BdL l) (hm : offers.length ≤ 4611686018427387903) :
    Calls Try.prog 4 #[v1, v2] w fun e W => e = .returned (.bool true) ∧ Below w.heap.size w W := by
  obtain ⟨i1, hi1, hy0, hy1, hy2⟩ := info_parts Try.infoItem
  have HS := Lib.hid (psmall_any v1 v2 want offers w h1 h2)
  have HSPL := Lib.hid (psplit_any v1 v2 want offers w h1 h2 hb1 hb2 hm)
  have H1 := Lib.hid h1
  have H2 := Lib.hid h2
  obtain ⟨A1, c1, rfl, _, _, _⟩ := h1
  obtain ⟨A2, c2, hs2, rfl, _, _, hr2, hi2⟩ := h2
  have HR2 := Lib.hid hr2
  have HI2 := Lib.hid hi2
  obtain ⟨m, hm2⟩ : ∃ m, offers.length = m := ⟨_, rfl⟩
  have HM := Lib.hid hm2
  have HMO := Lib.hid hm
  obtain ⟨n1, hn1⟩ : ∃ n1, want.length = n1 := ⟨_, rfl⟩
  obtain ⟨SP, hSP⟩ : ∃ SP, smallP want offers = SP := ⟨_, rfl⟩
  have HN1 := Lib.hid hn1
  rw [hSP] at HS
  rw [hm2] at HS HSPL H2 HR2 ⊢
  rw [hn1] at HS HSPL H1 ⊢
  clear hn1 hm2 hSP hm hr2 hi2
  go_enter Try.func4, Try.ntmps4
  go_wp2_with fail
  refine HS.out.mono ?_
  rintro e w1 ⟨rfl, rfl⟩
  cases SP
  · go_wp2_with fail
    refine (plives_any w).mono ?_
    rintro e w1 ⟨rfl, hb⟩
    go_wp2
    go_ret
    exact ⟨rfl, hb⟩
  · obtain ⟨SR, hSR⟩ : ∃ SR, splitR want offers = SR := ⟨_, rfl⟩
    obtain ⟨EN, hEN⟩ : ∃ EN, enoughR want offers = EN := ⟨_, rfl⟩
    rw [hSR] at HSPL
    have HSR := Lib.hid hSR
    have HEN := Lib.hid hEN
    clear hSR hEN
    obtain ⟨gots, left⟩ := SR
    go_wp2_with fail
    refine HSPL.out.mono ?_
    rintro e w1 ⟨u1, u2, rfl, ha, hl, hb⟩
    simp only at ha hl
    have HA := Lib.hid ha
    have HL := Lib.hid hl
    have HB1 := Lib.hid hb
    obtain ⟨Aa, ca, hsa, rfl, _, _, _, _⟩ := ha
    obtain ⟨Al, cl, rfl, _, _, _⟩ := hl
    obtain ⟨na, hna⟩ : ∃ na, gots.length = na := ⟨_, rfl⟩
    obtain ⟨nl, hnl⟩ : ∃ nl, left.length = nl := ⟨_, rfl⟩
    have HNA := Lib.hid hna
    have HNL := Lib.hid hnl
    rw [hna] at HA ⊢
    rw [hnl] at HL ⊢
    clear hb HSPL hna hnl
    go_wp2_with fail
    refine (pen_any _ _ want offers w1 (H1.out.below HB1.out) (H2.out.below HB1.out) hb1 hb2 HMO.out).mono ?_
    rintro e w2 ⟨rfl, hb⟩
    rw [HEN.out]
    have HB2 := Lib.hid (HB1.out.trans (hb.mono HB1.out.size))
    have HA2 := Lib.hid (HA.out.below hb)
    have HL2 := Lib.hid (HL.out.below hb)
    clear hb
    go_wp2_with fail
    refine (plives_any w2).mono ?_
    rintro e w3 ⟨rfl, hb⟩
    have HB3 := Lib.hid (HB2.out.trans (hb.mono HB2.out.size))
    have HA3 := Lib.hid (HA2.out.below hb)
    have HL3 := Lib.hid (HL2.out.below hb)
    clear hb
    go_wp2_with fail
    refine (xpmay_any _ _ want offers w3 (H1.out.below HB3.out) (H2.out.below HB3.out) hb1 hb2).mono ?_
    rintro e w4 ⟨rfl, hb⟩
    have HB4 := Lib.hid (HB3.out.trans (hb.mono HB3.out.size))
    have HA4 := Lib.hid (HA3.out.below hb)
    have HL4 := Lib.hid (HL3.out.below hb)
    clear hb
    obtain ⟨MP, hMP⟩ : ∃ MP, mayP want offers = MP := ⟨_, rfl⟩
    rw [hMP]
    have HMP := Lib.hid hMP
    clear hMP
    cases MP
    · obtain ⟨e1, e2⟩ := splitR_not HMP.out
      have e3 := HSR.out
      rw [e1] at e3
      cases e3
      have e4 := HEN.out
      rw [e2] at e4
      subst e4
      have hna0 : na = 0 := by rw [← HNA.out]; rfl
      have hnl0 : nl = 0 := by rw [← HNL.out]; rfl
      clear e1 e2
      subst hna0
      subst hnl0
      go_wp2
      go_ret
      exact ⟨by simp, HB4.out⟩
    · obtain ⟨e1, e2⟩ := splitR_ok HMP.out
      have e3 := HSR.out
      rw [e1] at e3
      cases e3
      rw [HEN.out] at e2
      subst e2
      obtain ⟨k1, k2, k3⟩ := mayP_parts HMP.out
      have HK1 := Lib.hid k1
      have HK3 := Lib.hid k3
      have HGM := Lib.hid (gotsP_may k1 k3)
      have hm8 : m ≤ 8 := by rw [← HM.out]; exact k2
      have hlen : na = m := by rw [← HNA.out, gotsP_len]; exact HM.out
      have HLM := Lib.hid (leftP_may k1 k3)
      have hnl16 : nl ≤ 16 := by rw [← HNL.out]; exact (mayI_at HLM.out).1
      have HXS := Lib.hid (xpsplit_any _ _ want offers w4 (H1.out.below HB4.out) (H2.out.below HB4.out) HMP.out)
      have HGR : Hid (∀ (k : Nat) (h : k < (gotsP want offers).length) (h2 : k < offers.length), restI (gotsP want offers)[k] offers[k] = []) := Lib.hid (gots_rest k1 k3)
      have HNO := Lib.hid (allP_norm k1 k3)
      have HAM : Hid (∀ x ∈ allP want offers, okItem x = true) := Lib.hid (allP_may k1 k3)
      have HAS : Hid (∀ g, ofI (allP want offers) g ≤ 1099511627776) := Lib.hid (fun g => allP_ofI k1 k3 g)
      have HAL : Hid (∀ k, k ≤ (gotsP want offers).length → (allK want offers k).length ≤ 16 + 16 * k) := Lib.hid (allK_len k1 k3)
      have HAK : Hid (∀ k (h : k < (gotsP want offers).length), allK want offers (k + 1) = allK want offers k ++ (gotsP want offers)[k]) := Lib.hid (fun k h => allK_succ h)
      have HAA := Lib.hid (allK_all want offers)
      have HA0 : Hid (allK want offers 0 = leftP want offers) := Lib.hid (by unfold allK; simp)
      obtain ⟨G, hG⟩ : ∃ G, gotsP want offers = G := ⟨_, rfl⟩
      obtain ⟨L, hL⟩ : ∃ L, leftP want offers = L := ⟨_, rfl⟩
      rw [hL] at HNL HL4 HLM HA0 ⊢
      simp only [hG] at HNA HA4 HGM HGR HAL HAK HAA
      rw [hG, hL] at HXS
      rw [HNL.out]
      subst hlen
      have HN := HNA
      clear e1 k1 k2 k3 hL
      go_wp2_with fail
      refine HXS.out.mono ?_
      rintro e w5 ⟨u3, u4, rfl, hbb, hrr, hb⟩
      simp only at hbb hrr
      have HB5 := Lib.hid (HB4.out.trans (hb.mono HB4.out.size))
      have HA5 := HA4.out.below hb
      have HL5 := Lib.hid (HL4.out.below hb)
      have HRR := Lib.hid hrr
      obtain ⟨Ab, cb, hsb, rfl, _, _, hrb, hib⟩ := hbb
      obtain ⟨Ar, cr, rfl, _, _, _⟩ := hrr
      obtain ⟨Aa', ca', hsa', ea, _, _, hra, hia⟩ := HA5
      rw [HN.out] at ea hra hrb ⊢
      cases ea
      rw [HNL.out] at HRR ⊢
      have HRB := Lib.hid hrb
      have HIB := Lib.hid hib
      have HRA := Lib.hid hra
      have HIA := Lib.hid hia
      have HRO := Lib.hid (HR2.out.below HB5.out)
      have HSL : Hid (∀ W, Below w5.heap.size w5 W → Calls Try.prog 15 #[.slice Al nl cl, .slice Ar nl cr] W fun e W' => e = .returned (.bool true) ∧ Below W.heap.size W W') := Lib.hid (fun W hW => by
        obtain ⟨_, _, e1, _, _, h1⟩ := HL5.out.below hW
        obtain ⟨_, _, e2, _, _, h2⟩ := HRR.out.below hW
        rw [HNL.out] at e1 e2 h1 h2
        cases e1
        cases e2
        have := xsame_any Al cl Ar cr L W (by rw [HNL.out]; exact h1) (by rw [HNL.out]; exact h2) (by rw [HNL.out]; omega)
        rwa [HNL.out] at this)
      clear hb hra hia hrb hib HXS
      go_wp2_with fail
      refine (HSL.out w5 (Below.refl _ _)).mono ?_
      rintro e w6 ⟨rfl, hb6⟩
      have HB6 := Lib.hid hb6
      have HR0 := Lib.hid ((HL5.out.below hb6).below ((Below.refl w6.heap.size w6).alloc (Nat.le_refl _) (.cells #[] 40)))
      obtain ⟨_, _, el, _, _, hrl⟩ := HR0.out
      rw [HNL.out] at el hrl
      cases el
      have HRL := Lib.hid hrl
      have HOE := Lib.hid (own_empty (w := w6) 40 2)
      clear hb6 hrl
      have hd0 : ((nl : Int) == 0) = decide (nl = 0) := by
        by_cases h : nl = 0
        · simp [h]
        · simp [h]
      go_wp2_with (at_builtin
                   refine wpList_append_rd _ rfl (.tmp 70) (.tmp 71) 26 rfl w6.heap.size 40 i1 (.agg #[.string ByteArray.empty, .int .i64 0]) 2 24 Try.underlying26 hi1 hy0 hy1 hy2 rfl (by decide) (.slice (some ⟨w6.heap.size, 0, none⟩) 0 0) 0 [] rfl HOE.out Al nl cl (L.flatMap encI) rfl HRL.out (i_one L) (by unfold maxLen; omega) (by omega) (by simp) ?_
                   intro v7 w7 hown7 hgrow7 _
                   have hb7 : Below w6.heap.size w6 w7 := ((Below.refl _ w6).alloc (Nat.le_refl _) (.cells #[] 40)).trans ((((Fr.refl (w6.alloc (.cells #[] 40))).grown (B := w6.heap.size) (T := [40]) (S := []) hgrow7 fun j hj => by
                     obtain ⟨hb, cs, hc⟩ := own_block HOE.out hj
                     exact ⟨hb, .inr ⟨cs, _, _, hc, by simp⟩⟩)).below (by simp))
                   simp only [Nat.zero_add, List.nil_append] at hown7
                   have HO7 := Lib.hid (ownI_low hown7 HB6.out.size)
                   have HB7 := Lib.hid (HB6.out.trans (hb7.mono HB6.out.size))
                   obtain ⟨A7, c7, rfl, _, _, _, _⟩ := own_slice hown7
                   clear hown7 hgrow7 hb7)
      go_loopw [10, 11] (fun av iv wr => ∃ k : Nat, k ≤ na ∧ iv = .int .i64 k ∧ wr.ownsRow w5.heap.size 40 2 av (allK want offers k).length ((allK want offers k).flatMap encI) ∧ Below w5.heap.size w5 wr) (fun _ iv => fun _ => na - (intOf iv).toNat)
      case atStart => exact ⟨0, Nat.zero_le _, rfl, by rw [HA0.out, HNL.out]; exact HO7.out, HB7.out⟩
      case round =>
        obtain ⟨k, hk, rfl, ho, hbw⟩ := hrel
        have HO := Lib.hid ho
        have HBW := Lib.hid hbw
        have hak := HAL.out k (by have := HN.out; omega)
        obtain ⟨nk, hnk⟩ : ∃ nk, (allK want offers k).length = nk := ⟨_, rfl⟩
        have HNK := Lib.hid hnk
        rw [hnk] at HO hak
        clear ho hnk
        obtain ⟨Av, cv, rfl, _, _, _, _⟩ := own_slice HO.out
        by_cases hlt : k < na
        · have hkg : k < G.length := by have := HN.out; omega
          have hko : k < offers.length := by have := HM.out; omega
          have hnk2 : nk ≤ 144 := by omega
          have hkI : decide ((k : Int) < (na : Int)) = true := by simp; omega
          have hkJ : (k : Int) < (na : Int) := by omega
          obtain ⟨ga, oa, rfl, hga, hca⟩ := HRA.out.2 (by omega)
          obtain ⟨gb, ob, rfl, hgb, hcb⟩ := HRB.out.2 (by omega)
          obtain ⟨go, oo, rfl, hgo, hco⟩ := HRO.out.2 (by omega)
          obtain ⟨ua, hua, hrua⟩ := HIA.out k hkg
          obtain ⟨ub, hub, hrub⟩ := HIB.out k hkg
          obtain ⟨uo, huo, hruo⟩ := HI2.out k hko
          have hgm := HGM.out _ (List.getElem_mem hkg)
          have hom := HK3.out _ (List.getElem_mem hko)
          have hgr := HGR.out k hkg hko
          have hak1 := HAK.out k hkg
          obtain ⟨Gk, hGk⟩ : ∃ Gk, G[k] = Gk := ⟨_, rfl⟩
          obtain ⟨Ok, hOk⟩ : ∃ Ok, offers[k] = Ok := ⟨_, rfl⟩
          rw [hGk] at hrua hrub hgm hgr hak1
          rw [hOk] at hruo hom hgr
          have hruo2 := (hruo.below HB5.out).below hbw
          have hrua2 := hrua.below hbw
          have hrub2 := hrub.below hbw
          obtain ⟨Aa2, ca2, rfl, hxa⟩ := hrua2.bd
          obtain ⟨Ab2, cb2, rfl, hxb⟩ := hrub2.bd
          obtain ⟨Ao2, co2, rfl, hxo⟩ := hruo2.bd
          have HXA := Lib.hid hxa
          have HXB := Lib.hid hxb
          have HXO := Lib.hid hxo
          have hg16 := (mayI_at hgm).1
          have HGKM := Lib.hid hgm
          have HOKM := Lib.hid hom
          have HGR2 := Lib.hid hgr
          have HAK1 := Lib.hid hak1
          have HSM : Hid (∀ W, Below wr.heap.size wr W → Calls Try.prog 15 #[.slice Aa2 Gk.length ca2, .slice Ab2 Gk.length cb2] W fun e W' => e = .returned (.bool true) ∧ Below W.heap.size W W') := Lib.hid (fun W hW => xsame_any Aa2 ca2 Ab2 cb2 Gk W (HXA.out.below hW) (HXB.out.below hW) (by omega))
          have HRS : Hid (∀ W, Below wr.heap.size wr W → Calls Try.prog 16 #[.slice Aa2 Gk.length ca2, .slice Ao2 Ok.length co2] W (RetI W [])) := Lib.hid (fun W hW => HGR2.out ▸ xrest_any Aa2 ca2 Gk Ao2 co2 Ok W (HXA.out.below hW) (HXO.out.below hW) HGKM.out HOKM.out)
          obtain ⟨ng, hng⟩ : ∃ ng, Gk.length = ng := ⟨_, rfl⟩
          obtain ⟨no, hno⟩ : ∃ no, Ok.length = no := ⟨_, rfl⟩
          have HNG := Lib.hid hng
          rw [hng] at HSM HRS HXA hg16 hua hub
          rw [hno] at HRS huo
          have HCA : Hid (∀ W, Below wr.heap.size wr W → W.cell? ⟨ga, oa + k, none⟩ = some (.slice Aa2 ng ca2)) := Lib.hid (fun W hW => ((hbw.trans (hW.mono hbw.size)).cell (p := ⟨ga, oa + k, none⟩) hga).trans (hca k _ hua))
          have HCB : Hid (∀ W, Below wr.heap.size wr W → W.cell? ⟨gb, ob + k, none⟩ = some (.slice Ab2 ng cb2)) := Lib.hid (fun W hW => ((hbw.trans (hW.mono hbw.size)).cell (p := ⟨gb, ob + k, none⟩) hgb).trans (hcb k _ hub))
          have HCO : Hid (∀ W, Below wr.heap.size wr W → W.cell? ⟨go, oo + k, none⟩ = some (.slice Ao2 no co2)) := Lib.hid (fun W hW => ((hbw.trans (hW.mono hbw.size)).cell (p := ⟨go, oo + k, none⟩) hgo).trans (hco k _ huo))
          clear hga hca hgb hcb hgo hco hua hrua hub hrub huo hruo hgm hom hgr hak1 hGk hOk hruo2 hrua2 hrub2 hxa hxb hxo hng hno hbw hak
          go_wp2_with fail
          refine wp_region_flow (fun W => Below wr.heap.size wr W) [0, 1, 2, 3, 4, 5, 6, 7, 8, 9, 10, 11, 12, 13, 14, 15, 16, 17, 18, 19, 20, 21, 22] (by kernel_rfl) (by kernel_rfl) (by kernel_rfl) ((Below.refl _ _).drew) ?_
          refine flow_val ?_ rfl (by kernel_rfl) (by rfl) (fun W hW => ?_) ?_
          rotate_left 1
          · go_simp <;> with_reducible rfl
          simp only [Act.put, List.setIfInBounds_toArray, List.set_cons_succ, List.set_cons_zero]
          refine flow_val ?_ rfl (by kernel_rfl) (by rfl) (fun W hW => ?_) ?_
          rotate_left 1
          · go_simp <;> with_reducible rfl
          simp only [Act.put, List.setIfInBounds_toArray, List.set_cons_succ, List.set_cons_zero]
          refine flow_val ?_ rfl (by kernel_rfl) (by rfl) (fun W hW => ?_) ?_
          rotate_left 1
          · go_simp <;> with_reducible rfl
          simp only [Act.put, List.setIfInBounds_toArray, List.set_cons_succ, List.set_cons_zero]
          refine flow_val ?_ rfl (by kernel_rfl) (by rfl) (fun W hW => ?_) ?_
          rotate_left 1
          · have c0 := HCA.out W hW; go_simp <;> with_reducible rfl
          simp only [Act.put, List.setIfInBounds_toArray, List.set_cons_succ, List.set_cons_zero]
          refine flow_val ?_ rfl (by kernel_rfl) (by rfl) (fun W hW => ?_) ?_
          rotate_left 1
          · go_simp <;> with_reducible rfl
          simp only [Act.put, List.setIfInBounds_toArray, List.set_cons_succ, List.set_cons_zero]
          refine flow_val ?_ rfl (by kernel_rfl) (by rfl) (fun W hW => ?_) ?_
          rotate_left 1
          · go_simp <;> with_reducible rfl
          simp only [Act.put, List.setIfInBounds_toArray, List.set_cons_succ, List.set_cons_zero]
          refine flow_val ?_ rfl (by kernel_rfl) (by rfl) (fun W hW => ?_) ?_
          rotate_left 1
          · go_simp <;> with_reducible rfl
          simp only [Act.put, List.setIfInBounds_toArray, List.set_cons_succ, List.set_cons_zero]
          refine flow_val ?_ rfl (by kernel_rfl) (by rfl) (fun W hW => ?_) ?_
          rotate_left 1
          · have c0 := HCB.out W hW; go_simp <;> with_reducible rfl
          simp only [Act.put, List.setIfInBounds_toArray, List.set_cons_succ, List.set_cons_zero]
          refine flow_call (.bool true) rfl (by kernel_rfl) (by rfl) (by kernel_rfl) (fun W hW => ⟨_, _, _, by go_simp, (HSM.out W hW).mono fun e w' ⟨he, hb⟩ => ⟨he, hW.trans (hb.mono hW.size)⟩⟩) ?_
          simp only [Act.put, List.setIfInBounds_toArray, List.set_cons_succ, List.set_cons_zero]
          refine flow_val ?_ rfl (by kernel_rfl) (by rfl) (fun W hW => ?_) ?_
          rotate_left 1
          · go_simp <;> with_reducible rfl
          simp only [Act.put, List.setIfInBounds_toArray, List.set_cons_succ, List.set_cons_zero]
          refine flow_val ?_ rfl (by kernel_rfl) (by rfl) (fun W hW => ?_) ?_
          rotate_left 1
          · go_simp <;> with_reducible rfl
          simp only [Act.put, List.setIfInBounds_toArray, List.set_cons_succ, List.set_cons_zero]
          refine flow_val ?_ rfl (by kernel_rfl) (by rfl) (fun W hW => ?_) ?_
          rotate_left 1
          · go_simp <;> with_reducible rfl
          simp only [Act.put, List.setIfInBounds_toArray, List.set_cons_succ, List.set_cons_zero]
          refine flow_val ?_ rfl (by kernel_rfl) (by rfl) (fun W hW => ?_) ?_
          rotate_left 1
          · go_simp <;> with_reducible rfl
          simp only [Act.put, List.setIfInBounds_toArray, List.set_cons_succ, List.set_cons_zero]
          refine flow_val ?_ rfl (by kernel_rfl) (by rfl) (fun W hW => ?_) ?_
          rotate_left 1
          · go_simp <;> with_reducible rfl
          simp only [Act.put, List.setIfInBounds_toArray, List.set_cons_succ, List.set_cons_zero]
          refine flow_val ?_ rfl (by kernel_rfl) (by rfl) (fun W hW => ?_) ?_
          rotate_left 1
          · have c0 := HCA.out W hW.1; go_simp <;> with_reducible rfl
          simp only [Act.put, List.setIfInBounds_toArray, List.set_cons_succ, List.set_cons_zero]
          refine flow_val ?_ rfl (by kernel_rfl) (by rfl) (fun W hW => ?_) ?_
          rotate_left 1
          · go_simp <;> with_reducible rfl
          simp only [Act.put, List.setIfInBounds_toArray, List.set_cons_succ, List.set_cons_zero]
          refine flow_val ?_ rfl (by kernel_rfl) (by rfl) (fun W hW => ?_) ?_
          rotate_left 1
          · go_simp <;> with_reducible rfl
          simp only [Act.put, List.setIfInBounds_toArray, List.set_cons_succ, List.set_cons_zero]
          refine flow_val ?_ rfl (by kernel_rfl) (by rfl) (fun W hW => ?_) ?_
          rotate_left 1
          · go_simp <;> with_reducible rfl
          simp only [Act.put, List.setIfInBounds_toArray, List.set_cons_succ, List.set_cons_zero]
          refine flow_val ?_ rfl (by kernel_rfl) (by rfl) (fun W hW => ?_) ?_
          rotate_left 1
          · have c0 := HCO.out W hW.1; go_simp <;> with_reducible rfl
          simp only [Act.put, List.setIfInBounds_toArray, List.set_cons_succ, List.set_cons_zero]
          refine flow_new (fun v _ => ∃ A c, v = .slice A 0 c) rfl (by kernel_rfl) (by rfl) (by kernel_rfl) (fun W hW => ⟨_, _, _, by go_simp, (HRS.out W hW.1).mono fun e w' ⟨v, he, ho, hb⟩ => ⟨v, he, ⟨hW.1.trans (hb.mono hW.1.size), trivial⟩, by obtain ⟨A, c, e, _⟩ := own_slice ho; exact ⟨A, c, e⟩⟩⟩) ?_
          rintro v98 ⟨W0, _, A98, c98, rfl⟩
          simp only [Act.put, List.setIfInBounds_toArray, List.set_cons_succ, List.set_cons_zero]
          refine flow_val ?_ rfl (by kernel_rfl) (by rfl) (fun W hW => ?_) ?_
          rotate_left 1
          · go_simp <;> with_reducible rfl
          simp only [Act.put, List.setIfInBounds_toArray, List.set_cons_succ, List.set_cons_zero]
          refine flow_val ?_ rfl (by kernel_rfl) (by rfl) (fun W hW => ?_) ?_
          rotate_left 1
          · go_simp <;> with_reducible rfl
          simp only [Act.put, List.setIfInBounds_toArray, List.set_cons_succ, List.set_cons_zero]
          refine flow_val ?_ rfl (by kernel_rfl) (by rfl) (fun W hW => ?_) ?_
          rotate_left 1
          · go_simp <;> with_reducible rfl
          simp only [Act.put, List.setIfInBounds_toArray, List.set_cons_succ, List.set_cons_zero]
          refine flow_done ?_
          intro W hW
          have HBW2 := Lib.hid hW.1.1
          have c0 := HCA.out W hW.1.1
          have HOW := Lib.hid ((Fr.of_below (B := 0) (T := []) (S := []) hW.1.1).own HO.out (by simp) (by simp))
          have HXAW := Lib.hid (HXA.out.below hW.1.1)
          have HSZ : Hid (w5.heap.size ≤ W.heap.size) := Lib.hid (Nat.le_trans HBW.out.size hW.1.1.size)
          clear hW
          go_wp2_with (at_builtin
                       refine wpList_append_rd _ rfl (.tmp 102) (.tmp 106) 26 rfl w5.heap.size 40 i1 (.agg #[.string ByteArray.empty, .int .i64 0]) 2 24 Try.underlying26 hi1 hy0 hy1 hy2 rfl (by decide) (.slice Av nk cv) nk ((allK want offers k).flatMap encI) rfl HOW.out Aa2 ng ca2 (Gk.flatMap encI) rfl HXAW.out (i_one Gk) (by unfold maxLen; omega) (by omega) HSZ.out ?_
                       intro v8 w8 hown8 hgrow8 _
                       have f8 : Fr w5.heap.size [40] [] W w8 := (Fr.refl _).grown hgrow8 fun j hj => by
                         obtain ⟨hb, cs, hc⟩ := own_block HOW.out hj
                         exact ⟨hb, .inr ⟨cs, _, _, hc, by simp⟩⟩
                       have HB8 := Lib.hid ((HBW.out.trans (HBW2.out.mono HBW.out.size)).trans (f8.below HSZ.out))
                       have HO8 := Lib.hid hown8
                       obtain ⟨A8, c8, rfl, _, _, _, _⟩ := own_slice hown8
                       clear hown8 hgrow8 f8)
          go_roundw
          case rel =>
            refine ⟨k + 1, hlt, by go_num, ?_, HB8.out⟩
            rw [HAK1.out, List.length_append, HNK.out, HNG.out, List.flatMap_append]
            exact HO8.out
          case measure => simp [intOf]; omega
        · have ekm : k = na := by omega
          have hkI : decide ((k : Int) < (na : Int)) = false := by simp; omega
          have hall : allK want offers k = allP want offers := by rw [ekm, ← HN.out]; exact HAA.out
          obtain ⟨_, _, e9, _, _, h9, _⟩ := own_slice HO.out
          cases e9
          have HLP : Hid ((allP want offers).length = nk) := Lib.hid (by rw [← hall]; exact HNK.out)
          have hnk2 : nk ≤ 144 := by omega
          have hrd : Rd wr 2 Av (allP want offers).length ((allP want offers).flatMap encI) := by rw [HLP.out, ← hall]; exact h9
          have HNM := Lib.hid (xnorm_any Av cv (allP want offers) wr hrd HAM.out HAS.out HNO.out.1 (by rw [HLP.out]; omega))
          rw [HNO.out.2, HLP.out] at HNM
          clear hall h9 hrd hak hbw
          go_wp2_with fail
          refine HNM.out.mono ?_
          rintro e w9 ⟨u9, rfl, hr9, hb9⟩
          have HB9 := Lib.hid (HB5.out.trans ((HBW.out.trans (hb9.mono HBW.out.size)).mono HB5.out.size))
          obtain ⟨A9, c9, rfl, _, _, hx9⟩ := hr9
          obtain ⟨_, _, e1, _, _, hx1⟩ := H1.out.below HB9.out
          rw [HN1.out] at hx9 hx1 e1 ⊢
          cases e1
          have HSW := Lib.hid (xsame_any A9 c9 A1 c1 want w9 (by rw [HN1.out]; exact hx9) (by rw [HN1.out]; exact hx1) hb1.2)
          rw [HN1.out] at HSW
          clear hb9 hx9 hx1
          go_wp2_with fail
          refine HSW.out.mono ?_
          rintro e w10 ⟨rfl, hb⟩
          have HB10 := Lib.hid (HB9.out.trans (hb.mono HB9.out.size))
          clear hb
          go_wp2
          go_ret
          exact ⟨by simp, HB10.out⟩
end Go.Proofs.Ytlcnkicmepcppaa
