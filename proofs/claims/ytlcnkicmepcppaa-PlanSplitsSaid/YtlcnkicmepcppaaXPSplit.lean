/- The reference's Split. -/
import Derived.Test.YtlcnkicmepcppaaXPMay
namespace Go.Proofs.Ytlcnkicmepcppaa
open Go.RowKit

set_option maxRecDepth 100000 in
set_option maxHeartbeats 2000000 in
theorem xpsplit_any (v1 v2 : Value) (want : List It) (offers : List (List It)) (w : World) (h1 : RdI w v1 want) (h2 : RdII w v2 offers) (hmp : mayP want offers = true) :
    Calls Try.prog 14 #[v1, v2] w (RetS w (gotsP want offers, leftP want offers)) := by
  obtain ⟨i0, hi0, hz0, hz1, hz2⟩ := info_parts Try.infoItems
  unfold mayP at hmp
  simp only [Bool.and_eq_true, decide_eq_true_eq] at hmp
  obtain ⟨⟨hmw, hm8⟩, hall⟩ := hmp
  have HMW := Lib.hid hmw
  have HALL : Hid (∀ o ∈ offers, mayI o = true) := Lib.hid (fun o ho => List.all_eq_true.1 hall o ho)
  have H1 := Lib.hid h1
  obtain ⟨A1, c1, rfl, _, _, _⟩ := h1
  obtain ⟨A2, c2, hs2, rfl, hc1, hc2, hr, hi⟩ := h2
  have HR := Lib.hid hr
  have HI := Lib.hid hi
  obtain ⟨m, hm2⟩ : ∃ m, offers.length = m := ⟨_, rfl⟩
  have HM := Lib.hid hm2
  obtain ⟨n1, hn1⟩ : ∃ n1, want.length = n1 := ⟨_, rfl⟩
  rw [hn1] at H1 ⊢
  rw [hm2] at hm8 ⊢
  have hm8' : m ≤ 8 := hm8
  clear hr hi hm2 hn1 hmw hall hc1 hc2 hm8
  go_enter Try.func14, Try.ntmps14
  have HJ0 : Hid (SplitJ w want offers 0 (.slice none 0 0) (.slice A1 n1 c1) w) := Lib.hid ⟨⟨[], World.ownsRow_nil _ _ _ _, fun j h => absurd h (by simp [gotsP])⟩, H1.out, Below.refl _ _⟩
  go_wp2_with fail
  go_loopw [0, 6, 7] (fun lv ov iv wr => ∃ k : Nat, k ≤ m ∧ iv = .int .i64 k ∧ SplitJ w want offers k ov lv wr) (fun _ _ iv _ => m - (intOf iv).toNat)
  case atStart => exact ⟨0, Nat.zero_le _, rfl, HJ0.out⟩
  case round =>
    obtain ⟨k, hk, rfl, hj⟩ := hrel
    rename_i lv2 ov2
    have HJ := Lib.hid hj
    clear hj HJ0
    by_cases hlt : k < m
    · have hkl : k < offers.length := by have := HM.out; omega
      obtain ⟨g, o, rfl, hg, hcell⟩ := HR.out.2 (by omega)
      obtain ⟨u, hu, hru⟩ := HI.out k hkl
      obtain ⟨⟨hs, ho1, ho2⟩, hl, hbw⟩ := HJ.out
      have c0 := (hbw.cell (p := ⟨g, o + k, none⟩) hg).trans (hcell k u hu)
      have hok := HALL.out _ (List.getElem_mem hkl)
      have hlm := leftP_may (l := offers.take k) HMW.out (fun x hx => HALL.out x (List.mem_of_mem_take hx))
      have hru2 := hru.below hbw
      obtain ⟨L, hL⟩ : ∃ L, leftP want (offers.take k) = L := ⟨_, rfl⟩
      obtain ⟨O, hO⟩ : ∃ O, offers[k] = O := ⟨_, rfl⟩
      rw [hL] at hl hlm
      rw [hO] at hru2 hok
      obtain ⟨Al2, cl2, rfl, hRL⟩ := hl.bd
      obtain ⟨Au, cu, rfl, hRU⟩ := hru2.bd
      obtain ⟨Ao, co, rfl, _, _, _, _⟩ := own_slice ho1
      have HRL := Lib.hid hRL
      have HRU := Lib.hid hRU
      have HLM := Lib.hid hlm
      have HOK := Lib.hid hok
      have HLL := Lib.hid hL
      have HOO : Hid (offers[k] = O) := Lib.hid hO
      have HO1 := Lib.hid ho1
      have HO2 := Lib.hid ho2
      have HBB := Lib.hid hbw
      obtain ⟨nl, hnl⟩ : ∃ nl, L.length = nl := ⟨_, rfl⟩
      obtain ⟨nu, hnu⟩ : ∃ nu, O.length = nu := ⟨_, rfl⟩
      have HC := Lib.hid (xmeet_any Al2 cl2 L Au cu O wr HRL.out HRU.out hlm hok)
      have HNL := Lib.hid hnl
      have HNU := Lib.hid hnu
      rw [hnl] at HC
      rw [hnu] at HC c0
      rw [hnl]
      obtain ⟨ng, hng⟩ : ∃ ng, (gotsP want (offers.take k)).length = ng := ⟨_, rfl⟩
      have hngk : ng = k := by rw [← hng, gotsP_len, List.length_take]; have := HM.out; omega
      have HNG := Lib.hid hng
      rw [hng] at HO1 ⊢
      obtain rfl := hngk.symm
      clear hcell hu hru hru2 hl hRL hRU hlm hok hL hO ho1 ho2 hbw hnl hnu hng
      go_wp2_with fail
      refine HC.out.mono ?_
      rintro e w3 ⟨gv, rfl, hgo, hgb⟩
      obtain ⟨G, hG⟩ : ∃ G, meetI L O = G := ⟨_, rfl⟩
      rw [hG] at hgo
      have hgm : mayI G = true := by rw [← hG]; exact meetI_may HLM.out HOK.out
      obtain ⟨Ag, cg, rfl, _, _, hRG, _⟩ := own_slice hgo
      have HG := Lib.hid hG
      have HGM := Lib.hid hgm
      have HGO := Lib.hid hgo
      have HGB := Lib.hid hgb
      have HC2 := Lib.hid (xrest_any Al2 cl2 L Ag cg G w3 (HRL.out.below hgb) hRG HLM.out hgm)
      obtain ⟨n3, hn3⟩ : ∃ n3, G.length = n3 := ⟨_, rfl⟩
      rw [HNL.out, hn3] at HC2
      have HN3 := Lib.hid hn3
      rw [hn3]
      clear hgo hgb hG hgm hRG hn3 HC c0
      go_wp2_with fail
      refine HC2.out.mono ?_
      rintro e w4 ⟨rv, rfl, hro, hrb⟩
      have HRO := Lib.hid hro
      have HRB := Lib.hid hrb
      have hb4 : Below wr.heap.size wr w4 := HGB.out.trans (hrb.mono HGB.out.size)
      have hb5 : Below wr.heap.size wr (w4.alloc (.cells #[.slice Ag n3 cg] 26)) := hb4.alloc hb4.size _
      have HB5 := Lib.hid hb5
      have HNW := Lib.hid (block_new w4 (.cells #[.slice Ag n3 cg] 26))
      have HO5 := Lib.hid ((Fr.of_below (B := 0) (T := []) (S := []) hb5).own HO1.out (by simp) (by simp))
      have HG5 := Lib.hid ((Fr.of_below (B := 0) (T := []) (S := []) (hrb.alloc hrb.size (.cells #[.slice Ag n3 cg] 26))).own HGO.out (by simp) (by simp))
      have HW5 : Hid (w.heap.size ≤ (w4.alloc (.cells #[.slice Ag n3 cg] 26)).heap.size) := Lib.hid (Nat.le_trans HBB.out.size hb5.size)
      clear hro hrb hb4 hb5 HC2
      go_wp2_with (at_builtin
                   refine wpList_append_rd _ rfl (.tmp 24) (.tmp 26) 27 rfl w.heap.size 26 i0 (.slice none 0 0) 1 24 Try.underlying27 hi0 hz0 hz1 hz2 rfl (by decide) (.slice Ao k co) k hs rfl HO5.out (some ⟨w4.heap.size, 0, none⟩) 1 1 [.slice Ag n3 cg] rfl (rd_cell HNW.out) (by simp [Value.oneCell']) (by unfold maxLen; omega) (by omega) HW5.out ?_
                   intro v6 w6 hown6 hgrow6 _
                   have f6 : Fr w.heap.size [26] [] (w4.alloc (.cells #[.slice Ag n3 cg] 26)) w6 := (Fr.refl _).grown hgrow6 fun j hj => by
                     obtain ⟨hb, cs, hc⟩ := own_block HO5.out hj
                     exact ⟨hb, .inr ⟨cs, _, _, hc, by simp⟩⟩
                   have HF6 := Lib.hid f6
                   have HO6 := Lib.hid hown6
                   obtain ⟨A6, c6, rfl, _, _, _, _⟩ := own_slice hown6
                   clear hown6 hgrow6 f6)
      go_roundw
      case rel =>
        refine ⟨k + 1, hlt, by go_num, ?_⟩
        have e1 : gotsP want (offers.take (k + 1)) = gotsP want (offers.take k) ++ [G] := by rw [List.take_succ_eq_append_getElem hkl, gotsP_snoc, HLL.out, HOO.out, HG.out]
        have e2 : leftP want (offers.take (k + 1)) = restI L G := by rw [List.take_succ_eq_append_getElem hkl, leftP_snoc, HLL.out, HOO.out, HG.out]
        have hb4 : Below w4.heap.size w4 (w4.alloc (.cells #[.slice Ag n3 cg] 26)) := (Below.refl _ w4).alloc (Nat.le_refl _) _
        have hsl : hs.length = k := by have := HO1.out.1; omega
        refine ⟨⟨hs ++ [.slice Ag n3 cg], ?_, fun j hj => ?_⟩, ?_, (HBB.out.trans (HB5.out.mono HBB.out.size)).trans (HF6.out.below HW5.out)⟩
        · rw [e1, List.length_append, HNG.out]
          exact HO6.out
        · by_cases hjk : j < (gotsP want (offers.take k)).length
          · obtain ⟨u, k1, k2⟩ := HO2.out j hjk
            refine ⟨u, by rw [List.getElem?_append_left (by rw [HNG.out] at hjk; omega)]; exact k1, ?_⟩
            simp only [e1, List.getElem_append_left hjk]
            exact HF6.out.own ((Fr.of_below (B := 0) (T := []) (S := []) HB5.out).own k2 (by simp) (by simp)) (by decide) (by simp)
          · have hj2 : j < (gotsP want (offers.take k) ++ [G]).length := by rw [← e1]; exact hj
            have hjk2 : j = k := by rw [List.length_append, HNG.out] at hj2; rw [HNG.out] at hjk; simp at hj2; omega
            subst hjk2
            refine ⟨.slice Ag n3 cg, by rw [List.getElem?_append_right (by omega), hsl]; simp, ?_⟩
            have eg : (gotsP want (offers.take (j + 1)))[j] = G := by
              simp only [e1]
              rw [List.getElem_append_right (by omega)]
              simp
            rw [eg, HN3.out]
            have h3 := HG5.out
            rw [HN3.out] at h3
            exact ownI_low (HF6.out.own h3 (by decide) (by simp)) HBB.out.size
        · rw [e2]
          exact RdI.own (HF6.out.own ((Fr.of_below (B := 0) (T := []) (S := []) hb4).own HRO.out (by simp) (by simp)) (by decide) (by simp))
      case measure => simp [intOf]; omega
    · have ekm : k = m := by omega
      subst ekm
      obtain ⟨ho, hl, hb⟩ := HJ.out.out
      rw [List.take_of_length_le (by have := HM.out; omega)] at ho hl
      have HO := Lib.hid ho
      have HL := Lib.hid hl
      have HBB := Lib.hid hb
      clear ho hl hb
      go_wp2
      go_ret2
      exact ⟨_, _, rfl, HO.out, HL.out, HBB.out⟩
end Go.Proofs.Ytlcnkicmepcppaa
