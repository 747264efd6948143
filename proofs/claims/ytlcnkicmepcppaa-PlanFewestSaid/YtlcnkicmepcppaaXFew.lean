/- The reference's Fewest. -/
import Derived.Test.YtlcnkicmepcppaaXAhead
import Derived.Test.YtlcnkicmepcppaaPPlain4
namespace Go.Proofs.Ytlcnkicmepcppaa
open Go.RowKit
theorem bit2_all : ∀ c : Fin 256, ∀ j : Fin 8, (((c.val : Int) / 2 ^ j.val).tmod 2 == 1) = c.val.testBit j.val := by decide +kernel
theorem bit2_at {c j : Nat} (hc : c < 256) (hj : j < 8) : (((c : Int) / 2 ^ j).tmod 2 == 1) = c.testBit j := bit2_all ⟨c, hc⟩ ⟨j, hj⟩
set_option maxRecDepth 100000 in
set_option maxHeartbeats 3000000 in
theorem xfewest_any (v1 v2 : Value) (want : List It) (offers : List (List It)) (w : World) (h1 : RdI w v1 want) (h2 : RdII w v2 offers) (hmp : mayP want offers = true) (hw : want ≠ []) :
    Calls Try.prog 19 #[v1, v2] w (RetR w (intsN (xfewK want offers (2 ^ offers.length)))) := by
  obtain ⟨i0, hi0, hz0, hz1, hz2⟩ := info_parts Try.infoItems
  obtain ⟨i1, hi1, hy0, hy1, hy2⟩ := info_parts Try.infoInt
  have H1 := Lib.hid h1
  obtain ⟨A1, c1, rfl, _, _, _⟩ := h1
  obtain ⟨A2, c2, hs2, rfl, hc1, hc2, hr, hi⟩ := h2
  have HR := Lib.hid hr
  have HI := Lib.hid hi
  have HMP := Lib.hid hmp
  have hm8 := (mayP_parts hmp).2.1
  obtain ⟨m, hm2⟩ : ∃ m, offers.length = m := ⟨_, rfl⟩
  have HM := Lib.hid hm2
  have h0 : ¬ want.length = 0 := fun e => hw (List.length_eq_zero_iff.1 e)
  obtain ⟨n1, hn1⟩ : ∃ n1, want.length = n1 := ⟨_, rfl⟩
  rw [hn1] at H1 h0 ⊢
  rw [hm2] at hm8 ⊢
  clear hr hi hm2 hn1 hc1 hc2 hmp hw
  obtain ⟨N, hN⟩ : ∃ N : Nat, 2 ^ m = N := ⟨_, rfl⟩
  have hN8 : N ≤ 256 := by rw [← hN]; exact Nat.pow_le_pow_right (by omega) hm8
  have hNi : (2 : Int) ^ m = (N : Int) := by rw [← hN]; simp
  have hwN : IntKind.i64.wrap (N : Int) = (N : Int) := IntWalk.i64_in _ (by omega)
  have hd0 : ((n1 : Int) == 0) = false := by simp [h0]
  rw [hN]
  have HNN := Lib.hid hN
  clear hN
  go_enter Try.func19, Try.ntmps19
  go_wp2_with fail
  go_loopw [5, 6] (fun bv iv wr => ∃ k : Nat, k ≤ N ∧ iv = .int .i64 k ∧ RdN wr bv (intsN (xfewK want offers k)) ∧ Below w.heap.size w wr) (fun _ iv => fun _ => N - (intOf iv).toNat)
  case atStart => exact ⟨0, Nat.zero_le _, rfl, RdN.nil _, Below.refl _ _⟩
  case round =>
    obtain ⟨k, hk, rfl, hbest, hbw⟩ := hrel
    obtain ⟨best, hbst⟩ : ∃ best, xfewK want offers k = best := ⟨_, rfl⟩
    have HST : Hid (xfewK want offers (k + 1) = xfewStep want offers best k) := Lib.hid (by rw [xfewK_succ, hbst])
    rw [hbst] at hbest
    have HBS := Lib.hid hbst
    obtain ⟨Ab, cb, rfl, hrb⟩ := hbest
    obtain ⟨nb, hnb⟩ : ∃ nb, (intsN best).length = nb := ⟨_, rfl⟩
    have HNB := Lib.hid hnb
    rw [hnb]
    clear hbst hnb
    by_cases hlt : k < N
    · have hlt' : decide ((k : Int) < (N : Int)) = true := by simp; omega
      have hlt2 : decide (k < N) = true := by simpa using hlt
      have HBW := Lib.hid hbw
      have HRB := Lib.hid hrb
      clear hbw hrb
      go_wp2_with fail
      obtain ⟨w3, hw3⟩ : ∃ w3, w3 = wr := ⟨_, rfl⟩
      subst hw3
      go_loopw [7, 8, 9] (fun sv pv jv wr2 => ∃ j : Nat, j ≤ m ∧ jv = .int .i64 j ∧ Below w3.heap.size w3 wr2 ∧ wr2.ownsRow w3.heap.size 26 1 sv (placesK k j).length ((placesK k j).map (fun i => hs2.getD i undef)) ∧ wr2.ownsRow w3.heap.size 3 1 pv (placesK k j).length ((intsN (placesK k j)).map i64v)) (fun _ _ jv => fun _ => m - (intOf jv).toNat)
      case atStart => exact ⟨0, Nat.zero_le _, rfl, Below.refl _ _, World.ownsRow_nil _ _ _ _, World.ownsRow_nil _ _ _ _⟩
      case round =>
        obtain ⟨j, hj, rfl, hbr, ho1, ho2⟩ := hrel
        obtain ⟨n, hn⟩ : ∃ n, (placesK k j).length = n := ⟨_, rfl⟩
        rw [hn] at ho1 ho2
        obtain ⟨Ap, cp, rfl, _, _, hrpv, _⟩ := own_slice ho2
        have HRPV := Lib.hid hrpv
        clear hrpv
        obtain ⟨Al, cl, rfl, _, _, _, _⟩ := own_slice ho1
        by_cases hjm : j < m
        · have hjm' : decide ((j : Int) < (m : Int)) = true := by simp; omega
          have hbit := bit2_at (c := k) (j := j) (by omega) (by omega)
          have hsu := placesK_succ k j
          obtain ⟨T, hT⟩ : ∃ T, k.testBit j = T := ⟨_, rfl⟩
          rw [hT] at hbit hsu
          have HSU := Lib.hid hsu
          have HNN2 := Lib.hid hn
          have HO1 := Lib.hid ho1
          have HO2 := Lib.hid ho2
          have HBR := Lib.hid hbr
          clear hT hsu hn ho1 ho2 hbr
          cases T
          · go_wp2_with fail
            go_roundw
            case rel => exact ⟨j + 1, hjm, by go_num, HBR.out, by rw [HSU.out, if_neg (by simp), HNN2.out]; exact HO1.out, by rw [HSU.out, if_neg (by simp), HNN2.out]; exact HO2.out⟩
            case measure => simp [intOf]; omega
          · have hjo : j < offers.length := by have := HM.out; omega
            obtain ⟨go, oo, rfl, hgo, hco⟩ := HR.out.2 (by omega)
            obtain ⟨u, hu, hru⟩ := HI.out j hjo
            have HB3 := Lib.hid (HBW.out.trans (HBR.out.mono HBW.out.size))
            have co0 : wr.cell? ⟨go, oo + j, none⟩ = some u := (HB3.out.cell (p := ⟨go, oo + j, none⟩) hgo).trans (hco j u hu)
            have HU : Hid (hs2.getD j undef = u) := Lib.hid (by rw [List.getD_eq_getElem?_getD, hu]; rfl)
            obtain ⟨Au, cu, rfl, _⟩ := hru.bd
            obtain ⟨nu, hnu⟩ : ∃ nu, offers[j].length = nu := ⟨_, rfl⟩
            rw [hnu] at co0 HU
            have hn8 : n ≤ 8 := by have h := placesK_len k j; have := HNN2.out; omega
            have HBE := Lib.hid ((Below.refl _ wr).alloc (Nat.le_refl _) (.cells #[.slice Au nu cu] 26))
            have HNW := Lib.hid (block_new wr (.cells #[.slice Au nu cu] 26))
            have HP5 := Lib.hid ((Fr.of_below (B := 0) (T := []) (S := []) HBE.out).own HO1.out (by simp) (by simp))
            have HQ5 := Lib.hid ((Fr.of_below (B := 0) (T := []) (S := []) HBE.out).own HO2.out (by simp) (by simp))
            have HW5 : Hid (w3.heap.size ≤ (wr.alloc (.cells #[.slice Au nu cu] 26)).heap.size) := Lib.hid (Nat.le_trans HBR.out.size HBE.out.size)
            clear hco hu hnu hru hgo
            go_wp2_with (first
              | (at_builtin
                 refine wpList_append_rd _ rfl (.tmp 33) (.tmp 38) 27 rfl w3.heap.size 26 i0 (.slice none 0 0) 1 24 Try.underlying27 hi0 hz0 hz1 hz2 rfl (by decide) (.slice Al n cl) n ((placesK k j).map (fun i => hs2.getD i undef)) rfl HP5.out (some ⟨wr.heap.size, 0, none⟩) 1 1 [.slice Au nu cu] rfl (rd_cell HNW.out) (by simp [Value.oneCell']) (by unfold maxLen; omega) (by omega) HW5.out ?_
                 intro v6 w6 hown6 hgrow6 _
                 have f6 : Fr w3.heap.size [26] [] (wr.alloc (.cells #[.slice Au nu cu] 26)) w6 := (Fr.refl _).grown hgrow6 fun j hj => by
                   obtain ⟨hb, cs, hc⟩ := own_block HP5.out hj
                   exact ⟨hb, .inr ⟨cs, _, _, hc, by simp⟩⟩
                 have HB6 := Lib.hid ((HBR.out.trans (HBE.out.mono HBR.out.size)).trans (f6.below HW5.out))
                 have hq6 := f6.own HQ5.out (by decide) (by simp)
                 have HBN := Lib.hid ((Below.refl w6.heap.size w6).alloc (Nat.le_refl _) (.cells #[.int .i64 j] 3))
                 have HN6 := Lib.hid (block_new w6 (.cells #[.int .i64 j] 3))
                 have HP7 := Lib.hid ((Fr.of_below (B := 0) (T := []) (S := []) HBN.out).own hown6 (by simp) (by simp))
                 have HQ7 := Lib.hid ((Fr.of_below (B := 0) (T := []) (S := []) HBN.out).own hq6 (by simp) (by simp))
                 have HW7 := Lib.hid (Nat.le_trans HB6.out.size HBN.out.size)
                 obtain ⟨A6, c6, rfl, _, _, _, _⟩ := own_slice hown6
                 clear hown6 hgrow6 f6 hq6)
              | (at_builtin
                 refine wpList_append_rd _ rfl (.tmp 40) (.tmp 42) 22 rfl w3.heap.size 3 i1 (.int .i64 0) 1 8 Try.underlying22 hi1 hy0 hy1 hy2 rfl (by decide) (.slice Ap n cp) n ((intsN (placesK k j)).map i64v) rfl HQ7.out (some ⟨w6.heap.size, 0, none⟩) 1 1 [i64v j] rfl (rd_cell HN6.out) (by simp [i64v, Value.oneCell']) (by unfold maxLen; omega) (by omega) HW7.out ?_
                 intro v8 w8 hown8 hgrow8 _
                 have f8 : Fr w3.heap.size [3] [] (w6.alloc (.cells #[.int .i64 j] 3)) w8 := (Fr.refl _).grown hgrow8 fun j hj => by
                   obtain ⟨hb, cs, hc⟩ := own_block HQ7.out hj
                   exact ⟨hb, .inr ⟨cs, _, _, hc, by simp⟩⟩
                 have HB8 := Lib.hid ((HB6.out.trans (HBN.out.mono HB6.out.size)).trans (f8.below HW7.out))
                 have HP8 := Lib.hid (f8.own HP7.out (by decide) (by simp))
                 have HQ8 := Lib.hid hown8
                 obtain ⟨A8, c8, rfl, _, _, _, _⟩ := own_slice hown8
                 clear hown8 hgrow8 f8))
            go_roundw
            case rel =>
              have e : placesK k (j + 1) = placesK k j ++ [j] := by rw [HSU.out, if_pos rfl]
              refine ⟨j + 1, hjm, by go_num, HB8.out, ?_, ?_⟩
              · rw [e, List.length_append, HNN2.out, List.map_append, List.map_cons, List.map_nil, HU.out]
                exact HP8.out
              · rw [e, List.length_append, HNN2.out, intsN, List.map_append, List.map_append]
                exact HQ8.out
            case measure => simp [intOf]; omega
        · have ejm : j = m := by omega
          have hjm' : decide ((j : Int) < (m : Int)) = false := by simp; omega
          subst ejm
          have hkN : k < 2 ^ offers.length := by rw [HM.out, HNN.out]; exact hlt
          have hpc : placesK k 8 = placesK k j := places_cut hm8 (by rw [HNN.out]; exact hlt)
          have hLt : ∀ i ∈ placesK k j, i < offers.length := fun i hi => by have := (placesK_mem hi).1; have := HM.out; omega
          have hbwr := HBW.out.trans (hbr.mono HBW.out.size)
          have hrs : RdII wr (.slice Al n cl) (pickL offers (placesK k j)) := by
            obtain ⟨A', c', e', k1, k2, k3, _⟩ := own_slice ho1
            have hlen : (pickL offers (placesK k j)).length = n := by unfold pickL; rw [List.length_map]; exact hn
            refine ⟨A', c', _, by rw [hlen]; exact e', by rw [hlen]; exact k1, k2, by rw [hlen]; exact k3, fun i hi => ?_⟩
            have hiL : i < (placesK k j).length := by omega
            have hio := hLt _ (List.getElem_mem hiL)
            obtain ⟨u, hu, hru⟩ := HI.out _ hio
            refine ⟨u, by rw [List.getElem?_map, List.getElem?_eq_getElem hiL, Option.map_some, List.getD_eq_getElem?_getD, hu]; rfl, ?_⟩
            have he : (pickL offers (placesK k j))[i] = offers[(placesK k j)[i]] := (List.getElem_map (fun i => offers.getD i []) (l := placesK k j) (i := i) (h := by rw [List.length_map]; exact hiL)).trans (by rw [List.getD_eq_getElem?_getD, List.getElem?_eq_getElem hio]; rfl)
            rw [he]
            exact hru.below hbwr
          have HSP := Lib.hid (xpsplit_any (.slice A1 n1 c1) (.slice Al n cl) want (pickL offers (placesK k j)) wr (H1.out.below hbwr) hrs (by rw [← hpc]; exact pick_may HMP.out hkN))
          obtain ⟨Lf, hLf⟩ : ∃ Lf, leftP want (pickL offers (placesK k j)) = Lf := ⟨_, rfl⟩
          obtain ⟨L, hL⟩ : ∃ L, placesK k j = L := ⟨_, rfl⟩
          have HSTEP : Hid (xfewStep want offers best k = if Lf ≠ [] then best else if nb = 0 ∨ n < nb ∨ (n = nb ∧ cmpL (intsN L) (intsN best) < 0) then L else best) := Lib.hid (by
            unfold xfewStep
            rw [hpc, hLf, ← intsN_len best, HNB.out, hn, hL])
          rw [hLf] at HSP
          rw [hL] at ho2 hn HSP
          have hn8 : n ≤ 8 := by rw [← hn, ← hL]; have := placesK_len k j; omega
          have HPV := Lib.hid HRPV.out
          rw [hL] at HPV
          have HNJ := Lib.hid hn
          have HBWR := Lib.hid hbwr
          have HRB2 := Lib.hid (HRB.out.below hbr)
          have HLF := Lib.hid hLf
          clear hLf hL hrs hbwr ho1 ho2 hn hpc hbr hLt hkN HRPV
          go_wp2_with fail
          refine HSP.out.mono ?_
          rintro e w4 ⟨u1, u2, rfl, h1, hl, hb⟩
          obtain ⟨Aq, cq, rfl, _⟩ := hl.bd
          obtain ⟨Au, cu, _, rfl, _⟩ := h1
          have HB4 := Lib.hid (HBWR.out.trans (hb.mono HBWR.out.size))
          have HRB4 := Lib.hid (HRB2.out.below hb)
          have HPV4 := Lib.hid (HPV.out.below hb)
          obtain ⟨nq, hnq⟩ : ∃ nq, Lf.length = nq := ⟨_, rfl⟩
          rw [hnq]
          have HNQ := Lib.hid hnq
          clear hl hb hnq HSP
          by_cases hq : 0 < nq
          · have hq' : decide (0 < nq) = true := by simpa using hq
            have HQ : Hid (xfewStep want offers best k = best) := Lib.hid (by rw [HSTEP.out, if_pos (fun e => by have := HNQ.out; rw [e] at this; simp at this; omega)])
            have HRB5 := HRB4
            have HPV5 := HPV4
            have HB5 := HB4
            go_wp2_with fail
            go_roundw
            case rel => exact ⟨k + 1, hlt, by go_num, by rw [HST.out, HQ.out]; exact ⟨Ab, cb, by rw [HNB.out], HRB5.out⟩, HB5.out⟩
            case measure => simp [intOf]; omega
          · have hq' : decide (0 < nq) = false := by simp; omega
            have HSTEP2 : Hid (xfewStep want offers best k = if nb = 0 ∨ n < nb ∨ (n = nb ∧ cmpL (intsN L) (intsN best) < 0) then L else best) := Lib.hid (by rw [HSTEP.out, if_neg (by simp only [ne_eq, Decidable.not_not]; exact List.length_eq_zero_iff.1 (by have := HNQ.out; omega))])
            by_cases hb0 : nb = 0
            · have HQ : Hid (xfewStep want offers best k = L) := Lib.hid (by rw [HSTEP2.out, if_pos (.inl hb0)])
              subst hb0
              have HRB5 := HRB4
              have HPV5 := HPV4
              have HB5 := HB4
              go_wp2_with fail
              go_roundw
              case rel => exact ⟨k + 1, hlt, by go_num, by rw [HST.out, HQ.out]; exact ⟨Ap, cp, by rw [intsN_len, HNJ.out], by rw [intsN_len, HNJ.out]; exact HPV5.out⟩, HB5.out⟩
              case measure => simp [intOf]; omega
            · have hb0' : ((nb : Int) == 0) = false := by simp [hb0]
              by_cases hlb : n < nb
              · have hlb' : decide (n < nb) = true := by simpa using hlb
                have HQ : Hid (xfewStep want offers best k = L) := Lib.hid (by rw [HSTEP2.out, if_pos (.inr (.inl hlb))])
                have HRB5 := HRB4
                have HPV5 := HPV4
                have HB5 := HB4
                go_wp2_with fail
                go_roundw
                case rel => exact ⟨k + 1, hlt, by go_num, by rw [HST.out, HQ.out]; exact ⟨Ap, cp, by rw [intsN_len, HNJ.out], by rw [intsN_len, HNJ.out]; exact HPV5.out⟩, HB5.out⟩
                case measure => simp [intOf]; omega
              · have hlb' : decide (n < nb) = false := by simp; omega
                by_cases heq : n = nb
                · subst heq
                  have HSTEP3 : Hid (xfewStep want offers best k = if cmpL (intsN L) (intsN best) < 0 then L else best) := Lib.hid (by rw [HSTEP2.out]; congr 1; simp [hb0])
                  have HC := Lib.hid (xahead_any Ap cp (intsN L) Ab cb (intsN best) w4 (by rw [intsN_len, HNJ.out]; exact HPV4.out) HRB4.out (by rw [intsN_len, HNJ.out]; omega) (by rw [HNB.out, intsN_len, HNJ.out]))
                  rw [HNB.out, intsN_len, HNJ.out] at HC
                  obtain ⟨Z, hZ⟩ : ∃ Z, decide (cmpL (intsN L) (intsN best) < 0) = Z := ⟨_, rfl⟩
                  rw [hZ] at HC
                  have HZ := Lib.hid hZ
                  clear hZ
                  go_wp2_with fail
                  refine HC.out.mono ?_
                  rintro e w5 ⟨rfl, hb⟩
                  have HRB5 := Lib.hid (HRB4.out.below hb)
                  have HPV5 := Lib.hid (HPV4.out.below hb)
                  have HB5 := Lib.hid (HB4.out.trans (hb.mono HB4.out.size))
                  clear hb HC
                  cases Z
                  · have HQ : Hid (xfewStep want offers best k = best) := Lib.hid (by rw [HSTEP3.out, if_neg (by simpa using HZ.out)])
                    go_wp2_with fail
                    go_roundw
                    case rel => exact ⟨k + 1, hlt, by go_num, by rw [HST.out, HQ.out]; exact ⟨Ab, cb, by rw [HNB.out], HRB5.out⟩, HB5.out⟩
                    case measure => simp [intOf]; omega
                  · have HQ : Hid (xfewStep want offers best k = L) := Lib.hid (by rw [HSTEP3.out, if_pos (by simpa using HZ.out)])
                    go_wp2_with fail
                    go_roundw
                    case rel => exact ⟨k + 1, hlt, by go_num, by rw [HST.out, HQ.out]; exact ⟨Ap, cp, by rw [intsN_len, HNJ.out], by rw [intsN_len, HNJ.out]; exact HPV5.out⟩, HB5.out⟩
                    case measure => simp [intOf]; omega
                · have heq' : ((n : Int) == (nb : Int)) = false := by simp; omega
                  have heq2 : (n == nb) = false := by simp; omega
                  have HQ : Hid (xfewStep want offers best k = best) := Lib.hid (by rw [HSTEP2.out, if_neg (by omega)])
                  have HRB5 := HRB4
                  have HPV5 := HPV4
                  have HB5 := HB4
                  go_wp2_with fail
                  go_roundw
                  case rel => exact ⟨k + 1, hlt, by go_num, by rw [HST.out, HQ.out]; exact ⟨Ab, cb, by rw [HNB.out], HRB5.out⟩, HB5.out⟩
                  case measure => simp [intOf]; omega
    · have hlt' : decide ((k : Int) < (N : Int)) = false := by simp; omega
      have hlt2 : decide (k < N) = false := by simp; omega
      have HBW := Lib.hid hbw
      have HRB := Lib.hid hrb
      have HE : Hid (k = N) := Lib.hid (by omega)
      clear hbw hrb
      go_wp2
      go_ret
      refine ⟨_, rfl, ?_, HBW.out⟩
      rw [← HE.out, HBS.out, ← HNB.out]
      exact ⟨Ab, cb, rfl, HRB.out⟩
end Go.Proofs.Ytlcnkicmepcppaa
