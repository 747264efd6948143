/- plan.Split, Missing and Enough. -/
import Derived.Test.YtlcnkicmepcppaaPMay
import Derived.Lib.SliceRun
namespace Go.Proofs.Ytlcnkicmepcppaa
open Go.RowKit

theorem ownI_low {w : World} {B B' e size n : Nat} {v : Value} {xs : List Value} (h : w.ownsRow B e size v n xs) (hB : B' ≤ B) : w.ownsRow B' e size v n xs := by
  refine ⟨h.1, ?_⟩
  rcases h.2 with h | ⟨g, cap, cur, h1, h2, h3⟩
  · exact .inl h
  · exact .inr ⟨g, cap, cur, h1, Nat.le_trans hB h2, h3⟩
theorem i_one (l : List It) : ∀ u ∈ l.flatMap encI, u.oneCell' = true := fun u hu => by
  obtain ⟨z, _, hu⟩ := List.mem_flatMap.1 hu
  simp only [encI, List.mem_cons, List.not_mem_nil, or_false] at hu
  rcases hu with rfl | rfl <;> rfl
theorem own_empty {w : World} (T : TypeId) (size : Nat) : (w.alloc (.cells #[] T)).ownsRow w.heap.size T size (.slice (some ⟨w.heap.size, 0, none⟩) 0 0) 0 [] :=
  ⟨by simp, .inr ⟨_, 0, #[], rfl, Nat.le_refl _, block_new _ _, Nat.le_refl _, Nat.zero_le _, by simp, by simp⟩⟩
set_option maxRecDepth 100000 in
set_option maxHeartbeats 1000000 in
theorem clonei_any (A : Option Addr) (c : Nat) (l : List It) (w : World) (hr : Rd w 2 A l.length (l.flatMap encI)) (hm : l.length ≤ 1000) :
    Calls Try.prog 22 #[.slice A l.length c] w (RetI w l) := by
  obtain ⟨i1, hi1, hy0, hy1, hy2⟩ := info_parts Try.infoItem
  have HR := Lib.hid hr
  clear hr
  cases A with
  | none =>
    have hnil := fun w => Lib.run_eql_slice_nil (P := Try.prog) w 26 40 none l.length c 0 0 Try.underlying26
    go_enter Try.func22, Try.ntmps22
    have hl0 : l = [] := by
      cases l with
      | nil => rfl
      | cons a l => obtain ⟨g, o, e, _⟩ := HR.out.2 (by simp); cases e
    have HL := Lib.hid hl0
    clear hl0
    go_wp2
    go_ret
    exact ⟨_, rfl, by rw [HL.out]; exact World.ownsRow_nil _ _ _ _, Below.refl _ _⟩
  | some a =>
    have hnil := fun w => Lib.run_eql_slice_nil (P := Try.prog) w 26 40 (some a) l.length c 0 0 Try.underlying26
    go_enter Try.func22, Try.ntmps22
    have HR2 := Lib.hid (HR.out.below ((Below.refl _ w).alloc (Nat.le_refl _) (.cells #[] 40)))
    have HO := Lib.hid (own_empty (w := w) 40 2)
    go_wp2_with (at_builtin
                 refine wpList_append_rd _ rfl (.tmp 5) (.tmp 6) 26 rfl w.heap.size 40 i1 (.agg #[.string ByteArray.empty, .int .i64 0]) 2 24 Try.underlying26 hi1 hy0 hy1 hy2 rfl (by decide) (.slice (some ⟨w.heap.size, 0, none⟩) 0 0) 0 [] rfl HO.out (some a) l.length c (l.flatMap encI) rfl HR2.out (i_one l) (by unfold maxLen; omega) (by omega) (by simp) ?_
                 intro v2 w2 hown2 hgrow2 _
                 have hb2 : Below w.heap.size w w2 := ((Below.refl _ w).alloc (Nat.le_refl _) (.cells #[] 40)).trans ((((Fr.refl (w.alloc (.cells #[] 40))).grown (B := w.heap.size) (T := [40]) (S := []) hgrow2 fun j hj => by
                   obtain ⟨hb, cs, hc⟩ := own_block HO.out hj
                   exact ⟨hb, .inr ⟨cs, _, _, hc, by simp⟩⟩)).below (by simp))
                 simp only [Nat.zero_add, List.nil_append] at hown2
                 have HO2 := Lib.hid hown2
                 have HB2 := Lib.hid hb2
                 clear hown2 hgrow2 hb2)
    go_ret
    exact ⟨_, rfl, HO2.out, HB2.out⟩
theorem Try.infoItems : (Try.prog.info? 26).map (fun i => (i.zero, i.size, i.bytes)) = some (some (.slice none 0 0), 1, 24) := by kernel_rfl
/-- What Split answers. -/
def splitR (want : List It) (offers : List (List It)) : List (List It) × List It := if mayP want offers then (gotsP want offers, leftP want offers) else ([], [])
def RetS (w : World) (r : List (List It) × List It) (e : Ending) (W : World) : Prop := ∃ v1 v2, e = .returned (.tuple #[v1, v2]) ∧ RdII W v1 r.1 ∧ RdI W v2 r.2 ∧ Below w.heap.size w W
theorem RdII.nil (W : World) : RdII W (.slice none 0 0) [] := ⟨none, 0, [], rfl, Nat.le_refl _, Nat.zero_le _, Rd.nil, fun j h => absurd h (by simp)⟩
theorem rd_cell {W : World} {g : Nat} {v : Value} {T : TypeId} (h : W.heap[g]? = some (.cells #[v] T (0, 0))) : Rd W 1 (some ⟨g, 0, none⟩) 1 [v] :=
  ⟨rfl, fun _ => ⟨_, _, rfl, lt_of_block h, fun j u hu => by
    match j, hu with
    | 0, hu => simp at hu; subst hu; rw [cell_at h]; rfl
    | j + 1, hu => simp at hu⟩⟩
/-- Between two rounds of Split. -/
def SplitJ (w : World) (want : List It) (offers : List (List It)) (k : Nat) (ov lv : Value) (W : World) : Prop :=
  (∃ hs, W.ownsRow w.heap.size 26 1 ov (gotsP want (offers.take k)).length hs ∧ ∀ (j : Nat) (h : j < (gotsP want (offers.take k)).length), ∃ u, hs[j]? = some u ∧ W.ownsRow w.heap.size 40 2 u ((gotsP want (offers.take k))[j]).length (((gotsP want (offers.take k))[j]).flatMap encI)) ∧
    RdI W lv (leftP want (offers.take k)) ∧ Below w.heap.size w W
theorem SplitJ.out {w W : World} {want : List It} {offers : List (List It)} {k : Nat} {ov lv : Value} (h : SplitJ w want offers k ov lv W) : RdII W ov (gotsP want (offers.take k)) ∧ RdI W lv (leftP want (offers.take k)) ∧ Below w.heap.size w W := by
  obtain ⟨⟨hs, h1, h2⟩, h3, h4⟩ := h
  obtain ⟨A, c, e, k1, k2, k3, _⟩ := own_slice h1
  exact ⟨⟨A, c, hs, e, k1, k2, k3, fun j hj => by obtain ⟨u, e1, e2⟩ := h2 j hj; exact ⟨u, e1, RdI.own e2⟩⟩, h3, h4⟩

set_option maxRecDepth 100000 in
set_option maxHeartbeats 2000000 in
theorem psplit_any (v1 v2 : Value) (want : List It) (offers : List (List It)) (w : World) (h1 : RdI w v1 want) (h2 : RdII w v2 offers) (hb1 : BdL want) (hb2 : ∀ l ∈ offers, BdL l) (hm : offers.length ≤ 4611686018427387903) :
    Calls Try.prog 11 #[v1, v2] w (RetS w (splitR want offers)) := by
  obtain ⟨i0, hi0, hz0, hz1, hz2⟩ := info_parts Try.infoItems
  have HMAY := Lib.hid (pmay_any v1 v2 want offers w h1 h2 hb1 hb2 hm)
  have H1 := Lib.hid h1
  have H2 := Lib.hid h2
  have HB1 := Lib.hid hb1
  have HB2 := Lib.hid hb2
  obtain ⟨A1, c1, rfl, ha1, ha2, hr1⟩ := h1
  obtain ⟨A2, c2, hs2, rfl, hc1, hc2, hr, hi⟩ := h2
  have HR1 := Lib.hid hr1
  have HR := Lib.hid hr
  have HI := Lib.hid hi
  obtain ⟨m, hm2⟩ : ∃ m, offers.length = m := ⟨_, rfl⟩
  have HM := Lib.hid hm2
  obtain ⟨n1, hn1⟩ : ∃ n1, want.length = n1 := ⟨_, rfl⟩
  have HN := Lib.hid hn1
  obtain ⟨MP, hMP⟩ : ∃ MP, mayP want offers = MP := ⟨_, rfl⟩
  have HMP := Lib.hid hMP
  rw [hMP] at HMAY
  rw [hn1] at HMAY ⊢
  rw [hm2] at HMAY hm ⊢
  clear hr hi hb2 hb1 hm2 hn1 hMP hc1 hc2 hr1 ha1 ha2 H1 H2
  go_enter Try.func11, Try.ntmps11
  go_wp2_with fail
  refine HMAY.out.mono ?_
  rintro e w1 ⟨rfl, hb⟩
  have HBW := Lib.hid hb
  clear hb HMAY
  cases MP
  · go_wp2
    go_ret2
    exact ⟨_, _, rfl, by rw [show splitR want offers = ([], []) by unfold splitR; rw [HMP.out]; rfl]; exact ⟨RdII.nil _, RdI.nil _, HBW.out⟩⟩
  · have hmp := HMP.out
    unfold mayP at hmp
    simp only [Bool.and_eq_true, decide_eq_true_eq] at hmp
    obtain ⟨⟨hmw, hm8⟩, hall⟩ := hmp
    have HMW := Lib.hid hmw
    have HALL : Hid (∀ o ∈ offers, mayI o = true) := Lib.hid (fun o ho => List.all_eq_true.1 hall o ho)
    have hm8' : m ≤ 8 := by have := HM.out; omega
    have HSR : Hid (splitR want offers = (gotsP want offers, leftP want offers)) := Lib.hid (by unfold splitR; rw [HMP.out]; rfl)
    have hn16 : n1 ≤ 16 := by have := (mayI_at hmw).1; have := HN.out; omega
    have HCL : Hid (Calls Try.prog 22 #[.slice A1 n1 c1] w1 (RetI w1 want)) := Lib.hid (by
      have := clonei_any A1 c1 want w1 (HR1.out.below HBW.out) (by have := HN.out; omega)
      rw [HN.out] at this
      exact this)
    clear hmw hall hm8
    go_wp2_with fail
    refine HCL.out.mono ?_
    rintro e w2 ⟨lv, rfl, ho, hb⟩
    obtain ⟨Al, cl, hlv, _⟩ := own_slice ho
    have HLV := Lib.hid hlv
    have HJ0 : Hid (SplitJ w want offers 0 (.slice none 0 0) lv w2) := Lib.hid ⟨⟨[], World.ownsRow_nil _ _ _ _, fun j h => absurd h (by simp [gotsP])⟩, RdI.own ho, HBW.out.trans (hb.mono HBW.out.size)⟩
    clear ho hb hlv HCL
    go_wp2_with fail
    go_loopw [6, 7, 19] (fun lv ov iv wr => ∃ k : Nat, k ≤ m ∧ iv = .int .i64 k ∧ SplitJ w want offers k ov lv wr) (fun _ _ iv _ => m - (intOf iv).toNat)
    case atStart => exact ⟨0, Nat.zero_le _, rfl, HJ0.out⟩
    case round =>
      obtain ⟨k, hk, rfl, hj⟩ := hrel
      rename_i lv2 ov2
      have HJ := Lib.hid hj
      clear hj HJ0
      by_cases hlt : k < m
      · have hkl : k < offers.length := by have := HM.out; omega
        obtain ⟨g, o, rfl, hg, hcell⟩ := HR.out.2 (by omega)
        obtain ⟨u, hu, hru⟩ := HI.out k hkl
        obtain ⟨⟨hs, ho1, ho2⟩, hl, hbw⟩ := HJ.out
        have c0 := (hbw.cell (p := ⟨g, o + k, none⟩) hg).trans (hcell k u hu)
        have hok := HALL.out _ (List.getElem_mem hkl)
        have hlm := leftP_may (l := offers.take k) HMW.out (fun x hx => HALL.out x (List.mem_of_mem_take hx))
        have hru2 := hru.below hbw
        obtain ⟨L, hL⟩ : ∃ L, leftP want (offers.take k) = L := ⟨_, rfl⟩
        obtain ⟨O, hO⟩ : ∃ O, offers[k] = O := ⟨_, rfl⟩
        rw [hL] at hl hlm
        rw [hO] at hru2 hok
        obtain ⟨Al2, cl2, rfl, hRL⟩ := hl.bd
        obtain ⟨Au, cu, rfl, hRU⟩ := hru2.bd
        obtain ⟨Ao, co, rfl, _, _, _, _⟩ := own_slice ho1
        have HRL := Lib.hid hRL
        have HRU := Lib.hid hRU
        have HLM := Lib.hid hlm
        have HOK := Lib.hid hok
        have HLL := Lib.hid hL
        have HOO : Hid (offers[k] = O) := Lib.hid hO
        have HO1 := Lib.hid ho1
        have HO2 := Lib.hid ho2
        have HBB := Lib.hid hbw
        obtain ⟨nl, hnl⟩ : ∃ nl, L.length = nl := ⟨_, rfl⟩
        obtain ⟨nu, hnu⟩ : ∃ nu, O.length = nu := ⟨_, rfl⟩
        have HC := Lib.hid (meet_any Al2 cl2 L Au cu O wr HRL.out (bd_of_may hlm) (BdL.of hlm).2 HRU.out (bd_of_may hok) (BdL.of hok).2 hlm hok)
        have HNL := Lib.hid hnl
        have HNU := Lib.hid hnu
        rw [hnl] at HC
        rw [hnu] at HC c0
        rw [hnl]
        obtain ⟨ng, hng⟩ : ∃ ng, (gotsP want (offers.take k)).length = ng := ⟨_, rfl⟩
        have hngk : ng = k := by rw [← hng, gotsP_len, List.length_take]; have := HM.out; omega
        have HNG := Lib.hid hng
        rw [hng] at HO1 ⊢
        obtain rfl := hngk.symm
        clear hcell hu hru hru2 hl hRL hRU hlm hok hL hO ho1 ho2 hbw hnl hnu hng
        go_wp2_with fail
        refine HC.out.mono ?_
        rintro e w3 ⟨gv, rfl, hgo, hgb⟩
        obtain ⟨G, hG⟩ : ∃ G, meetI L O = G := ⟨_, rfl⟩
        rw [hG] at hgo
        have hgm : mayI G = true := by rw [← hG]; exact meetI_may HLM.out HOK.out
        obtain ⟨Ag, cg, rfl, _, _, hRG, _⟩ := own_slice hgo
        have HG := Lib.hid hG
        have HGM := Lib.hid hgm
        have HGO := Lib.hid hgo
        have HGB := Lib.hid hgb
        have HC2 := Lib.hid (rest_any Al2 cl2 L Ag cg G w3 (HRL.out.below hgb) (bd_of_may HLM.out) (BdL.of HLM.out).2 hRG (bd_of_may hgm) (BdL.of hgm).2 HLM.out hgm)
        obtain ⟨n3, hn3⟩ : ∃ n3, G.length = n3 := ⟨_, rfl⟩
        rw [HNL.out, hn3] at HC2
        have HN3 := Lib.hid hn3
        rw [hn3]
        clear hgo hgb hG hgm hRG hn3 HC c0
        go_wp2_with fail
        refine HC2.out.mono ?_
        rintro e w4 ⟨rv, rfl, hro, hrb⟩
        have HRO := Lib.hid hro
        have HRB := Lib.hid hrb
        have hb4 : Below wr.heap.size wr w4 := HGB.out.trans (hrb.mono HGB.out.size)
        have hb5 : Below wr.heap.size wr (w4.alloc (.cells #[.slice Ag n3 cg] 26)) := hb4.alloc hb4.size _
        have HB5 := Lib.hid hb5
        have HNW := Lib.hid (block_new w4 (.cells #[.slice Ag n3 cg] 26))
        have HO5 := Lib.hid ((Fr.of_below (B := 0) (T := []) (S := []) hb5).own HO1.out (by simp) (by simp))
        have HG5 := Lib.hid ((Fr.of_below (B := 0) (T := []) (S := []) (hrb.alloc hrb.size (.cells #[.slice Ag n3 cg] 26))).own HGO.out (by simp) (by simp))
        have HW5 : Hid (w.heap.size ≤ (w4.alloc (.cells #[.slice Ag n3 cg] 26)).heap.size) := Lib.hid (Nat.le_trans HBB.out.size hb5.size)
        clear hro hrb hb4 hb5 HC2
        go_wp2_with (at_builtin
                     refine wpList_append_rd _ rfl (.tmp 29) (.tmp 31) 27 rfl w.heap.size 26 i0 (.slice none 0 0) 1 24 Try.underlying27 hi0 hz0 hz1 hz2 rfl (by decide) (.slice Ao k co) k hs rfl HO5.out (some ⟨w4.heap.size, 0, none⟩) 1 1 [.slice Ag n3 cg] rfl (rd_cell HNW.out) (by simp [Value.oneCell']) (by unfold maxLen; omega) (by omega) HW5.out ?_
                     intro v6 w6 hown6 hgrow6 _
                     have f6 : Fr w.heap.size [26] [] (w4.alloc (.cells #[.slice Ag n3 cg] 26)) w6 := (Fr.refl _).grown hgrow6 fun j hj => by
                       obtain ⟨hb, cs, hc⟩ := own_block HO5.out hj
                       exact ⟨hb, .inr ⟨cs, _, _, hc, by simp⟩⟩
                     have HF6 := Lib.hid f6
                     have HO6 := Lib.hid hown6
                     obtain ⟨A6, c6, rfl, _, _, _, _⟩ := own_slice hown6
                     clear hown6 hgrow6 f6)
        go_roundw
        case rel =>
          refine ⟨k + 1, hlt, by go_num, ?_⟩
          have e1 : gotsP want (offers.take (k + 1)) = gotsP want (offers.take k) ++ [G] := by rw [List.take_succ_eq_append_getElem hkl, gotsP_snoc, HLL.out, HOO.out, HG.out]
          have e2 : leftP want (offers.take (k + 1)) = restI L G := by rw [List.take_succ_eq_append_getElem hkl, leftP_snoc, HLL.out, HOO.out, HG.out]
          have hb4 : Below w4.heap.size w4 (w4.alloc (.cells #[.slice Ag n3 cg] 26)) := (Below.refl _ w4).alloc (Nat.le_refl _) _
          have hsl : hs.length = k := by have := HO1.out.1; omega
          refine ⟨⟨hs ++ [.slice Ag n3 cg], ?_, fun j hj => ?_⟩, ?_, (HBB.out.trans (HB5.out.mono HBB.out.size)).trans (HF6.out.below HW5.out)⟩
          · rw [e1, List.length_append, HNG.out]
            exact HO6.out
          · by_cases hjk : j < (gotsP want (offers.take k)).length
            · obtain ⟨u, k1, k2⟩ := HO2.out j hjk
              refine ⟨u, by rw [List.getElem?_append_left (by rw [HNG.out] at hjk; omega)]; exact k1, ?_⟩
              simp only [e1, List.getElem_append_left hjk]
              exact HF6.out.own ((Fr.of_below (B := 0) (T := []) (S := []) HB5.out).own k2 (by simp) (by simp)) (by decide) (by simp)
            · have hj2 : j < (gotsP want (offers.take k) ++ [G]).length := by rw [← e1]; exact hj
              have hjk2 : j = k := by rw [List.length_append, HNG.out] at hj2; rw [HNG.out] at hjk; simp at hj2; omega
              subst hjk2
              refine ⟨.slice Ag n3 cg, by rw [List.getElem?_append_right (by omega), hsl]; simp, ?_⟩
              have eg : (gotsP want (offers.take (j + 1)))[j] = G := by
                simp only [e1]
                rw [List.getElem_append_right (by omega)]
                simp
              rw [eg, HN3.out]
              have h3 := HG5.out
              rw [HN3.out] at h3
              exact ownI_low (HF6.out.own h3 (by decide) (by simp)) HBB.out.size
          · rw [e2]
            exact RdI.own (HF6.out.own ((Fr.of_below (B := 0) (T := []) (S := []) hb4).own HRO.out (by simp) (by simp)) (by decide) (by simp))
        case measure => simp [intOf]; omega
      · have ekm : k = m := by omega
        subst ekm
        obtain ⟨ho, hl, hb⟩ := HJ.out.out
        rw [List.take_of_length_le (by have := HM.out; omega)] at ho hl
        have HO := Lib.hid ho
        have HL := Lib.hid hl
        have HBB := Lib.hid hb
        clear ho hl hb
        go_wp2
        go_ret2
        exact ⟨_, _, rfl, by rw [HSR.out]; exact ⟨HO.out, HL.out, HBB.out⟩⟩

set_option maxRecDepth 100000 in
theorem pmiss_any (v1 v2 : Value) (want : List It) (offers : List (List It)) (w : World) (h1 : RdI w v1 want) (h2 : RdII w v2 offers) (hb1 : BdL want) (hb2 : ∀ l ∈ offers, BdL l) (hm : offers.length ≤ 4611686018427387903) :
    Calls Try.prog 20 #[v1, v2] w fun e W => ∃ v, e = .returned v ∧ RdI W v (splitR want offers).2 ∧ Below w.heap.size w W := by
  have H := Lib.hid (psplit_any v1 v2 want offers w h1 h2 hb1 hb2 hm)
  clear h1 h2 hb1 hb2 hm
  go_enter Try.func20, Try.ntmps20
  go_wp2_with fail
  refine H.out.mono ?_
  rintro e w1 ⟨u1, u2, rfl, _, hr2, hb⟩
  have HR := Lib.hid hr2
  have HB := Lib.hid hb
  clear hr2 hb
  go_wp2
  go_ret
  exact ⟨_, rfl, HR.out, HB.out⟩
def enoughR (want : List It) (offers : List (List It)) : Bool := mayP want offers && decide ((splitR want offers).2.length = 0)
set_option maxRecDepth 100000 in
set_option maxHeartbeats 1000000 in
theorem pen_any (v1 v2 : Value) (want : List It) (offers : List (List It)) (w : World) (h1 : RdI w v1 want) (h2 : RdII w v2 offers) (hb1 : BdL want) (hb2 : ∀ l ∈ offers, BdL l) (hm : offers.length ≤ 4611686018427387903) :
    Calls Try.prog 12 #[v1, v2] w fun e W => e = .returned (.bool (enoughR want offers)) ∧ Below w.heap.size w W := by
  have H := Lib.hid (psplit_any v1 v2 want offers w h1 h2 hb1 hb2 hm)
  have HC : Hid (∀ W, Below w.heap.size w W → Calls Try.prog 21 #[v1, v2] W fun e w' => e = .returned (.bool (mayP want offers)) ∧ Below W.heap.size W w') := Lib.hid (fun W hW => pmay_any v1 v2 want offers W (h1.below hW) (h2.below hW) hb1 hb2 hm)
  clear h1 h2 hb1 hb2 hm
  obtain ⟨MP, hMP⟩ : ∃ MP, mayP want offers = MP := ⟨_, rfl⟩
  obtain ⟨n, hn⟩ : ∃ n, (splitR want offers).2.length = n := ⟨_, rfl⟩
  have HER : Hid (enoughR want offers = (MP && decide (n = 0))) := Lib.hid (by unfold enoughR; rw [hMP, hn])
  rw [hMP] at HC
  have HN := Lib.hid hn
  clear hMP hn
  go_enter Try.func12, Try.ntmps12
  go_wp2_with fail
  refine H.out.mono ?_
  rintro e w1 ⟨u1, u2, rfl, _, hr2, hb⟩
  obtain ⟨A, c, rfl, _⟩ := hr2
  rw [HN.out]
  have HB := Lib.hid hb
  clear hb
  go_wp2_with fail
  refine (HC.out w1 HB.out).mono ?_
  rintro e w2 ⟨rfl, hb⟩
  have HB2 := Lib.hid (HB.out.trans (hb.mono HB.out.size))
  clear hb
  cases MP
  · go_wp2
    go_ret
    exact ⟨ret_bool HER.out.symm, HB2.out⟩
  · by_cases h0 : n = 0
    · have h0' : decide (n = 0) = true := by simpa using h0
      go_wp2
      go_ret
      exact ⟨ret_bool (by rw [HER.out, h0']; rfl), HB2.out⟩
    · have h0' : decide (n = 0) = false := by simpa using h0
      go_wp2
      go_ret
      exact ⟨ret_bool (by rw [HER.out]; simp [h0]), HB2.out⟩
end Go.Proofs.Ytlcnkicmepcppaa
