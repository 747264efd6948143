/- plan.Fewest. -/
import Derived.Test.YtlcnkicmepcppaaPOnes
namespace Go.Proofs.Ytlcnkicmepcppaa
open Go.RowKit

def RdN (W : World) (v : Value) (l : List Int) : Prop := ∃ A c, v = .slice A l.length c ∧ Rd W 1 A l.length (l.map i64v)
theorem RdN.below {W W' : World} {v : Value} {l : List Int} (h : RdN W v l) (b : Below W.heap.size W W') : RdN W' v l := by
  obtain ⟨A, c, e, h⟩ := h
  exact ⟨A, c, e, h.below b⟩
theorem RdN.own {W : World} {B : Nat} {v : Value} {l : List Int} (h : W.ownsRow B 3 1 v l.length (l.map i64v)) : RdN W v l := by
  obtain ⟨A, c, e, _, _, h3, _⟩ := own_slice h
  exact ⟨A, c, e, h3⟩
theorem RdN.nil (W : World) : RdN W (.slice none 0 0) [] := ⟨none, 0, rfl, Rd.nil⟩
/-- What Fewest leaves. -/
def RetR (w : World) (l : List Int) (e : Ending) (W : World) : Prop := ∃ v, e = .returned v ∧ RdN W v l ∧ Below w.heap.size w W
/-- The offers of a choice. -/
def pickL (offers : List (List It)) (l : List Nat) : List (List It) := l.map fun i => offers.getD i []
def fewStep (want : List It) (offers : List (List It)) (best : List Nat) (c : Nat) : List Nat :=
  if best.length < (placesK c 8).length ∨ ((placesK c 8).length = best.length ∧ 0 ≤ cmpL (intsN (placesK c 8)) (intsN best)) then best
  else if enoughR want (pickL offers (placesK c 8)) then placesK c 8 else best
def fewK (want : List It) (offers : List (List It)) (k : Nat) : List Nat := (List.range k).foldl (fewStep want offers) (placesK (2 ^ offers.length - 1) 8)
def fewP (want : List It) (offers : List (List It)) : List Nat := if want.length = 0 ∨ enoughR want offers = false then [] else fewK want offers (2 ^ offers.length)
theorem fewK_succ (want : List It) (offers : List (List It)) (k : Nat) : fewK want offers (k + 1) = fewStep want offers (fewK want offers k) k := by
  unfold fewK
  rw [List.range_succ, List.foldl_append]
  rfl
theorem fewK_len (want : List It) (offers : List (List It)) (k : Nat) : (fewK want offers k).length ≤ 8 := by
  induction k with
  | zero => exact placesK_len _ _
  | succ k ih =>
    rw [fewK_succ]
    unfold fewStep
    split
    · exact ih
    · split
      · exact placesK_len _ _
      · exact ih
theorem intsN_len (l : List Nat) : (intsN l).length = l.length := by simp [intsN]
theorem placesK_mem {c k i : Nat} (h : i ∈ placesK c k) : i < k ∧ c.testBit i = true := by
  unfold placesK at h
  rw [List.mem_filter, List.mem_range] at h
  exact h
theorem placesK_lt {c m i : Nat} (hc : c < 2 ^ m) (h : i ∈ placesK c 8) : i < m := by
  have h2 := (placesK_mem h).2
  by_cases hi : i < m
  · exact hi
  · have := Nat.testBit_lt_two_pow (Nat.lt_of_lt_of_le hc (Nat.pow_le_pow_right (by omega) (show m ≤ i by omega)))
    rw [this] at h2
    cases h2
set_option maxRecDepth 100000 in
set_option maxHeartbeats 3000000 in
theorem fewest_any (v1 v2 : Value) (want : List It) (offers : List (List It)) (w : World) (h1 : RdI w v1 want) (h2 : RdII w v2 offers) (hb1 : BdL want) (hb2 : ∀ l ∈ offers, BdL l) (hm : offers.length ≤ 4611686018427387903) :
    Calls Try.prog 18 #[v1, v2] w (RetR w (intsN (fewP want offers))) := by
  obtain ⟨i0, hi0, hz0, hz1, hz2⟩ := info_parts Try.infoItems
  have HEN := Lib.hid (pen_any v1 v2 want offers w h1 h2 hb1 hb2 hm)
  have H1 := Lib.hid h1
  have HB1 := Lib.hid hb1
  have HB2 := Lib.hid hb2
  obtain ⟨A1, c1, rfl, _, _, _⟩ := h1
  obtain ⟨A2, c2, hs2, rfl, hc1, hc2, hr, hi⟩ := h2
  have HR := Lib.hid hr
  have HI := Lib.hid hi
  obtain ⟨m, hm2⟩ : ∃ m, offers.length = m := ⟨_, rfl⟩
  have HM := Lib.hid hm2
  obtain ⟨n1, hn1⟩ : ∃ n1, want.length = n1 := ⟨_, rfl⟩
  have HN := Lib.hid hn1
  obtain ⟨E, hE⟩ : ∃ E, enoughR want offers = E := ⟨_, rfl⟩
  have HE := Lib.hid hE
  rw [hE, hn1, hm2] at HEN
  rw [hn1] at H1 ⊢
  rw [hm2] at hm ⊢
  clear hr hi hb2 hb1 hm2 hn1 hE hc1 hc2
  go_enter Try.func18, Try.ntmps18
  by_cases h0 : n1 = 0
  · have hd0 : ((n1 : Int) == 0) = true := by simp [h0]
    have HF : Hid (fewP want offers = []) := Lib.hid (by unfold fewP; rw [if_pos (.inl (by rw [HN.out]; exact h0))])
    clear HEN
    go_wp2
    go_ret
    exact ⟨_, rfl, by rw [HF.out]; exact RdN.nil _, Below.refl _ _⟩
  have hd0 : ((n1 : Int) == 0) = false := by simp [h0]
  go_wp2_with fail
  refine HEN.out.mono ?_
  rintro e w1 ⟨rfl, hb⟩
  have HBW := Lib.hid hb
  clear hb HEN
  cases E
  · have HF : Hid (fewP want offers = []) := Lib.hid (by unfold fewP; rw [if_pos (.inr HE.out)])
    go_wp2
    go_ret
    exact ⟨_, rfl, by rw [HF.out]; exact RdN.nil _, HBW.out⟩
  have HF : Hid (fewP want offers = fewK want offers (2 ^ m)) := Lib.hid (by unfold fewP; rw [HN.out, HE.out, HM.out, if_neg (by simp [h0])])
  have hm8 : m ≤ 8 := by
    have h := HE.out
    unfold enoughR mayP at h
    simp only [Bool.and_eq_true, decide_eq_true_eq] at h
    have := h.1.1.2
    have := HM.out
    omega
  obtain ⟨N, hN⟩ : ∃ N : Nat, 2 ^ m = N := ⟨_, rfl⟩
  have hN1 : 1 ≤ N := by rw [← hN]; exact Nat.one_le_two_pow
  have hN8 : N ≤ 256 := by rw [← hN]; exact Nat.pow_le_pow_right (by omega) hm8
  have hNi : (2 : Int) ^ m = (N : Int) := by rw [← hN]; simp
  have HNN := Lib.hid hN
  have HP0 := Lib.hid (places_any (N - 1) w1 (by omega))
  have hN2 : ((N : Int) - 1) = ((N - 1 : Nat) : Int) := by omega
  rw [HNN.out] at HF
  have HK0 : Hid (fewK want offers 0 = placesK (N - 1) 8) := Lib.hid (by unfold fewK; rw [HM.out, HNN.out]; rfl)
  clear hN
  obtain ⟨N1, hN1e⟩ : ∃ N1, N - 1 = N1 := ⟨_, rfl⟩
  rw [hN1e] at hN2 HP0 HK0
  have hwN : IntKind.i64.wrap (N : Int) = (N : Int) := IntWalk.i64_in _ (by omega)
  have hw1 : IntKind.i64.wrap (N1 : Int) = (N1 : Int) := IntWalk.i64_in _ (by omega)
  have hsh : Op.shift .shl .i64 1 .i64 (m : Int) = pure (.int .i64 (N : Int)) := by
    rw [shift_shl .i64 .i64 1 (m : Int) (by omega) (by show (m : Int) ≤ 64; omega), Int.toNat_natCast, hNi, Int.one_mul, hwN]
  go_wp2_with fail
  refine HP0.out.mono ?_
  rintro e w2 ⟨bv, rfl, ho, hb⟩
  have HBV := Lib.hid (RdN.own ho)
  have HBW2 := Lib.hid (HBW.out.trans (hb.mono HBW.out.size))
  rw [← HK0.out] at HBV
  clear ho hb HP0
  obtain ⟨Ab0, cb0, rfl, _⟩ := HBV.out
  go_wp2_with fail
  go_loopw [5, 28] (fun bv iv wr => ∃ k : Nat, k ≤ N ∧ iv = .int .i64 k ∧ RdN wr bv (intsN (fewK want offers k)) ∧ Below w.heap.size w wr) (fun _ iv => fun _ => N - (intOf iv).toNat)
  case atStart => exact ⟨0, Nat.zero_le _, rfl, HBV.out, HBW2.out⟩
  case round =>
    obtain ⟨k, hk, rfl, hbest, hbw⟩ := hrel
    have HBW3 := Lib.hid hbw
    clear hbw HBV
    obtain ⟨b, hb⟩ : ∃ b, fewK want offers k = b := ⟨_, rfl⟩
    have hb8 : b.length ≤ 8 := by rw [← hb]; exact fewK_len _ _ _
    have hst : fewK want offers (k + 1) = fewStep want offers b k := by rw [fewK_succ, hb]
    have HST := Lib.hid hst
    have HBK := Lib.hid hb
    rw [hb] at hbest
    have HBEST := Lib.hid hbest
    obtain ⟨Ab, cb, rfl, hrb⟩ := hbest
    rw [intsN_len b]
    obtain ⟨nb, hnb⟩ : ∃ nb, b.length = nb := ⟨_, rfl⟩
    have HNB := Lib.hid hnb
    rw [hnb] at hb8 ⊢
    have HRB := Lib.hid hrb
    clear hb hst hrb hnb
    by_cases hlt : k < N
    · have hlt' : decide ((k : Int) < (N : Int)) = true := by simp; omega
      have hk256 : k < 256 := by omega
      have HP := Lib.hid (places_any k wr hk256)
      have HSTEP : Hid (fewStep want offers b k = if nb < (placesK k 8).length ∨ ((placesK k 8).length = nb ∧ 0 ≤ cmpL (intsN (placesK k 8)) (intsN b)) then b else if enoughR want (pickL offers (placesK k 8)) then placesK k 8 else b) := Lib.hid (by unfold fewStep; rw [HNB.out])
      have HLT : Hid (∀ i ∈ placesK k 8, i < m) := Lib.hid (fun i hi => placesK_lt (by rw [HNN.out]; exact hlt) hi)
      have HON := Lib.hid (fun w => ones_any k w hk256)
      obtain ⟨L, hL⟩ : ∃ L, placesK k 8 = L := ⟨_, rfl⟩
      have hl8 : L.length ≤ 8 := by rw [← hL]; exact placesK_len _ _
      rw [hL] at HP HSTEP HLT HON
      clear hL
      obtain ⟨nl, hnl⟩ : ∃ nl, L.length = nl := ⟨_, rfl⟩
      have HNL := Lib.hid hnl
      rw [hnl] at HON HSTEP hl8
      clear hnl
      go_wp2_with fail
      refine HP.out.mono ?_
      rintro e w3 ⟨lv, rfl, ho, hb⟩
      have HBW4 := Lib.hid (HBW3.out.trans (hb.mono HBW3.out.size))
      have HBEST4 := Lib.hid (HBEST.out.below hb)
      have HRB4 := Lib.hid (HRB.out.below hb)
      have HLV := Lib.hid (RdN.own ho)
      clear ho hb HP
      obtain ⟨Al, cl, hlv, hrl⟩ := HLV.out
      have HRL := Lib.hid hrl
      rw [intsN_len, HNL.out] at hlv
      obtain rfl := hlv
      clear hrl
      go_wp2_with fail
      refine (HON.out w3).mono ?_
      rintro e w4 ⟨rfl, rfl⟩
      by_cases hgt : nb < nl
      · have hgt' : decide ((nb : Int) < (nl : Int)) = true := by simp; omega
        have HQ : Hid (fewStep want offers b k = b) := Lib.hid (by rw [HSTEP.out, if_pos (.inl hgt)])
        go_wp2_with fail
        go_roundw
        case rel => exact ⟨k + 1, hlt, by go_num, by rw [HST.out, HQ.out]; exact (by have := HBEST4.out; rw [intsN_len, HNB.out] at this; exact this), HBW4.out⟩
        case measure => simp [intOf]; omega
      have hgt' : decide ((nb : Int) < (nl : Int)) = false := by simp; omega
      have HSTEP2 : Hid (¬ (nl = nb ∧ 0 ≤ cmpL (intsN L) (intsN b)) → fewStep want offers b k = if enoughR want (pickL offers L) then L else b) := Lib.hid (fun h => by
        rw [HSTEP.out, if_neg]
        rintro (h2 | h2)
        · exact hgt h2
        · exact h h2)
      by_cases heq : nl = nb
      · subst heq
        have HC := Lib.hid (compare_any Al cl (intsN L) Ab cb (intsN b) w3 HRL.out HRB4.out (by rw [intsN_len, HNL.out]; omega))
        rw [intsN_len, intsN_len, HNL.out, HNB.out] at HC
        obtain ⟨z, hz⟩ : ∃ z, cmpL (intsN L) (intsN b) = z := ⟨_, rfl⟩
        rw [hz] at HC
        have HZ := Lib.hid hz
        clear hz
        go_wp2_with fail
        refine HC.out.mono ?_
        rintro e w4 ⟨rfl, rfl⟩
        by_cases hzz : 0 ≤ z
        · have hzd : decide (0 ≤ z) = true := by simp [hzz]
          have HQ : Hid (fewStep want offers b k = b) := Lib.hid (by rw [HSTEP.out, if_pos (.inr ⟨by simp, by rw [HZ.out]; exact hzz⟩)])
          go_wp2_with fail
          go_roundw
          case rel => exact ⟨k + 1, hlt, by go_num, by rw [HST.out, HQ.out]; exact (by have := HBEST4.out; rw [intsN_len, HNB.out] at this; exact this), HBW4.out⟩
          case measure => simp [intOf]; omega
        · have hzd : decide (0 ≤ z) = false := by simp; omega
          have HQ : Hid (fewStep want offers b k = if enoughR want (pickL offers L) then L else b) := Lib.hid (HSTEP2.out (fun h => hzz (by rw [← HZ.out]; exact h.2)))
          clear HSTEP HSTEP2 HON
          go_wp2_with fail
          go_loopw [8, 54] (fun sv jv wr2 => ∃ j : Nat, j ≤ nl ∧ jv = .int .i64 j ∧ Below w3.heap.size w3 wr2 ∧ ∃ hs, wr2.ownsRow w3.heap.size 26 1 sv j hs ∧ ∀ i (hi : i < L.length), i < j → hs[i]? = hs2[L[i]]?) (fun _ jv => fun _ => nl - (intOf jv).toNat)
          case atStart => exact ⟨0, Nat.zero_le _, rfl, Below.refl _ _, [], World.ownsRow_nil _ _ _ _, fun i hi h => absurd h (by omega)⟩
          case round =>
            obtain ⟨j, hj, rfl, hbr, hs, hos, hsi⟩ := hrel
            have HBR := Lib.hid hbr
            have HOS := Lib.hid hos
            have HSI := Lib.hid hsi
            obtain ⟨As, cs, rfl, _, _, _, _⟩ := own_slice hos
            clear hbr hos hsi
            by_cases hjn : j < nl
            · have hjn' : decide ((j : Int) < (nl : Int)) = true := by simp; omega
              have hjL : j < L.length := by have := HNL.out; omega
              obtain ⟨gl, ol, rfl, hgl, hcl⟩ := HRL.out.2 (by rw [intsN_len]; omega)
              obtain ⟨p, hp⟩ : ∃ p, L[j] = p := ⟨_, rfl⟩
              have cl0 : wr.cell? ⟨gl, ol + j, none⟩ = some (.int .i64 p) := (HBR.out.cell (p := ⟨gl, ol + j, none⟩) hgl).trans (hcl j _ (by simp [intsN, i64v, hjL, hp]))
              have hpm : p < m := HLT.out p (by rw [← hp]; exact List.getElem_mem hjL)
              have hpo : p < offers.length := by have := HM.out; omega
              obtain ⟨go, oo, rfl, hgo, hco⟩ := HR.out.2 (by omega)
              obtain ⟨u, hu, hru⟩ := HI.out p hpo
              have co0 : wr.cell? ⟨go, oo + p, none⟩ = some u := ((HBW4.out.trans (HBR.out.mono HBW4.out.size)).cell (p := ⟨go, oo + p, none⟩) hgo).trans (hco p u hu)
              have HPP := Lib.hid hp
              have HU := Lib.hid hu
              obtain ⟨Au, cu, rfl, _⟩ := hru.bd
              obtain ⟨nu, hnu⟩ : ∃ nu, offers[p].length = nu := ⟨_, rfl⟩
              rw [hnu] at co0 HU
              have hbe : Below wr.heap.size wr (wr.alloc (.cells #[.slice Au nu cu] 26)) := (Below.refl _ wr).alloc (Nat.le_refl _) _
              have HBE := Lib.hid hbe
              have HNW := Lib.hid (block_new wr (.cells #[.slice Au nu cu] 26))
              have HO5 := Lib.hid ((Fr.of_below (B := 0) (T := []) (S := []) hbe).own HOS.out (by simp) (by simp))
              have HW5 : Hid (w3.heap.size ≤ (wr.alloc (.cells #[.slice Au nu cu] 26)).heap.size) := Lib.hid (Nat.le_trans HBR.out.size hbe.size)
              clear hcl hco hu hp hnu hru hbe hgl hgo
              go_wp2_with (at_builtin
                           refine wpList_append_rd _ rfl (.tmp 58) (.tmp 63) 27 rfl w3.heap.size 26 i0 (.slice none 0 0) 1 24 Try.underlying27 hi0 hz0 hz1 hz2 rfl (by decide) (.slice As j cs) j hs rfl HO5.out (some ⟨wr.heap.size, 0, none⟩) 1 1 [.slice Au nu cu] rfl (rd_cell HNW.out) (by simp [Value.oneCell']) (by unfold maxLen; omega) (by omega) HW5.out ?_
                           intro v6 w6 hown6 hgrow6 _
                           have f6 : Fr w3.heap.size [26] [] (wr.alloc (.cells #[.slice Au nu cu] 26)) w6 := (Fr.refl _).grown hgrow6 fun j hj => by
                             obtain ⟨hb, cs, hc⟩ := own_block HO5.out hj
                             exact ⟨hb, .inr ⟨cs, _, _, hc, by simp⟩⟩
                           have HF6 := Lib.hid f6
                           have HO6 := Lib.hid hown6
                           obtain ⟨A6, c6, rfl, _, _, _, _⟩ := own_slice hown6
                           clear hown6 hgrow6 f6)
              go_roundw
              case rel =>
                refine ⟨j + 1, hjn, by go_num, (HBR.out.trans (HBE.out.mono HBR.out.size)).trans (HF6.out.below HW5.out), _, HO6.out, fun i hi hij => ?_⟩
                have hsl : hs.length = j := by have := HOS.out.1; omega
                rcases Nat.lt_or_ge i j with h | h
                · rw [List.getElem?_append_left (by omega)]
                  exact HSI.out i hi h
                · obtain rfl : i = j := by omega
                  rw [List.getElem?_append_right (by omega), hsl, HPP.out, HU.out]
                  simp
              case measure => simp [intOf]; omega
            · have hjn' : decide ((j : Int) < (nl : Int)) = false := by simp; omega
              have ejn : j = nl := by omega
              subst ejn
              have hrs : RdII wr (.slice As j cs) (pickL offers L) := by
                obtain ⟨A', c', e', k1, k2, k3, _⟩ := own_slice HOS.out
                have hlen : (pickL offers L).length = j := by unfold pickL; rw [List.length_map]; exact HNL.out
                refine ⟨A', c', hs, by rw [hlen]; exact e', by rw [hlen]; exact k1, k2, by rw [hlen]; exact k3, fun i hi => ?_⟩
                have hiL : i < L.length := by have := HNL.out; omega
                have hio : L[i] < offers.length := by have := HLT.out _ (List.getElem_mem hiL); have := HM.out; omega
                obtain ⟨u, hu, hru⟩ := HI.out _ hio
                refine ⟨u, by rw [HSI.out i hiL (by have := HNL.out; omega)]; exact hu, ?_⟩
                have he : (pickL offers L)[i] = offers[L[i]] := (List.getElem_map (fun i => offers.getD i []) (l := L) (i := i) (h := by rw [List.length_map]; exact hiL)).trans (by rw [List.getD_eq_getElem?_getD, List.getElem?_eq_getElem hio]; rfl)
                rw [he]
                exact hru.below (HBW4.out.trans (HBR.out.mono HBW4.out.size))
              have HPEN := Lib.hid (pen_any (.slice A1 n1 c1) (.slice As j cs) want (pickL offers L) wr (H1.out.below (HBW4.out.trans (HBR.out.mono HBW4.out.size))) hrs HB1.out (fun l hl => by
                unfold pickL at hl
                obtain ⟨i, hi, rfl⟩ := List.mem_map.1 hl
                have hio : i < offers.length := by have := HLT.out i hi; have := HM.out; omega
                rw [List.getD_eq_getElem?_getD, List.getElem?_eq_getElem hio]
                exact HB2.out _ (List.getElem_mem hio)) (by unfold pickL; rw [List.length_map, HNL.out]; omega))
              obtain ⟨EE, hEE⟩ : ∃ EE, enoughR want (pickL offers L) = EE := ⟨_, rfl⟩
              rw [hEE] at HPEN HQ
              clear hrs hEE
              go_wp2_with fail
              refine HPEN.out.mono ?_
              rintro e w5 ⟨rfl, hb⟩
              have HBR5 := Lib.hid (HBR.out.trans (hb.mono HBR.out.size))
              clear hb HPEN
              cases EE
              · go_wp2_with fail
                go_roundw
                case rel =>
                  refine ⟨k + 1, hlt, by go_num, ?_, HBW4.out.trans (HBR5.out.mono HBW4.out.size)⟩
                  rw [HST.out, HQ.out, if_neg (by simp)]
                  have := HBEST4.out
                  rw [intsN_len, HNB.out] at this
                  exact this.below HBR5.out
                case measure => simp [intOf]; omega
              · go_wp2_with fail
                go_roundw
                case rel =>
                  refine ⟨k + 1, hlt, by go_num, ?_, HBW4.out.trans (HBR5.out.mono HBW4.out.size)⟩
                  rw [HST.out, HQ.out, if_pos (by simp)]
                  exact HLV.out.below HBR5.out
                case measure => simp [intOf]; omega
      · have heq' : ((nl : Int) == (nb : Int)) = false := by simp; omega
        have HQ : Hid (fewStep want offers b k = if enoughR want (pickL offers L) then L else b) := Lib.hid (HSTEP2.out (fun h => heq h.1))
        clear HSTEP HSTEP2 HON
        go_wp2_with fail
        go_loopw [8, 54] (fun sv jv wr2 => ∃ j : Nat, j ≤ nl ∧ jv = .int .i64 j ∧ Below w3.heap.size w3 wr2 ∧ ∃ hs, wr2.ownsRow w3.heap.size 26 1 sv j hs ∧ ∀ i (hi : i < L.length), i < j → hs[i]? = hs2[L[i]]?) (fun _ jv => fun _ => nl - (intOf jv).toNat)
        case atStart => exact ⟨0, Nat.zero_le _, rfl, Below.refl _ _, [], World.ownsRow_nil _ _ _ _, fun i hi h => absurd h (by omega)⟩
        case round =>
          obtain ⟨j, hj, rfl, hbr, hs, hos, hsi⟩ := hrel
          have HBR := Lib.hid hbr
          have HOS := Lib.hid hos
          have HSI := Lib.hid hsi
          obtain ⟨As, cs, rfl, _, _, _, _⟩ := own_slice hos
          clear hbr hos hsi
          by_cases hjn : j < nl
          · have hjn' : decide ((j : Int) < (nl : Int)) = true := by simp; omega
            have hjL : j < L.length := by have := HNL.out; omega
            obtain ⟨gl, ol, rfl, hgl, hcl⟩ := HRL.out.2 (by rw [intsN_len]; omega)
            obtain ⟨p, hp⟩ : ∃ p, L[j] = p := ⟨_, rfl⟩
            have cl0 : wr.cell? ⟨gl, ol + j, none⟩ = some (.int .i64 p) := (HBR.out.cell (p := ⟨gl, ol + j, none⟩) hgl).trans (hcl j _ (by simp [intsN, i64v, hjL, hp]))
            have hpm : p < m := HLT.out p (by rw [← hp]; exact List.getElem_mem hjL)
            have hpo : p < offers.length := by have := HM.out; omega
            obtain ⟨go, oo, rfl, hgo, hco⟩ := HR.out.2 (by omega)
            obtain ⟨u, hu, hru⟩ := HI.out p hpo
            have co0 : wr.cell? ⟨go, oo + p, none⟩ = some u := ((HBW4.out.trans (HBR.out.mono HBW4.out.size)).cell (p := ⟨go, oo + p, none⟩) hgo).trans (hco p u hu)
            have HPP := Lib.hid hp
            have HU := Lib.hid hu
            obtain ⟨Au, cu, rfl, _⟩ := hru.bd
            obtain ⟨nu, hnu⟩ : ∃ nu, offers[p].length = nu := ⟨_, rfl⟩
            rw [hnu] at co0 HU
            have hbe : Below wr.heap.size wr (wr.alloc (.cells #[.slice Au nu cu] 26)) := (Below.refl _ wr).alloc (Nat.le_refl _) _
            have HBE := Lib.hid hbe
            have HNW := Lib.hid (block_new wr (.cells #[.slice Au nu cu] 26))
            have HO5 := Lib.hid ((Fr.of_below (B := 0) (T := []) (S := []) hbe).own HOS.out (by simp) (by simp))
            have HW5 : Hid (w3.heap.size ≤ (wr.alloc (.cells #[.slice Au nu cu] 26)).heap.size) := Lib.hid (Nat.le_trans HBR.out.size hbe.size)
            clear hcl hco hu hp hnu hru hbe hgl hgo
            go_wp2_with (at_builtin
                         refine wpList_append_rd _ rfl (.tmp 58) (.tmp 63) 27 rfl w3.heap.size 26 i0 (.slice none 0 0) 1 24 Try.underlying27 hi0 hz0 hz1 hz2 rfl (by decide) (.slice As j cs) j hs rfl HO5.out (some ⟨wr.heap.size, 0, none⟩) 1 1 [.slice Au nu cu] rfl (rd_cell HNW.out) (by simp [Value.oneCell']) (by unfold maxLen; omega) (by omega) HW5.out ?_
                         intro v6 w6 hown6 hgrow6 _
                         have f6 : Fr w3.heap.size [26] [] (wr.alloc (.cells #[.slice Au nu cu] 26)) w6 := (Fr.refl _).grown hgrow6 fun j hj => by
                           obtain ⟨hb, cs, hc⟩ := own_block HO5.out hj
                           exact ⟨hb, .inr ⟨cs, _, _, hc, by simp⟩⟩
                         have HF6 := Lib.hid f6
                         have HO6 := Lib.hid hown6
                         obtain ⟨A6, c6, rfl, _, _, _, _⟩ := own_slice hown6
                         clear hown6 hgrow6 f6)
            go_roundw
            case rel =>
              refine ⟨j + 1, hjn, by go_num, (HBR.out.trans (HBE.out.mono HBR.out.size)).trans (HF6.out.below HW5.out), _, HO6.out, fun i hi hij => ?_⟩
              have hsl : hs.length = j := by have := HOS.out.1; omega
              rcases Nat.lt_or_ge i j with h | h
              · rw [List.getElem?_append_left (by omega)]
                exact HSI.out i hi h
              · obtain rfl : i = j := by omega
                rw [List.getElem?_append_right (by omega), hsl, HPP.out, HU.out]
                simp
            case measure => simp [intOf]; omega
          · have hjn' : decide ((j : Int) < (nl : Int)) = false := by simp; omega
            have ejn : j = nl := by omega
            subst ejn
            have hrs : RdII wr (.slice As j cs) (pickL offers L) := by
              obtain ⟨A', c', e', k1, k2, k3, _⟩ := own_slice HOS.out
              have hlen : (pickL offers L).length = j := by unfold pickL; rw [List.length_map]; exact HNL.out
              refine ⟨A', c', hs, by rw [hlen]; exact e', by rw [hlen]; exact k1, k2, by rw [hlen]; exact k3, fun i hi => ?_⟩
              have hiL : i < L.length := by have := HNL.out; omega
              have hio : L[i] < offers.length := by have := HLT.out _ (List.getElem_mem hiL); have := HM.out; omega
              obtain ⟨u, hu, hru⟩ := HI.out _ hio
              refine ⟨u, by rw [HSI.out i hiL (by have := HNL.out; omega)]; exact hu, ?_⟩
              have he : (pickL offers L)[i] = offers[L[i]] := (List.getElem_map (fun i => offers.getD i []) (l := L) (i := i) (h := by rw [List.length_map]; exact hiL)).trans (by rw [List.getD_eq_getElem?_getD, List.getElem?_eq_getElem hio]; rfl)
              rw [he]
              exact hru.below (HBW4.out.trans (HBR.out.mono HBW4.out.size))
            have HPEN := Lib.hid (pen_any (.slice A1 n1 c1) (.slice As j cs) want (pickL offers L) wr (H1.out.below (HBW4.out.trans (HBR.out.mono HBW4.out.size))) hrs HB1.out (fun l hl => by
              unfold pickL at hl
              obtain ⟨i, hi, rfl⟩ := List.mem_map.1 hl
              have hio : i < offers.length := by have := HLT.out i hi; have := HM.out; omega
              rw [List.getD_eq_getElem?_getD, List.getElem?_eq_getElem hio]
              exact HB2.out _ (List.getElem_mem hio)) (by unfold pickL; rw [List.length_map, HNL.out]; omega))
            obtain ⟨EE, hEE⟩ : ∃ EE, enoughR want (pickL offers L) = EE := ⟨_, rfl⟩
            rw [hEE] at HPEN HQ
            clear hrs hEE
            go_wp2_with fail
            refine HPEN.out.mono ?_
            rintro e w5 ⟨rfl, hb⟩
            have HBR5 := Lib.hid (HBR.out.trans (hb.mono HBR.out.size))
            clear hb HPEN
            cases EE
            · go_wp2_with fail
              go_roundw
              case rel =>
                refine ⟨k + 1, hlt, by go_num, ?_, HBW4.out.trans (HBR5.out.mono HBW4.out.size)⟩
                rw [HST.out, HQ.out, if_neg (by simp)]
                have := HBEST4.out
                rw [intsN_len, HNB.out] at this
                exact this.below HBR5.out
              case measure => simp [intOf]; omega
            · go_wp2_with fail
              go_roundw
              case rel =>
                refine ⟨k + 1, hlt, by go_num, ?_, HBW4.out.trans (HBR5.out.mono HBW4.out.size)⟩
                rw [HST.out, HQ.out, if_pos (by simp)]
                exact HLV.out.below HBR5.out
              case measure => simp [intOf]; omega
    · have hlt' : decide ((k : Int) < (N : Int)) = false := by simp; omega
      have ekr : k = N := by omega
      have HE := Lib.hid ekr
      clear ekr
      go_wp2
      go_ret
      refine ⟨_, rfl, ?_, HBW3.out⟩
      obtain rfl := HE.out
      rw [HF.out, HBK.out]
      have := HBEST.out
      rw [← HNB.out, ← intsN_len]
      exact this
end Go.Proofs.Ytlcnkicmepcppaa
