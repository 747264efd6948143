/- The reference: the mix of bytes. -/
import Derived.Test.YtchdfdimaopdeaaQRRound
import Derived.Test.YtchdfdimaopdeaaQMix
import Derived.Test.YtchdfdimaopdeaaQCat
namespace Go.Proofs.Ytchdfdimaopdeaa
open Go.RowKit

def lenV : Value → Nat
  | .slice _ n _ => n
  | _ => 0
theorem or_low {m b : Nat} (hm : m < 72057594037927936) (hb : b < 256) : bits .or .u64 ((m : Int) * 256) (b : Int) = ((b + 256 * m : Nat) : Int) := by
  have e : b ||| m * 2 ^ 8 = b + m * 2 ^ 8 := or_add (k := 8) (by omega)
  rw [show (m : Int) * 256 = ((m * 2 ^ 8 : Nat) : Int) by omega, or64 (by omega) (by omega), Nat.or_comm, e]
  congr 1
  omega
theorem grown_below {B : Nat} {a w w' : World} {v : Value} {n : Nat} {xs : List Value} (hb : Below B a w) (hB : B ≤ w.heap.size) (ho : w.ownsRow B 5 1 v n xs) (hg : w.grownBy w' v.ownBlock) : Below B a w' :=
  hb.trans ((((Fr.refl w).grown (B := B) (T := [5]) (S := []) hg fun j hj => by
    obtain ⟨hb, cs, hc⟩ := own_block ho hj
    exact ⟨hb, .inr ⟨cs, _, _, hc, by simp⟩⟩)).below hB)
theorem Bs.rd' {w : World} {A : Option Addr} {n c : Nat} {bs : List Nat} (h : Bs w (.slice A n c) bs) : Rd w 1 A n (bs.map u8v) := by
  obtain ⟨A', c', h1, _, _, h4⟩ := h
  injection h1 with e1 e2 e3
  subst e1; subst e2
  exact h4
theorem words_drop {l : List Nat} {j t : Nat} (h : 8 * j + t < l.length) (ht : t < 8) : ((l.drop (8 * j)).take 8).drop t = l[8 * j + t] :: ((l.drop (8 * j)).take 8).drop (t + 1) := by
  have hlt : t < ((l.drop (8 * j)).take 8).length := by rw [List.length_take, List.length_drop]; omega
  rw [List.drop_eq_getElem_cons hlt]
  congr 1
  rw [List.getElem_take, List.getElem_drop]

set_option maxRecDepth 100000 in
set_option maxHeartbeats 1600000 in
theorem rmix_any (s : Int) (v : Value) (bs : List Nat) (hb : ∀ b ∈ bs, b < 256) (hlen : bs.length ≤ 140737488351232) (w : World) (hv : Bs w v bs) : Calls Try.prog 22 #[.int .u64 s, v] w fun e w' => e = .returned (.int .u64 (mixI s bs)) ∧ Below w.heap.size w w' := by
  obtain ⟨i0, hi0, hz0, hz1, hz2⟩ := info_parts Try.infoByte
  obtain ⟨A, c, rfl, hl, _⟩ := hv.slice
  have HV := Lib.hid hv
  have HB := Lib.hid hb
  clear hb hv
  obtain ⟨w0, hw0⟩ : ∃ w0, w.alloc (.cells #[.int .u64 (xorI s 8317987319222330741), .int .u64 368457802846855779, .int .u64 (xorI s 7816392313619706465), .int .u64 1519701440043968637] 73) = w0 := ⟨_, rfl⟩
  obtain ⟨N, hN⟩ : ∃ N, w.heap.size = N := ⟨_, rfl⟩
  have h0 : St 73 w0 N (v0I s) := by rw [← hw0, ← hN]; exact block_new w _
  have b0 : Below N w w0 := by rw [← hw0, ← hN]; exact (Below.refl _ w).alloc (Nat.le_refl _) _
  have hs0 : w0.heap.size = N + 1 := by rw [← hw0, ← hN]; simp
  have x1 : bits .xor .u64 7021802355507858702 7237128888997146477 = 368457802846855779 := by kernel_rfl
  have x2 : bits .xor .u64 7021802355507858702 8387220255154660723 = 1519701440043968637 := by kernel_rfl
  have hw0' : w.alloc (.cells #[.int .u64 (bits .xor .u64 s 8317987319222330741), .int .u64 368457802846855779, .int .u64 (bits .xor .u64 s 7816392313619706465), .int .u64 1519701440043968637] 73) = w0 := hw0
  have H0 := Lib.hid h0
  have B0 := Lib.hid b0
  have HN := Lib.hid hN
  have HV0 := Lib.hid (HV.out.below (by rw [hN]; exact b0))
  clear h0 b0 hw0
  have HO0 := Lib.hid (own_of_cells w0 #[] 0 (Nat.zero_le _) rfl)
  have HE0 := Lib.hid ((HV0.out.below ((Below.refl _ w0).alloc (Nat.le_refl _) (.cells #[] 5))).rd')
  go_enter Try.func22, Try.ntmps22
  go_wp2_with (first
    | (at_builtin
       refine wpList_append_rd _ rfl (.tmp 20) (.tmp 21) 23 rfl w0.heap.size 5 i0 (.int .u8 0) 1 1 Try.underlying23 hi0 hz0 hz1 hz2 rfl (by decide) (.slice (some ⟨w0.heap.size, 0, none⟩) 0 0) 0 [] (by rw [hs0]; rfl) HO0.out A bs.length c (bs.map u8v) rfl HE0.out (u8_one' _) (by unfold maxLen; omega) (by omega) (by simp) ?_
       intro v2 w2 hown2 hgrow2 _
       have hb2 := grown_below ((Below.refl _ w0).alloc (Nat.le_refl _) (.cells #[] 5)) (by simp) HO0.out hgrow2
       rw [hs0] at hown2 hb2
       have HO2 := Lib.hid hown2
       have HB2 := Lib.hid hb2
       clear hown2 hgrow2 hb2))
  simp only [Nat.zero_add, List.nil_append] at HO2
  clear HO0 HE0 hw0' x1 x2
  go_loopw [7] (fun all wr => ∃ i : Nat, i ≤ 7 - bs.length % 8 ∧ wr.ownsRow (N + 1) 5 1 all (bs.length + i) ((bs ++ List.replicate i 0).map u8v) ∧ Below (N + 1) w0 wr) (fun all _ => bs.length + 8 - lenV all)
  case atStart => exact ⟨0, Nat.zero_le _, by simpa using HO2.out, HB2.out⟩
  case round =>
    obtain ⟨i, hi, ho, hbel⟩ := hrel
    obtain ⟨m, hm⟩ : ∃ m, bs.length + i = m := ⟨_, rfl⟩
    rw [hm] at ho
    obtain ⟨X, hX⟩ : ∃ X, bs ++ List.replicate i 0 = X := ⟨_, rfl⟩
    rw [hX] at ho
    obtain ⟨A7, c7, rfl, k1, k2, k3, _⟩ := own_slice ho
    have HO := Lib.hid ho
    have HW := Lib.hid hbel
    have HX := Lib.hid hX
    have HM := Lib.hid hm
    have hml : m ≤ 140737488351240 := by omega
    have hc7 : c7 ≤ 9223372036854775807 := by unfold maxLen at k2; omega
    have hsz := hbel.size
    rw [hs0] at hsz
    clear ho hbel hX k2 k3 HO2 HB2
    by_cases h7 : m % 8 = 7
    · have h7' : (m : Int) % 8 = 7 := by omega
      have hpad : X ++ [bs.length % 256] = padN bs := by
        rw [← HX.out]
        unfold padN
        rw [show 7 - bs.length % 8 = i by omega]
      have HP := Lib.hid hpad
      have H7 := Lib.hid h7
      have e8 : ((bs.length : Int) % 256) = ((bs.length % 256 : Nat) : Int) := by omega
      have E8 := Lib.hid e8
      clear hm h7 hpad hi e8
      go_wp2_with (at_builtin
                   refine wpList_append_own _ rfl (.tmp 30) (.tmp 34) 23 rfl (N + 1) 5 i0 (.int .u8 0) 1 1 Try.underlying23 hi0 hz0 hz1 hz2 rfl (by decide) (.slice A7 m c7) m _ rfl (HO.out.alloc _) ⟨wr.heap.size, 0, none⟩ 1 1 _ rfl rfl (cell_one_new _ _ _) (by simp [Value.oneCell']) (by unfold maxLen; omega) (by omega) (by simp; omega) ?_
                   intro v5 w5 hown5 hgrow5 _
                   have hb5 := grown_below (HW.out.alloc hsz _) (by simp; omega) (HO.out.alloc _) hgrow5
                   have HO5 := Lib.hid hown5
                   have HB5 := Lib.hid hb5
                   clear hown5 hgrow5 hb5)
      have hpb : Bs w5 v5 (padN bs) := by
        have := HO5.out
        rw [E8.out] at this
        refine Bs.own_n (n := m + 1) (B := N + 1) (e := 5) ?_
        rw [← HP.out, List.map_append]
        exact this
      have hst5 : St 73 w5 N (runW (padN bs) (v0I s) 0) := H0.out.keep (HB5.out.block _ (by omega))
      have hb5 : Below N w w5 := B0.out.trans (HB5.out.mono (by omega))
      have hPB : ∀ b ∈ padN bs, b < 256 := by
        intro b hb
        unfold padN at hb
        rcases List.mem_append.1 hb with hb | hb
        · rcases List.mem_append.1 hb with hb | hb
          · exact HB.out b hb
          · rw [List.mem_replicate] at hb
            omega
        · simp at hb
          omega
      have hpN : ∀ W, Fr 0 [] [N] w5 W → Bs W v5 (padN bs) := by
        intro W hf
        obtain ⟨A', c', e1, e2, e3, e4⟩ := hpb
        refine ⟨A', c', e1, e2, e3, e4.frame hf fun hn a ha hm => ?_⟩
        have ho := HO5.out
        rcases ho.2 with ⟨_, h0⟩ | ⟨g, cap, cur, hg, hge, _⟩
        · omega
        · rw [hg] at e1
          injection e1 with e5 _ _
          rw [ha] at e5
          injection e5 with e5
          rw [← e5] at hm
          simp at hm
          omega
      obtain ⟨K, hK⟩ : ∃ K, bs.length / 8 + 1 = K := ⟨_, rfl⟩
      obtain ⟨PB, hPBe⟩ : ∃ PB, padN bs = PB := ⟨_, rfl⟩
      have hlenP : PB.length = 8 * K := by rw [← hPBe, padN_length, hK]
      have hend := runW_end s bs
      rw [hPBe, hK] at hend
      rw [hPBe] at hpb hst5 hPB hpN
      have HEND := Lib.hid hend
      have HPB := Lib.hid hPB
      have HPN := Lib.hid hpN
      have HST5 := Lib.hid hst5
      have HBN5 := Lib.hid hb5
      have HK := Lib.hid hK
      obtain ⟨A5, c5, rfl, hl5, _⟩ := hpb.slice
      have HLP := Lib.hid hlenP
      have hK8 : PB.length ≤ 140737488351248 := by omega
      clear hend hPB hpN hst5 hb5 HO HO5 HP hpb hPBe hK HB5 HX HW k1 hc7 hml
      go_loopw [8] (fun at_ wr => ∃ j : Nat, j ≤ K ∧ at_ = .int .i64 ((8 * j : Nat) : Int) ∧ St 73 wr N (runW PB (v0I s) j) ∧ Fr 0 [] [N] w5 wr) (fun at_ _ => PB.length - (intOf at_).toNat)
      case atStart => exact ⟨0, Nat.zero_le _, rfl, HST5.out, Fr.refl _⟩
      case round =>
        obtain ⟨j, hj, rfl, hs, hf⟩ := hrel
        have HS := Lib.hid hs
        have HF := Lib.hid hf
        have HVB := Lib.hid (HPN.out _ hf)
        clear hs hf
        by_cases hlt : j < K
        · have hlt8 : 8 * j + 8 ≤ PB.length := by rw [HLP.out]; omega
          clear hlenP hj hlt
          have hin : ((8 * j : Nat) : Int) < (PB.length : Int) := by omega
          go_wp2_with fail
          obtain ⟨WL, hWL⟩ : ∃ WL, (PB.drop (8 * j)).take 8 = WL := ⟨_, rfl⟩
          have HWL := Lib.hid hWL
          clear hWL
          go_loop [9, 10] (fun m i => ∃ t : Nat, t ≤ 8 ∧ i = .int .i64 ((t : Int) - 1) ∧ m = .int .u64 (leN (WL.drop t) : Nat)) (fun _ i => (intOf i + 1).toNat)
          case atStart => exact ⟨8, Nat.le_refl _, rfl, by rw [List.drop_of_length_le (by rw [← HWL.out, List.length_take]; omega)]; rfl⟩
          case round =>
            obtain ⟨t, ht, rfl, rfl⟩ := hrel
            cases t with
            | succ t =>
              have hwd := words_drop (l := PB) (j := j) (t := t) (by omega) (by omega)
              rw [HWL.out] at hwd
              have hin2 : 8 * j + t < PB.length := by omega
              obtain ⟨g, o, rfl, hc⟩ := HVB.out.at_ (8 * j + t) hin2
              have hbk := HPB.out PB[8 * j + t] (List.getElem_mem hin2)
              have hle : leN (WL.drop (t + 1)) < 72057594037927936 := by
                refine Nat.lt_of_lt_of_le (leN_lt (fun b hb => HPB.out b (by
                  rw [← HWL.out] at hb
                  exact List.mem_of_mem_drop (List.mem_of_mem_take (List.mem_of_mem_drop hb))))) ?_
                have : (WL.drop (t + 1)).length ≤ 7 := by rw [List.length_drop, ← HWL.out, List.length_take]; omega
                exact Nat.le_trans (Nat.pow_le_pow_right (by decide) this) (by decide)
              have hor := or_low hle hbk
              have hle2 : leN (WL.drop t) = PB[8 * j + t] + 256 * leN (WL.drop (t + 1)) := by rw [hwd]; rfl
              rw [← hle2] at hor
              obtain ⟨b, hb⟩ : ∃ b, PB[8 * j + t] = b := ⟨_, rfl⟩
              rw [hb] at hc hbk hor
              obtain ⟨M, hM⟩ : ∃ M, leN (WL.drop (t + 1)) = M := ⟨_, rfl⟩
              rw [hM] at hor hle
              simp only [hM]
              have et : (((t + 1 : Nat) : Int) - 1) = (t : Int) := by omega
              rw [et]
              have hc' : wr.cell? ⟨g, o + (8 * j + t), none⟩ = some (.int .u8 (b : Int)) := hc
              have HOR := Lib.hid hor
              clear hwd hb hM hle2 hor et hc
              go_wp2_with fail
              go_round
              case rel => exact ⟨t, by omega, rfl, by rw [HOR.out]⟩
              case measure => simp [intOf]
            | zero =>
              obtain ⟨M, hM⟩ : ∃ M, leN WL = M := ⟨_, rfl⟩
              obtain ⟨u, hu⟩ : ∃ u, runW PB (v0I s) j = u := ⟨_, rfl⟩
              have hnext : runW PB (v0I s) (j + 1) = wordI u (M : Int) := by
                rw [runW, hu, wordAt, HWL.out, hM]
              have HNX := Lib.hid hnext
              rw [hu] at HS
              simp only [List.drop_zero, hM]
              obtain ⟨X, hX⟩ : ∃ X, xorI u.d (M : Int) = X := ⟨_, rfl⟩
              have hX' : bits .xor .u64 u.d (M : Int) = X := hX
              have c0 := HS.out.c0
              have c1 := HS.out.c1
              have c2 := HS.out.c2
              have c3 := HS.out.c3
              have z3 := HS.out.z 3
              have H1 := Lib.hid (HS.out.s3 X)
              have F1 := Lib.hid (HF.out.set1 (i := 3) (.int .u64 X))
              have HX := Lib.hid hX
              clear ht hM hu hnext hX
              go_wp2_with fail
              refine (rround_any ⟨u.a, u.b, u.c, X⟩ _).mono ?_
              rintro e w6 ⟨rfl, hb6⟩
              have H2 := Lib.hid (H1.out.below hb6)
              have F2 := Lib.hid (F1.out.then hb6)
              clear hb6 c0 c1 c2 c3 z3 H1 F1 hX'
              simp only [W4.val]
              go_wp2_with fail
              refine (rround_any (roundI ⟨u.a, u.b, u.c, X⟩) _).mono ?_
              rintro e w7 ⟨rfl, hb7⟩
              have h3 := H2.out.below hb7
              have F3 := Lib.hid (F2.out.then hb7)
              obtain ⟨y, hy⟩ : ∃ y, roundI (roundI ⟨u.a, u.b, u.c, X⟩) = y := ⟨_, rfl⟩
              simp only [W4.val, hy]
              have c0 := h3.c0
              have c1 := h3.c1
              have c2 := h3.c2
              have c3 := h3.c3
              have z0 := h3.z 0
              have z1 := h3.z 1
              have z2 := h3.z 2
              have z3 := h3.z 3
              have H3 := Lib.hid h3
              have hw : wordI u (M : Int) = ⟨xorI y.a M, y.b, y.c, y.d⟩ := by
                unfold wordI
                rw [HX.out, hy]
              have HWI := Lib.hid hw
              clear hb7 H2 F2 h3 hy hw
              go_wp2_with fail
              go_roundw
              case rel =>
                refine ⟨j + 1, by have := HLP.out; omega, by go_num, ?_, ?_⟩
                · rw [HNX.out, HWI.out]
                  exact ((((H3.out.s0 _).s1 _).s2 _).s3 _).s0 _
                · exact ((((F3.out.set1 _).set1 _).set1 _).set1 _).set1 _
              case measure => simp [intOf]; omega
        · obtain rfl : j = K := by omega
          have hs := HS.out
          rw [HEND.out] at hs
          obtain ⟨u, hu⟩ : ∃ u, vEnd s bs = u := ⟨_, rfl⟩
          rw [hu] at hs
          obtain ⟨X, hX⟩ : ∃ X, xorI u.c 255 = X := ⟨_, rfl⟩
          have hX' : bits .xor .u64 u.c 255 = X := hX
          have hmix : mixI s bs = outI (roundN ⟨u.a, u.b, X, u.d⟩ 4) := by
            rw [← hX, ← hu]
            rfl
          have c0 := hs.c0
          have c1 := hs.c1
          have c2 := hs.c2
          have c3 := hs.c3
          have z2 := hs.z 2
          have H1 := Lib.hid (hs.s2 X)
          have F1 := Lib.hid (HF.out.set1 (i := 2) (.int .u64 X))
          have HM1 := Lib.hid hmix
          clear hs hu hX hmix hj HS HF
          have hge : ((8 * j : Nat) : Int) = (PB.length : Int) := by have := HLP.out; omega
          go_wp2_with fail
          refine (rround_any ⟨u.a, u.b, X, u.d⟩ _).mono ?_
          rintro e w6 ⟨rfl, hb6⟩
          have H2 := Lib.hid (H1.out.below hb6)
          have F2 := Lib.hid (F1.out.then hb6)
          clear hb6
          simp only [W4.val]
          go_wp2_with fail
          refine (rround_any (roundI ⟨u.a, u.b, X, u.d⟩) _).mono ?_
          rintro e w6 ⟨rfl, hb6⟩
          have H3 := Lib.hid (H2.out.below hb6)
          have F3 := Lib.hid (F2.out.then hb6)
          clear hb6
          simp only [W4.val]
          go_wp2_with fail
          refine (rround_any (roundI (roundI ⟨u.a, u.b, X, u.d⟩)) _).mono ?_
          rintro e w6 ⟨rfl, hb6⟩
          have H4 := Lib.hid (H3.out.below hb6)
          have F4 := Lib.hid (F3.out.then hb6)
          clear hb6
          simp only [W4.val]
          go_wp2_with fail
          refine (rround_any (roundI (roundI (roundI ⟨u.a, u.b, X, u.d⟩))) _).mono ?_
          rintro e w6 ⟨rfl, hb6⟩
          have h3 := H4.out.below hb6
          have F3 := Lib.hid (F4.out.then hb6)
          obtain ⟨y, hy⟩ : ∃ y, roundI (roundI (roundI (roundI ⟨u.a, u.b, X, u.d⟩))) = y := ⟨_, rfl⟩
          have hmix : mixI s bs = outI y := by
            rw [HM1.out, ← hy]
            rfl
          simp only [W4.val, hy]
          have c0 := h3.c0
          have c1 := h3.c1
          have c2 := h3.c2
          have c3 := h3.c3
          have z0 := h3.z 0
          have z1 := h3.z 1
          have z2 := h3.z 2
          have z3 := h3.z 3
          have HMX := Lib.hid hmix
          clear h3 hb6 hy hmix H1 H2 H3 H4 F1 F2 F4 hX'
          go_wp2_with fail
          go_ret
          rw [HMX.out]
          refine ⟨rfl, ?_⟩
          have hz := Fr.own2 HN.out (by rw [HN.out]; exact HBN5.out) ((((F3.out.set1 (i := 0) (.int .u64 y.a)).set1 (i := 1) (.int .u64 y.b)).set1 (i := 2) (.int .u64 y.c)).set1 (i := 3) (.int .u64 y.d))
          rw [HN.out] at hz
          first | exact hz | exact hz.drew
    · have h7' : ¬ (m : Int) % 8 = 7 := by omega
      have hi' : i + 1 ≤ 7 - bs.length % 8 := by omega
      have HI := Lib.hid hi'
      clear hm h7 hi hi'
      go_wp2_with (at_builtin
                   refine wpList_append_own _ rfl (.tmp 27) (.tmp 28) 23 rfl (N + 1) 5 i0 (.int .u8 0) 1 1 Try.underlying23 hi0 hz0 hz1 hz2 rfl (by decide) (.slice A7 m c7) m _ rfl (HO.out.alloc _) ⟨wr.heap.size, 0, none⟩ 1 1 _ rfl rfl (cell_one_new _ _ _) (by simp [Value.oneCell']) (by unfold maxLen; omega) (by omega) (by simp; omega) ?_
                   intro v5 w5 hown5 hgrow5 _
                   have hb5 := grown_below (HW.out.alloc hsz _) (by simp; omega) (HO.out.alloc _) hgrow5
                   have HO5 := Lib.hid hown5
                   have HB5 := Lib.hid hb5
                   clear hown5 hgrow5 hb5)
      go_roundw
      case rel =>
        refine ⟨i + 1, HI.out, ?_, HB5.out⟩
        have := HO5.out
        rw [← HM.out, ← HX.out] at this
        rw [List.replicate_succ', ← List.append_assoc, List.map_append]
        simpa [Nat.add_assoc, u8v] using this
      case measure =>
        obtain ⟨A5, c5, rfl, _⟩ := own_slice HO5.out
        simp [lenV]
        have := HM.out
        have := HI.out
        omega
end Go.Proofs.Ytchdfdimaopdeaa
