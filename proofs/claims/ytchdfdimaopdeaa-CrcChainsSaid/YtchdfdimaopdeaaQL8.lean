/- The walk of the law CrcChains. -/
import Derived.Test.YtchdfdimaopdeaaQL7
namespace Go.Proofs.Ytchdfdimaopdeaa
open Go.RowKit

/-- Frames one behind the other, and the last seal. -/
def chainN : Nat → List (List Nat) → List Nat × Nat
  | s, [] => ([], s)
  | s, x :: r => (frameN s x ++ (chainN (mixN s x) r).1, (chainN (mixN s x) r).2)
theorem chainN_snoc : ∀ (xs : List (List Nat)) (s : Nat) (x : List Nat), chainN s (xs ++ [x]) = ((chainN s xs).1 ++ frameN (chainN s xs).2 x, mixN (chainN s xs).2 x)
  | [], s, x => by simp [chainN]
  | y :: r, s, x => by
    rw [List.cons_append, chainN, chainN, chainN_snoc r]
    simp
theorem openN_nil (s : Int) : openN s [] = none := by
  cases h : openN s [] with
  | none => rfl
  | some p => exact absurd (openN_len (x := p.1) (m := p.2) h) (by simp)
theorem allN_chain : ∀ (xs : List (List Nat)) (s : Nat), (∀ x ∈ xs, x.length ≤ 65536) → allN s (chainN s xs).1 = (xs, (((chainN s xs).2 : Nat) : Int), (chainN s xs).1.length)
  | [], s, _ => allN_none (openN_nil s)
  | x :: r, s, h => by
    have h1 := openN_frame s x (chainN (mixN s x) r).1 (h x (by simp))
    rw [chainN, allN_some h1]
    have e : (frameN s x ++ (chainN (mixN s x) r).1).drop (16 + x.length) = (chainN (mixN s x) r).1 := by
      rw [← frameN_length s x, List.drop_left]
    rw [e, allN_chain r _ (fun y hy => h y (by simp [hy]))]
    simp [frameN_length]
theorem chainN_byte : ∀ (xs : List (List Nat)) (s : Nat), (∀ x ∈ xs, ∀ b ∈ x, b < 256) → ∀ b ∈ (chainN s xs).1, b < 256
  | [], s, _ => by simp [chainN]
  | x :: r, s, h => by
    rw [chainN]
    intro b hb
    rcases List.mem_append.1 hb with hb | hb
    · exact frameN_byte s (h x (by simp)) b hb
    · exact chainN_byte r _ (fun y hy => h y (by simp [hy])) b hb
theorem chainN_len : ∀ (xs : List (List Nat)) (s : Nat), (∀ x ∈ xs, x.length ≤ 5000) → (chainN s xs).1.length ≤ 5016 * xs.length
  | [], s, _ => by simp [chainN]
  | x :: r, s, h => by
    have h1 := h x (by simp)
    have h2 := chainN_len r (mixN s x) (fun y hy => h y (by simp [hy]))
    rw [chainN, List.length_append, frameN_length, List.length_cons]
    omega

theorem IsTab.belowB {w w' : World} {p B : Nat} (h : IsTab w p) (b : Below B w w') (hp : p < B) : IsTab w' p := by
  rcases h with h | h
  · exact .inl ((b.block p hp).trans h)
  · exact .inr ((b.block p hp).trans h)
theorem tab_lt {w : World} {p : Nat} (h : IsTab w p) : p < w.heap.size := by
  rcases h with h | h
  · exact (Array.getElem?_eq_some_iff.1 h).1
  · exact (Array.getElem?_eq_some_iff.1 h).1

set_option maxRecDepth 100000 in
set_option maxHeartbeats 1600000 in
theorem chains_any (s : Nat) (A : Option Addr) (c : Nat) (l : List (List Nat)) (w : World) (hv : Bss w (.slice A l.length c) l) (h256 : ∀ x ∈ l, ∀ b ∈ x, b < 256) : Calls Try.prog 9 #[.int .u64 s, .slice A l.length c] w fun e w' => e = .returned (.bool true) ∧ Below w.heap.size w w' := by
  obtain ⟨i0, hi0, hz0, hz1, hz2⟩ := info_parts Try.infoByte
  obtain ⟨A', c', e0, hlc, hcm⟩ := hv.slice
  injection e0 with e1 _ e3
  subst e1; subst e3
  have HA := Lib.hid hv.at_.2
  have H256 := Lib.hid h256
  obtain ⟨n, hn⟩ : ∃ n, l.length = n := ⟨_, rfl⟩
  have HN := Lib.hid hn
  obtain ⟨N, hN⟩ : ∃ N, w.heap.size = N := ⟨_, rfl⟩
  have HNN := Lib.hid hN
  rw [hn] at hlc
  simp only [hn]
  clear hv hn h256
  go_enter Try.func9, Try.ntmps9
  go_wp2_with fail
  refine (new_any w).mono ?_
  rintro e w1 ⟨rfl, ht1, hb1⟩
  rw [hN] at ht1 ⊢
  obtain ⟨B, hB⟩ : ∃ B, w1.heap.size = B := ⟨_, rfl⟩
  have HBB := Lib.hid hB
  have HT1 := Lib.hid ht1
  have HB1 := Lib.hid hb1
  clear hN ht1 hb1 hB
  go_wp2_with fail
  go_loopw [6, 7, 8] (fun ov tv kv wr => ∃ (k : Nat) (t : Nat) (J : List Nat), k ≤ n ∧ k ≤ 20 ∧ kv = .int .i64 k ∧ tv = .int .u64 t ∧ (∀ x ∈ l.take k, x.length ≤ 5000) ∧ chainN s (l.take k) = (J, t) ∧ wr.ownsRow B 5 1 ov J.length (J.map u8v) ∧ IsTab wr N ∧ Fr 0 [] [N] w1 wr) (fun _ _ kv _ => n - (intOf kv).toNat)
  case atStart => exact ⟨0, s, [], Nat.zero_le _, by omega, rfl, rfl, by simp, rfl, World.ownsRow_nil _ _ _ _, HT1.out, Fr.refl _⟩
  case round =>
    obtain ⟨k, t, J, hk, hk20, rfl, rfl, hsh, hch, ho, ht, hf⟩ := hrel
    have HSH := Lib.hid hsh
    have HCH := Lib.hid hch
    have HO := Lib.hid ho
    have HT := Lib.hid ht
    have HF := Lib.hid hf
    have HJL : Hid (J.length ≤ 100320) := Lib.hid (by
      have := chainN_len (l.take k) s hsh
      rw [hch, List.length_take] at this
      simp only at this
      omega)
    have HBW : Hid (Below w.heap.size w wr) := Lib.hid (Fr.own2 HNN.out HB1.out hf)
    clear hsh hch ho ht hf
    by_cases hgo : k < n ∧ k < 20
    · obtain ⟨h1, h2⟩ := hgo
      have hkl : k < l.length := by rw [HN.out]; exact h1
      obtain ⟨g, o, Ak, ck, rfl, hg, hc, hck, hckm, hrk⟩ := HA.out k hkl
      have HLT := Lib.hid (H256.out l[k] (List.getElem_mem hkl))
      have HTK := Lib.hid (List.take_succ_eq_append_getElem hkl)
      obtain ⟨x, hx⟩ : ∃ x, l[k] = x := ⟨_, rfl⟩
      rw [hx] at hc hck hrk HLT HTK
      have hc1 : wr.cell? ⟨g, o + k, none⟩ = some (.slice Ak x.length ck) := (HBW.out.cell (p := ⟨g, o + k, none⟩) hg).trans hc
      have HXV : Hid (Bs wr (.slice Ak x.length ck) x) := Lib.hid ⟨Ak, ck, rfl, hck, hckm, hrk.below HBW.out⟩
      obtain ⟨y, hy⟩ : ∃ y, x.length = y := ⟨_, rfl⟩
      have HY := Lib.hid hy
      rw [hy] at hc1 hck HXV
      clear hx hy hc hrk hckm hkl
      by_cases hbig : 5000 < y
      · go_wp2_with fail
        refine (lives_any wr).mono ?_
        rintro e w3 ⟨rfl, hb3⟩
        have HB3 := Lib.hid hb3
        clear hb3
        go_wp2
        go_ret
        exact ⟨rfl, HBW.out.trans (HB3.out.mono HBW.out.size)⟩
      · have hy5 : y ≤ 5000 := by omega
        go_wp2_with fail
        refine (frame_tab N t _ x HLT.out (by rw [HY.out]; omega) wr HT.out HXV.out).mono ?_
        rintro e w3 ⟨⟨vf, rfl, hvf⟩, ht3, hf3⟩
        obtain ⟨Af, cf, rfl, _⟩ := hvf.slice
        have HFL : Hid ((frameN t x).length = 16 + y) := Lib.hid (by rw [frameN_length, HY.out])
        have HJ2 : Hid (chainN s (l.take (k + 1)) = (J ++ frameN t x, mixN t x)) := Lib.hid (by rw [HTK.out, chainN_snoc, HCH.out])
        have HSH2 : Hid (∀ z ∈ l.take (k + 1), z.length ≤ 5000) := Lib.hid (by
          intro z hz
          rw [HTK.out] at hz
          rcases List.mem_append.1 hz with hz | hz
          · exact HSH.out z hz
          · simp at hz
            subst hz
            rw [HY.out]; exact hy5)
        have HO3 := Lib.hid (own_tab HO.out (by decide) HT.out hf3)
        obtain ⟨G, hG⟩ : ∃ G, frameN t x = G := ⟨_, rfl⟩
        obtain ⟨M, hM⟩ : ∃ M, mixN t x = M := ⟨_, rfl⟩
        rw [hG] at hvf HFL HJ2
        rw [hM] at HJ2
        simp only [hG, hM]
        rw [HFL.out] at hvf
        simp only [HFL.out]
        have HF3 := Lib.hid hvf
        have HT3 := Lib.hid ht3
        have FR3 := Lib.hid (HF.out.trans hf3)
        have hs3 : B ≤ w3.heap.size := by rw [← HBB.out]; exact FR3.out.size
        have hjl := HJL.out
        obtain ⟨j, hj⟩ : ∃ j, J.length = j := ⟨_, rfl⟩
        have HJJ := Lib.hid hj
        rw [hj] at hjl HO3
        obtain ⟨Aj, cj, rfl, _⟩ := own_slice HO3.out
        clear hvf ht3 hf3 hG hM hj HJL hc1 hck
        go_wp2_with (at_builtin
                     go_loud (refine wpList_append_rd _ rfl (.tmp 48) (.tmp 49) 23 rfl B 5 i0 (.int .u8 0) 1 1 Try.underlying23 hi0 hz0 hz1 hz2 rfl (by decide) (.slice Aj j cj) j (J.map u8v) rfl HO3.out Af (16 + y) cf (G.map u8v) rfl HF3.out.rd' (u8_one' _) (by unfold maxLen; omega) (by omega) hs3 ?_)
                     intro v4 w4 hown4 hgrow4 _
                     have hb4 := grown_below (Below.refl B w3) hs3 HO3.out hgrow4
                     rw [← List.map_append] at hown4
                     have HO4 := Lib.hid hown4
                     have HB4 := Lib.hid hb4
                     clear hown4 hgrow4 hb4)
        go_roundw
        case rel =>
          refine ⟨k + 1, M, J ++ G, h1, by omega, by go_num, rfl, HSH2.out, HJ2.out, ?_, ?_, FR3.out.thenB (HBB.out ▸ HB4.out)⟩
          · rw [List.length_append, HJJ.out, HFL.out]; exact HO4.out
          · refine HT3.out.belowB HB4.out ?_
            rw [← HBB.out]
            exact tab_lt HT1.out
        case measure => simp [intOf]; omega
    · have HEND : Hid (k = n ∨ k < n ∧ k = 20) := Lib.hid (by omega)
      have HTL : Hid ((l.take k).length = k) := Lib.hid (by rw [List.length_take, HN.out]; omega)
      have HAN : Hid (allN s J = (l.take k, ((t : Nat) : Int), J.length)) := Lib.hid (by
        have := allN_chain (l.take k) s (fun x hx => by have := HSH.out x hx; omega)
        rwa [HCH.out] at this)
      have HJB : Hid (∀ b ∈ J, b < 256) := Lib.hid (by
        have := chainN_byte (l.take k) s (fun x hx => H256.out x (List.mem_of_mem_take hx))
        rwa [HCH.out] at this)
      have HOB := Lib.hid (Bs.of_own HO.out)
      obtain ⟨Ao, co, rfl, _⟩ := HOB.out.slice
      have hjl := HJL.out
      obtain ⟨j, hj⟩ : ∃ j, J.length = j := ⟨_, rfl⟩
      have HJJ := Lib.hid hj
      rw [hj] at hjl HOB HAN
      simp only [hj]
      clear hj hgo HO HJL
      rcases HEND.out with hkn | ⟨h1, hk2⟩
      · subst hkn
        go_wp2_with fail
        refine (all_tab N s _ J HJB.out (by rw [HJJ.out]; omega) wr HT.out HOB.out).mono ?_
        rintro e w6 ⟨vo, rfl, hvo, _, hf6⟩
        rw [HAN.out] at hvo ⊢
        have HV6 := Lib.hid hvo
        have F6 := Lib.hid (HF.out.trans hf6)
        clear hvo hf6
        go_wp2_with fail
        refine (lives_any w6).mono ?_
        rintro e w7 ⟨rfl, hb7⟩
        obtain ⟨Al, cl, rfl, hlc', hcm'⟩ := HV6.out.slice
        have HV7 := Lib.hid (HV6.out.below hb7).at_.2
        have F7 := Lib.hid (F6.out.then hb7)
        have HW7 : Hid (Below w.heap.size w w7) := Lib.hid (Fr.own2 HNN.out HB1.out F7.out)
        simp only [HTL.out] at hlc' ⊢
        clear hb7 HV6
        go_wp2_with fail
        go_loopw [15] (fun i wr => ∃ q : Nat, q ≤ k ∧ i = .int .i64 q ∧ Below w7.heap.size w7 wr) (fun i _ => k - (intOf i).toNat)
        case atStart => exact ⟨0, Nat.zero_le _, rfl, Below.refl _ _⟩
        case round =>
          obtain ⟨q, hq, rfl, hb⟩ := hrel
          have HW := Lib.hid hb
          clear hb
          by_cases hlt : q < k
          · have hkn : q < k := by omega
            have hge : decide (k ≤ q) = false := decide_eq_false (by omega)
            have hkl : q < l.length := by rw [HN.out]; exact hkn
            obtain ⟨g, o, Ak, ck, rfl, hg, hc, hck, hckm, hrk⟩ := HA.out q hkl
            obtain ⟨g', o', Ak', ck', rfl, hg', hc', hck', hckm', hrk'⟩ := HV7.out q (by rw [HTL.out]; exact hlt)
            rw [List.getElem_take] at hc' hck' hrk'
            have h256 := H256.out l[q] (List.getElem_mem hkl)
            obtain ⟨x, hx⟩ : ∃ x, l[q] = x := ⟨_, rfl⟩
            rw [hx] at hc hc' hck hck' hrk hrk' h256
            obtain ⟨XS, hXS⟩ : ∃ XS, strOf x = XS := ⟨_, rfl⟩
            have HXX := Lib.hid hXS
            have HC := Lib.hid ((HW7.out.cell (p := ⟨g, o + q, none⟩) hg).trans hc)
            have HC' := Lib.hid hc'
            have HR := Lib.hid (hrk.below HW7.out)
            have HR' := Lib.hid hrk'
            have HLT := Lib.hid h256
            have hg := Nat.lt_of_lt_of_le hg HW7.out.size
            clear hx hXS hc hc' hrk hrk' h256 hckm hckm' hkl
            go_wp2_with fail
            refine wp_region_flow (fun W => Below w7.heap.size w7 W) [0, 1, 2, 3, 4, 5, 6, 7, 8, 9, 10, 11, 12, 13, 14, 15, 16] (by kernel_rfl) (by kernel_rfl) (by kernel_rfl) (HW.out.drew) ?_
            refine flow_val ?_ rfl (by kernel_rfl) (by rfl) (fun W hW => ?_) ?_
            rotate_left 1
            · go_simp <;> with_reducible rfl
            simp only [Act.put, List.setIfInBounds_toArray, List.set_cons_succ, List.set_cons_zero]
            refine flow_val ?_ rfl (by kernel_rfl) (by rfl) (fun W hW => ?_) ?_
            rotate_left 1
            · go_simp <;> with_reducible rfl
            simp only [Act.put, List.setIfInBounds_toArray, List.set_cons_succ, List.set_cons_zero]
            refine flow_val ?_ rfl (by kernel_rfl) (by rfl) (fun W hW => ?_) ?_
            rotate_left 1
            · go_simp <;> with_reducible rfl
            simp only [Act.put, List.setIfInBounds_toArray, List.set_cons_succ, List.set_cons_zero]
            refine flow_val ?_ rfl (by kernel_rfl) (by rfl) (fun W hW => ?_) ?_
            rotate_left 1
            · go_simp <;> with_reducible rfl
            simp only [Act.put, List.setIfInBounds_toArray, List.set_cons_succ, List.set_cons_zero]
            refine flow_val ?_ rfl (by kernel_rfl) (by rfl) (fun W hW => ?_) ?_
            rotate_left 1
            · go_simp <;> with_reducible rfl
            simp only [Act.put, List.setIfInBounds_toArray, List.set_cons_succ, List.set_cons_zero]
            refine flow_val ?_ rfl (by kernel_rfl) (by rfl) (fun W hW => ?_) ?_
            rotate_left 1
            · go_simp <;> with_reducible rfl
            simp only [Act.put, List.setIfInBounds_toArray, List.set_cons_succ, List.set_cons_zero]
            refine flow_val ?_ rfl (by kernel_rfl) (by rfl) (fun W hW => ?_) ?_
            rotate_left 1
            · go_simp <;> with_reducible rfl
            simp only [Act.put, List.setIfInBounds_toArray, List.set_cons_succ, List.set_cons_zero]
            refine flow_val ?_ rfl (by kernel_rfl) (by rfl) (fun W hW => ?_) ?_
            rotate_left 1
            · go_simp <;> with_reducible rfl
            simp only [Act.put, List.setIfInBounds_toArray, List.set_cons_succ, List.set_cons_zero]
            refine flow_val ?_ rfl (by kernel_rfl) (by rfl) (fun W hW => ?_) ?_
            rotate_left 1
            · have hc1 : W.cell? ⟨g', o' + q, none⟩ = some (.slice Ak' x.length ck') := (hW.cell (p := ⟨g', o' + q, none⟩) hg').trans HC'.out; go_simp <;> with_reducible rfl
            simp only [Act.put, List.setIfInBounds_toArray, List.set_cons_succ, List.set_cons_zero]
            refine flow_val ?_ rfl (by kernel_rfl) (by rfl) (fun W hW => ?_) ?_
            rotate_left 1
            · have hs := HXX.out ▸ run_str W Ak' x.length ck' x (HR'.out.below hW) HLT.out; go_simp <;> with_reducible rfl
            simp only [Act.put, List.setIfInBounds_toArray, List.set_cons_succ, List.set_cons_zero]
            refine flow_val ?_ rfl (by kernel_rfl) (by rfl) (fun W hW => ?_) ?_
            rotate_left 1
            · go_simp <;> with_reducible rfl
            simp only [Act.put, List.setIfInBounds_toArray, List.set_cons_succ, List.set_cons_zero]
            refine flow_val ?_ rfl (by kernel_rfl) (by rfl) (fun W hW => ?_) ?_
            rotate_left 1
            · go_simp <;> with_reducible rfl
            simp only [Act.put, List.setIfInBounds_toArray, List.set_cons_succ, List.set_cons_zero]
            refine flow_val ?_ rfl (by kernel_rfl) (by rfl) (fun W hW => ?_) ?_
            rotate_left 1
            · go_simp <;> with_reducible rfl
            simp only [Act.put, List.setIfInBounds_toArray, List.set_cons_succ, List.set_cons_zero]
            refine flow_val ?_ rfl (by kernel_rfl) (by rfl) (fun W hW => ?_) ?_
            rotate_left 1
            · have hc1 : W.cell? ⟨g, o + q, none⟩ = some (.slice Ak x.length ck) := (hW.cell (p := ⟨g, o + q, none⟩) hg).trans HC.out; go_simp <;> with_reducible rfl
            simp only [Act.put, List.setIfInBounds_toArray, List.set_cons_succ, List.set_cons_zero]
            refine flow_val ?_ rfl (by kernel_rfl) (by rfl) (fun W hW => ?_) ?_
            rotate_left 1
            · have hs := HXX.out ▸ run_str W Ak x.length ck x (HR.out.below hW) HLT.out; go_simp <;> with_reducible rfl
            simp only [Act.put, List.setIfInBounds_toArray, List.set_cons_succ, List.set_cons_zero]
            refine flow_val ?_ rfl (by kernel_rfl) (by rfl) (fun W hW => ?_) ?_
            rotate_left 1
            · go_simp <;> with_reducible rfl
            simp only [Act.put, List.setIfInBounds_toArray, List.set_cons_succ, List.set_cons_zero]
            refine flow_val ?_ rfl (by kernel_rfl) (by rfl) (fun W hW => ?_) ?_
            rotate_left 1
            · go_simp <;> with_reducible rfl
            simp only [Act.put, List.setIfInBounds_toArray, List.set_cons_succ, List.set_cons_zero]
            refine flow_done ?_
            intro W hW
            have HW2 := Lib.hid hW
            clear hW
            go_wp2_with fail
            go_roundw
            case rel => exact ⟨q + 1, hlt, by go_num, HW2.out⟩
            case measure => simp [intOf]; omega
          · obtain rfl : q = k := by omega
            go_wp2
            go_ret
            exact ⟨rfl, HW7.out.trans (HW.out.mono HW7.out.size)⟩
      · subst hk2
        have he1 : ((20 : Int) == (n : Int)) = false := beq_eq_false_iff_ne.2 (by omega)
        go_wp2_with fail
        refine (all_tab N s _ J HJB.out (by rw [HJJ.out]; omega) wr HT.out HOB.out).mono ?_
        rintro e w6 ⟨vo, rfl, hvo, _, hf6⟩
        rw [HAN.out] at hvo ⊢
        have HV6 := Lib.hid hvo
        have F6 := Lib.hid (HF.out.trans hf6)
        clear hvo hf6
        go_wp2_with fail
        refine (lives_any w6).mono ?_
        rintro e w7 ⟨rfl, hb7⟩
        obtain ⟨Al, cl, rfl, hlc', hcm'⟩ := HV6.out.slice
        have HV7 := Lib.hid (HV6.out.below hb7).at_.2
        have F7 := Lib.hid (F6.out.then hb7)
        have HW7 : Hid (Below w.heap.size w w7) := Lib.hid (Fr.own2 HNN.out HB1.out F7.out)
        simp only [HTL.out] at hlc' ⊢
        clear hb7 HV6
        go_wp2_with fail
        go_loopw [15] (fun i wr => ∃ q : Nat, q ≤ 20 ∧ i = .int .i64 q ∧ Below w7.heap.size w7 wr) (fun i _ => 20 - (intOf i).toNat)
        case atStart => exact ⟨0, Nat.zero_le _, rfl, Below.refl _ _⟩
        case round =>
          obtain ⟨q, hq, rfl, hb⟩ := hrel
          have HW := Lib.hid hb
          clear hb
          by_cases hlt : q < 20
          · have hkn : q < n := by omega
            have hge : decide (n ≤ q) = false := decide_eq_false (by omega)
            have hkl : q < l.length := by rw [HN.out]; exact hkn
            obtain ⟨g, o, Ak, ck, rfl, hg, hc, hck, hckm, hrk⟩ := HA.out q hkl
            obtain ⟨g', o', Ak', ck', rfl, hg', hc', hck', hckm', hrk'⟩ := HV7.out q (by rw [HTL.out]; exact hlt)
            rw [List.getElem_take] at hc' hck' hrk'
            have h256 := H256.out l[q] (List.getElem_mem hkl)
            obtain ⟨x, hx⟩ : ∃ x, l[q] = x := ⟨_, rfl⟩
            rw [hx] at hc hc' hck hck' hrk hrk' h256
            obtain ⟨XS, hXS⟩ : ∃ XS, strOf x = XS := ⟨_, rfl⟩
            have HXX := Lib.hid hXS
            have HC := Lib.hid ((HW7.out.cell (p := ⟨g, o + q, none⟩) hg).trans hc)
            have HC' := Lib.hid hc'
            have HR := Lib.hid (hrk.below HW7.out)
            have HR' := Lib.hid hrk'
            have HLT := Lib.hid h256
            have hg := Nat.lt_of_lt_of_le hg HW7.out.size
            clear hx hXS hc hc' hrk hrk' h256 hckm hckm' hkl
            go_wp2_with fail
            refine wp_region_flow (fun W => Below w7.heap.size w7 W) [0, 1, 2, 3, 4, 5, 6, 7, 8, 9, 10, 11, 12, 13, 14, 15, 16] (by kernel_rfl) (by kernel_rfl) (by kernel_rfl) (HW.out.drew) ?_
            refine flow_val ?_ rfl (by kernel_rfl) (by rfl) (fun W hW => ?_) ?_
            rotate_left 1
            · go_simp <;> with_reducible rfl
            simp only [Act.put, List.setIfInBounds_toArray, List.set_cons_succ, List.set_cons_zero]
            refine flow_val ?_ rfl (by kernel_rfl) (by rfl) (fun W hW => ?_) ?_
            rotate_left 1
            · go_simp <;> with_reducible rfl
            simp only [Act.put, List.setIfInBounds_toArray, List.set_cons_succ, List.set_cons_zero]
            refine flow_val ?_ rfl (by kernel_rfl) (by rfl) (fun W hW => ?_) ?_
            rotate_left 1
            · go_simp <;> with_reducible rfl
            simp only [Act.put, List.setIfInBounds_toArray, List.set_cons_succ, List.set_cons_zero]
            refine flow_val ?_ rfl (by kernel_rfl) (by rfl) (fun W hW => ?_) ?_
            rotate_left 1
            · go_simp <;> with_reducible rfl
            simp only [Act.put, List.setIfInBounds_toArray, List.set_cons_succ, List.set_cons_zero]
            refine flow_val ?_ rfl (by kernel_rfl) (by rfl) (fun W hW => ?_) ?_
            rotate_left 1
            · go_simp <;> with_reducible rfl
            simp only [Act.put, List.setIfInBounds_toArray, List.set_cons_succ, List.set_cons_zero]
            refine flow_val ?_ rfl (by kernel_rfl) (by rfl) (fun W hW => ?_) ?_
            rotate_left 1
            · go_simp <;> with_reducible rfl
            simp only [Act.put, List.setIfInBounds_toArray, List.set_cons_succ, List.set_cons_zero]
            refine flow_val ?_ rfl (by kernel_rfl) (by rfl) (fun W hW => ?_) ?_
            rotate_left 1
            · go_simp <;> with_reducible rfl
            simp only [Act.put, List.setIfInBounds_toArray, List.set_cons_succ, List.set_cons_zero]
            refine flow_val ?_ rfl (by kernel_rfl) (by rfl) (fun W hW => ?_) ?_
            rotate_left 1
            · go_simp <;> with_reducible rfl
            simp only [Act.put, List.setIfInBounds_toArray, List.set_cons_succ, List.set_cons_zero]
            refine flow_val ?_ rfl (by kernel_rfl) (by rfl) (fun W hW => ?_) ?_
            rotate_left 1
            · have hc1 : W.cell? ⟨g', o' + q, none⟩ = some (.slice Ak' x.length ck') := (hW.cell (p := ⟨g', o' + q, none⟩) hg').trans HC'.out; go_simp <;> with_reducible rfl
            simp only [Act.put, List.setIfInBounds_toArray, List.set_cons_succ, List.set_cons_zero]
            refine flow_val ?_ rfl (by kernel_rfl) (by rfl) (fun W hW => ?_) ?_
            rotate_left 1
            · have hs := HXX.out ▸ run_str W Ak' x.length ck' x (HR'.out.below hW) HLT.out; go_simp <;> with_reducible rfl
            simp only [Act.put, List.setIfInBounds_toArray, List.set_cons_succ, List.set_cons_zero]
            refine flow_val ?_ rfl (by kernel_rfl) (by rfl) (fun W hW => ?_) ?_
            rotate_left 1
            · go_simp <;> with_reducible rfl
            simp only [Act.put, List.setIfInBounds_toArray, List.set_cons_succ, List.set_cons_zero]
            refine flow_val ?_ rfl (by kernel_rfl) (by rfl) (fun W hW => ?_) ?_
            rotate_left 1
            · go_simp <;> with_reducible rfl
            simp only [Act.put, List.setIfInBounds_toArray, List.set_cons_succ, List.set_cons_zero]
            refine flow_val ?_ rfl (by kernel_rfl) (by rfl) (fun W hW => ?_) ?_
            rotate_left 1
            · go_simp <;> with_reducible rfl
            simp only [Act.put, List.setIfInBounds_toArray, List.set_cons_succ, List.set_cons_zero]
            refine flow_val ?_ rfl (by kernel_rfl) (by rfl) (fun W hW => ?_) ?_
            rotate_left 1
            · have hc1 : W.cell? ⟨g, o + q, none⟩ = some (.slice Ak x.length ck) := (hW.cell (p := ⟨g, o + q, none⟩) hg).trans HC.out; go_simp <;> with_reducible rfl
            simp only [Act.put, List.setIfInBounds_toArray, List.set_cons_succ, List.set_cons_zero]
            refine flow_val ?_ rfl (by kernel_rfl) (by rfl) (fun W hW => ?_) ?_
            rotate_left 1
            · have hs := HXX.out ▸ run_str W Ak x.length ck x (HR.out.below hW) HLT.out; go_simp <;> with_reducible rfl
            simp only [Act.put, List.setIfInBounds_toArray, List.set_cons_succ, List.set_cons_zero]
            refine flow_val ?_ rfl (by kernel_rfl) (by rfl) (fun W hW => ?_) ?_
            rotate_left 1
            · go_simp <;> with_reducible rfl
            simp only [Act.put, List.setIfInBounds_toArray, List.set_cons_succ, List.set_cons_zero]
            refine flow_val ?_ rfl (by kernel_rfl) (by rfl) (fun W hW => ?_) ?_
            rotate_left 1
            · go_simp <;> with_reducible rfl
            simp only [Act.put, List.setIfInBounds_toArray, List.set_cons_succ, List.set_cons_zero]
            refine flow_done ?_
            intro W hW
            have HW2 := Lib.hid hW
            clear hW
            go_wp2_with fail
            go_roundw
            case rel => exact ⟨q + 1, hlt, by go_num, HW2.out⟩
            case measure => simp [intOf]; omega
          · obtain rfl : q = 20 := by omega
            go_wp2
            go_ret
            exact ⟨rfl, HW7.out.trans (HW.out.mono HW7.out.size)⟩
end Go.Proofs.Ytchdfdimaopdeaa
