/- The walk of the law CrcOpens. -/
import Derived.Test.YtchdfdimaopdeaaQL6
namespace Go.Proofs.Ytchdfdimaopdeaa
open Go.RowKit

/-- The k-th of byte slices in memory. -/
theorem Bss.at_ {w : World} {A : Option Addr} {n c : Nat} {l : List (List Nat)} (h : Bss w (.slice A n c) l) : n = l.length ∧ ∀ k (hk : k < l.length), ∃ g o Ak ck, A = some ⟨g, o, none⟩ ∧ g < w.heap.size ∧ w.cell? ⟨g, o + k, none⟩ = some (.slice Ak (l[k]).length ck) ∧ (l[k]).length ≤ ck ∧ ck ≤ maxLen ∧ Rd w 1 Ak (l[k]).length ((l[k]).map u8v) := by
  obtain ⟨A', c', hs, e, hlc, hcm, hr, hbs⟩ := h
  injection e with e1 e2 e3
  subst e1; subst e2; subst e3
  refine ⟨rfl, fun k hk => ?_⟩
  have hl0 : hs.length = l.length := by simpa using hr.1
  obtain ⟨g, o, ha, hg, hc⟩ := hr.2 (by omega)
  obtain ⟨Ak, ck, e1, e2, e3, e4⟩ := hbs k hk hs[k] (by simp [hl0, hk])
  exact ⟨g, o, Ak, ck, ha, hg, by rw [hc k hs[k] (by simp [hl0, hk]), e1], e2, e3, e4⟩
theorem Bss.slice {w : World} {v : Value} {l : List (List Nat)} (h : Bss w v l) : ∃ A c, v = .slice A l.length c ∧ l.length ≤ c ∧ c ≤ 9223372036854775807 := by
  obtain ⟨A, c, _, e, h1, h2, _⟩ := h
  exact ⟨A, c, e, h1, by unfold maxLen at h2; omega⟩
theorem allN_byte : ∀ (n : Nat) (s : Int) (bs : List Nat), bs.length ≤ n → (∀ b ∈ bs, b < 256) → ∀ x ∈ (allN s bs).1, ∀ b ∈ x, b < 256
  | 0, s, bs, hn, _ => by
    obtain rfl : bs = [] := List.eq_nil_of_length_eq_zero (by omega)
    have h : openN s [] = none := by
      cases h : openN s [] with
      | none => rfl
      | some p => exact absurd (openN_len (x := p.1) (m := p.2) h) (by simp)
    rw [allN_none h]
    simp
  | n + 1, s, bs, hn, hb => by
    cases h : openN s bs with
    | none => rw [allN_none h]; simp
    | some p =>
      obtain ⟨x, m⟩ := p
      have hl := openN_len h
      rw [allN_some h]
      intro y hy
      rcases List.mem_cons.1 hy with rfl | hy
      · exact openN_byte hb h
      · exact allN_byte n _ _ (by rw [List.length_drop]; omega) (fun b hb' => hb b (List.mem_of_mem_drop hb')) y hy
/-- Both openers' answers, in one form. -/
theorem OpenR.both {s : Int} {bs : List Nat} (hb : ∀ b ∈ bs, b < 256) : ∃ (X : List Nat) (m : Nat) (E : Int) (K : Bool), (E = 0 ∧ K = true ∨ E = 10 ∧ K = false) ∧ (∀ b ∈ X, b < 256) ∧ (∀ e w', OpenR s bs badT goodT e w' → ∃ v, e = .returned (.tuple #[v, .int .u64 (m : Nat), .int .i64 E]) ∧ Bs w' v X) ∧ (∀ e w', OpenR s bs badR goodR e w' → ∃ v, e = .returned (.tuple #[v, .int .u64 (m : Nat), .bool K]) ∧ Bs w' v X) := by
  cases h : openN s bs with
  | none =>
    refine ⟨[], 0, 10, false, .inr ⟨rfl, rfl⟩, by simp, fun e w' hr => ?_, fun e w' hr => ?_⟩
    · unfold OpenR at hr
      rw [h] at hr
      obtain rfl := hr
      exact ⟨_, rfl, Bs.nil _⟩
    · unfold OpenR at hr
      rw [h] at hr
      obtain rfl := hr
      exact ⟨_, rfl, Bs.nil _⟩
  | some p =>
    obtain ⟨x, m⟩ := p
    refine ⟨x, m, 0, true, .inl ⟨rfl, rfl⟩, openN_byte hb h, fun e w' hr => ?_, fun e w' hr => ?_⟩
    · unfold OpenR at hr
      rw [h] at hr
      obtain ⟨v, rfl, hv⟩ := hr
      exact ⟨v, rfl, Bs.of_own hv⟩
    · unfold OpenR at hr
      rw [h] at hr
      obtain ⟨v, rfl, hv⟩ := hr
      exact ⟨v, rfl, Bs.of_own hv⟩

set_option maxRecDepth 100000 in
set_option maxHeartbeats 1600000 in
theorem opens_any (s : Nat) (A : Option Addr) (c : Nat) (bs : List Nat) (w : World) (hb : IsBy w A c bs) (hl : bs.length ≤ 1048576) : Calls Try.prog 8 #[.int .u64 s, .slice A bs.length c] w fun e w' => e = .returned (.bool true) ∧ Below w.heap.size w w' := by
  obtain ⟨i0, hi0, hz0, hz1, hz2⟩ := info_parts Try.infoByte
  have HBB := Lib.hid hb.2.2.2.1
  obtain ⟨X, m, E, K, hEK, hX, h1, h2⟩ := OpenR.both (s := (s : Int)) hb.2.2.2.1
  have HEK := Lib.hid hEK
  have HX := Lib.hid hX
  have H1 := Lib.hid h1
  have H2 := Lib.hid h2
  have HAB := Lib.hid (allN_byte bs.length (s : Int) bs (Nat.le_refl _) hb.2.2.2.1)
  obtain ⟨L, hL⟩ : ∃ L, (allN (s : Int) bs).1 = L := ⟨_, rfl⟩
  obtain ⟨T, hT⟩ : ∃ T, (allN (s : Int) bs).2.1 = T := ⟨_, rfl⟩
  obtain ⟨a, ha⟩ : ∃ a, (allN (s : Int) bs).2.2 = a := ⟨_, rfl⟩
  rw [hL] at HAB
  have HAL := Lib.hid hL
  have HAT := Lib.hid hT
  have HAA := Lib.hid ha
  obtain ⟨n, hn⟩ : ∃ n, bs.length = n := ⟨_, rfl⟩
  have HN := Lib.hid hn
  have HV : Hid (Bs w (.slice A n c) bs) := Lib.hid (hn ▸ hb.bs)
  obtain ⟨N, hN⟩ : ∃ N, w.heap.size = N := ⟨_, rfl⟩
  have HNN := Lib.hid hN
  rw [hn] at hl
  simp only [hn]
  clear hb hn hEK hX h1 h2 hL hT ha
  go_enter Try.func8, Try.ntmps8
  go_wp2_with fail
  refine (new_any w).mono ?_
  rintro e w1 ⟨rfl, ht1, hb1⟩
  rw [hN] at ht1 ⊢
  have HT1 := Lib.hid ht1
  have HB1 := Lib.hid hb1
  have HV1 := Lib.hid (HV.out.below hb1)
  clear hN ht1 hb1
  have HO0 := Lib.hid (own_of_cells w1 #[] 0 (Nat.zero_le _) rfl)
  have HE0 := Lib.hid ((HV1.out.below ((Below.refl _ w1).alloc (Nat.le_refl _) (.cells #[] 5))).rd')
  go_wp2_with (at_builtin
               refine wpList_append_rd _ rfl (.tmp 21) (.tmp 22) 23 rfl w1.heap.size 5 i0 (.int .u8 0) 1 1 Try.underlying23 hi0 hz0 hz1 hz2 rfl (by decide) (.slice (some ⟨w1.heap.size, 0, none⟩) 0 0) 0 [] rfl HO0.out A n c (bs.map u8v) rfl HE0.out (u8_one' _) (by unfold maxLen; omega) (by omega) (by simp) ?_
               intro v2 w2 hown2 hgrow2 _
               have hb2 := grown_below ((Below.refl _ w1).alloc (Nat.le_refl _) (.cells #[] 5)) (by simp) HO0.out hgrow2
               simp only [Nat.zero_add, List.nil_append] at hown2
               have HO2 := Lib.hid (Bs.own_n hown2)
               have HT2 := Lib.hid (HT1.out.below hb2)
               have HV2 := Lib.hid (HV1.out.below hb2)
               have F2 := Lib.hid (Fr.of_below (B := 0) (T := []) (S := [N]) hb2)
               clear hown2 hgrow2 hb2)
  refine (open_all N s _ bs HBB.out (by rw [HN.out]; omega) w2 HT2.out HO2.out).mono ?_
  rintro e w3 ⟨hr, ht3, hf3⟩
  obtain ⟨vx, rfl, hvx⟩ := H1.out _ _ hr
  have HX3 := Lib.hid hvx
  have HT3 := Lib.hid ht3
  have HO3 := Lib.hid (HO2.out.tab HT2.out hf3)
  have HV3 := Lib.hid (HV2.out.tab HT2.out hf3)
  have F3 := Lib.hid (F2.out.trans hf3)
  clear hr hvx ht3 hf3 HT2 HO2 HV2 F2
  go_wp2_with fail
  refine (ropen_all s _ bs HBB.out (by rw [HN.out]; omega) w3 HV3.out).mono ?_
  rintro e w4 ⟨hr, hb4⟩
  obtain ⟨vy, rfl, hvy⟩ := H2.out _ _ hr
  have HY4 := Lib.hid hvy
  have HX4 := Lib.hid (HX3.out.below hb4)
  have HT4 := Lib.hid (HT3.out.below hb4)
  have HO4 := Lib.hid (HO3.out.below hb4)
  have HV4 := Lib.hid (HV3.out.below hb4)
  have F4 := Lib.hid (F3.out.then hb4)
  clear hr hvy hb4 HX3 HT3 HO3 HV3 F3
  go_wp2_with fail
  refine (all_tab N s _ bs HBB.out (by rw [HN.out]; omega) w4 HT4.out HO4.out).mono ?_
  rintro e w5 ⟨vo, rfl, hvo, _, hf5⟩
  simp only [HAL.out, HAT.out, HAA.out] at hvo ⊢
  have HL5 := Lib.hid hvo
  have HY5 := Lib.hid (HY4.out.tab HT4.out hf5)
  have HX5 := Lib.hid (HX4.out.tab HT4.out hf5)
  have HO5 := Lib.hid (HO4.out.tab HT4.out hf5)
  have HV5 := Lib.hid (HV4.out.tab HT4.out hf5)
  have F5 := Lib.hid (F4.out.trans hf5)
  clear hvo hf5 HT4 HX4 HY4 HO4 HV4 F4
  go_wp2_with fail
  refine (rall_any s _ bs HBB.out (by rw [HN.out]; omega) w5 HV5.out).mono ?_
  rintro e w6 ⟨vp, rfl, hvp, hb6⟩
  simp only [HAL.out, HAT.out, HAA.out] at hvp ⊢
  have HM6 := Lib.hid hvp
  have HL6 := Lib.hid (HL5.out.below hb6)
  have HY6 := Lib.hid (HY5.out.below hb6)
  have HX6 := Lib.hid (HX5.out.below hb6)
  have HO6 := Lib.hid (HO5.out.below hb6)
  have HV6 := Lib.hid (HV5.out.below hb6)
  have F6 := Lib.hid (F5.out.then hb6)
  clear hvp hb6 HL5 HX5 HY5 HO5 HV5 F5
  go_wp2_with fail
  refine (lives_any w6).mono ?_
  rintro e w7 ⟨rfl, hb7⟩
  obtain ⟨Ax, cx, rfl, _⟩ := HX6.out.slice
  obtain ⟨Ay, cy, rfl, _⟩ := HY6.out.slice
  obtain ⟨Ao, co, rfl, _⟩ := HO6.out.slice
  obtain ⟨Al, cl, rfl, hlc, hcm⟩ := HL6.out.slice
  obtain ⟨Am, cm, rfl, hlc', hcm'⟩ := HM6.out.slice
  have HL7 := Lib.hid (HL6.out.below hb7).at_.2
  have HM7 := Lib.hid (HM6.out.below hb7).at_.2
  obtain ⟨SX, hSX⟩ : ∃ SX, strOf X = SX := ⟨_, rfl⟩
  obtain ⟨SB, hSB⟩ : ∃ SB, strOf bs = SB := ⟨_, rfl⟩
  simp only [HN.out] at HO6 ⊢
  have s1 := hSX ▸ run_str w7 Ax X.length cx X (HX6.out.below hb7).rd' HX.out
  have s2 := hSX ▸ run_str w7 Ay X.length cy X (HY6.out.below hb7).rd' HX.out
  have s3 := hSB ▸ run_str w7 Ao n co bs (HO6.out.below hb7).rd' HBB.out
  have s4 := hSB ▸ run_str w7 A n c bs (HV6.out.below hb7).rd' HBB.out
  have F7 := Lib.hid (F6.out.then hb7)
  clear hb7 hSX hSB HX6 HY6 HO6 HL6 HM6 HV6 F6
  rcases HEK.out with ⟨rfl, rfl⟩ | ⟨rfl, rfl⟩
  all_goals
    go_wp2_with fail
    go_loopw [19] (fun i wr => ∃ k : Nat, k ≤ L.length ∧ i = .int .i64 k ∧ Below w7.heap.size w7 wr) (fun i _ => L.length - (intOf i).toNat)
    case atStart => exact ⟨0, Nat.zero_le _, rfl, Below.refl _ _⟩
    case round =>
      obtain ⟨k, hk, rfl, hb⟩ := hrel
      have HW := Lib.hid hb
      clear hb s1 s2 s3 s4
      by_cases hlt : k < L.length
      · obtain ⟨g, o, Ak, ck, rfl, hg, hc, hck, hckm, hrk⟩ := HL7.out k hlt
        obtain ⟨g', o', Ak', ck', rfl, hg', hc', hck', hckm', hrk'⟩ := HM7.out k hlt
        have h256 := HAB.out L[k] (List.getElem_mem hlt)
        obtain ⟨x, hx⟩ : ∃ x, L[k] = x := ⟨_, rfl⟩
        rw [hx] at hc hc' hck hck' hrk hrk' h256
        obtain ⟨XS, hXS⟩ : ∃ XS, strOf x = XS := ⟨_, rfl⟩
        have HXX := Lib.hid hXS
        have HC := Lib.hid hc
        have HC' := Lib.hid hc'
        have HR := Lib.hid hrk
        have HR' := Lib.hid hrk'
        have HLT := Lib.hid h256
        clear hx hXS hc hc' hrk hrk' h256 hckm hckm'
        go_wp2_with fail
        refine wp_region_flow (fun W => Below w7.heap.size w7 W) [0, 1, 2, 3, 4, 5, 6, 7, 8, 9, 10] (by kernel_rfl) (by kernel_rfl) (by kernel_rfl) (HW.out.drew) ?_
        refine flow_val ?_ rfl (by kernel_rfl) (by rfl) (fun W hW => ?_) ?_
        rotate_left 1
        · go_simp <;> with_reducible rfl
        simp only [Act.put, List.setIfInBounds_toArray, List.set_cons_succ, List.set_cons_zero]
        refine flow_val ?_ rfl (by kernel_rfl) (by rfl) (fun W hW => ?_) ?_
        rotate_left 1
        · go_simp <;> with_reducible rfl
        simp only [Act.put, List.setIfInBounds_toArray, List.set_cons_succ, List.set_cons_zero]
        refine flow_val ?_ rfl (by kernel_rfl) (by rfl) (fun W hW => ?_) ?_
        rotate_left 1
        · go_simp <;> with_reducible rfl
        simp only [Act.put, List.setIfInBounds_toArray, List.set_cons_succ, List.set_cons_zero]
        refine flow_val ?_ rfl (by kernel_rfl) (by rfl) (fun W hW => ?_) ?_
        rotate_left 1
        · have hc1 : W.cell? ⟨g, o + k, none⟩ = some (.slice Ak x.length ck) := (hW.cell (p := ⟨g, o + k, none⟩) hg).trans HC.out; go_simp <;> with_reducible rfl
        simp only [Act.put, List.setIfInBounds_toArray, List.set_cons_succ, List.set_cons_zero]
        refine flow_val ?_ rfl (by kernel_rfl) (by rfl) (fun W hW => ?_) ?_
        rotate_left 1
        · have hs := HXX.out ▸ run_str W Ak x.length ck x (HR.out.below hW) HLT.out; go_simp <;> with_reducible rfl
        simp only [Act.put, List.setIfInBounds_toArray, List.set_cons_succ, List.set_cons_zero]
        refine flow_val ?_ rfl (by kernel_rfl) (by rfl) (fun W hW => ?_) ?_
        rotate_left 1
        · go_simp <;> with_reducible rfl
        simp only [Act.put, List.setIfInBounds_toArray, List.set_cons_succ, List.set_cons_zero]
        refine flow_val ?_ rfl (by kernel_rfl) (by rfl) (fun W hW => ?_) ?_
        rotate_left 1
        · go_simp <;> with_reducible rfl
        simp only [Act.put, List.setIfInBounds_toArray, List.set_cons_succ, List.set_cons_zero]
        refine flow_val ?_ rfl (by kernel_rfl) (by rfl) (fun W hW => ?_) ?_
        rotate_left 1
        · go_simp <;> with_reducible rfl
        simp only [Act.put, List.setIfInBounds_toArray, List.set_cons_succ, List.set_cons_zero]
        refine flow_val ?_ rfl (by kernel_rfl) (by rfl) (fun W hW => ?_) ?_
        rotate_left 1
        · have hc1 : W.cell? ⟨g', o' + k, none⟩ = some (.slice Ak' x.length ck') := (hW.cell (p := ⟨g', o' + k, none⟩) hg').trans HC'.out; go_simp <;> with_reducible rfl
        simp only [Act.put, List.setIfInBounds_toArray, List.set_cons_succ, List.set_cons_zero]
        refine flow_val ?_ rfl (by kernel_rfl) (by rfl) (fun W hW => ?_) ?_
        rotate_left 1
        · have hs := HXX.out ▸ run_str W Ak' x.length ck' x (HR'.out.below hW) HLT.out; go_simp <;> with_reducible rfl
        simp only [Act.put, List.setIfInBounds_toArray, List.set_cons_succ, List.set_cons_zero]
        refine flow_val ?_ rfl (by kernel_rfl) (by rfl) (fun W hW => ?_) ?_
        rotate_left 1
        · go_simp <;> with_reducible rfl
        simp only [Act.put, List.setIfInBounds_toArray, List.set_cons_succ, List.set_cons_zero]
        refine flow_done ?_
        intro W hW
        have HW2 := Lib.hid hW
        clear hW
        go_wp2_with fail
        go_roundw
        case rel => exact ⟨k + 1, hlt, by go_num, HW2.out⟩
        case measure => simp [intOf]; omega
      · obtain rfl : k = L.length := by omega
        go_wp2
        go_ret
        exact ⟨rfl, Fr.own2 HNN.out HB1.out (F7.out.then HW.out)⟩
end Go.Proofs.Ytchdfdimaopdeaa
