/- Package crc: the first frame. -/
import Derived.Test.YtchdfdimaopdeaaQFrame
namespace Go.Proofs.Ytchdfdimaopdeaa
open Go.RowKit

theorem Bs.pos {w : World} {A : Option Addr} {c : Nat} {bs : List Nat} (h : Bs w (.slice A bs.length c) bs) (hn : 0 < bs.length) : ∃ g o, A = some ⟨g, o, none⟩ := by
  obtain ⟨g, o, ha, _⟩ := h.at_ 0 hn
  exact ⟨g, o, ha⟩
theorem Bs.sub {w : World} {g o n c : Nat} {bs : List Nat} (h : Bs w (.slice (some ⟨g, o, none⟩) n c) bs) (k m : Nat) {A' : Option Addr} {c' : Nat} (hk : k + m ≤ n) (hm : m ≤ c') (hc : c' ≤ 9223372036854775807) (hA : 0 < m → A' = some ⟨g, o + k, none⟩) : Bs w (.slice A' m c') ((bs.drop k).take m) := by
  obtain ⟨A, c0, h1, h2, h3, h4⟩ := h
  injection h1 with e1 e2 e3
  subst e1
  have hl : ((bs.drop k).take m).length = m := by rw [List.length_take, List.length_drop]; omega
  refine ⟨A', c', by rw [hl], by omega, by unfold maxLen; omega, by simp, fun hn => ?_⟩
  rw [hl] at hn
  obtain ⟨g', o', ha, hg, hc⟩ := h4.2 (by omega)
  cases ha
  refine ⟨g, o + k, hA hn, hg, fun j u hu => ?_⟩
  rw [List.getElem?_map, List.getElem?_take] at hu
  split at hu
  · rw [List.getElem?_drop] at hu
    rw [Nat.add_assoc]
    exact hc (k + j) u (by rw [List.getElem?_map]; exact hu)
  · simp at hu
theorem Bs.rest {w : World} {g o n c : Nat} {bs : List Nat} (h : Bs w (.slice (some ⟨g, o, none⟩) n c) bs) (k : Nat) {A' : Option Addr} {c' : Nat} (hk : k ≤ n) (hm : n - k ≤ c') (hc : c' ≤ 9223372036854775807) (hA : 0 < n - k → A' = some ⟨g, o + k, none⟩) : Bs w (.slice A' (n - k) c') (bs.drop k) := by
  have := h.sub k (n - k) (by omega) hm hc hA
  rwa [List.take_of_length_le] at this
  obtain ⟨A, c0, h1, _⟩ := h
  injection h1 with e1 e2 e3
  rw [List.length_drop]
  omega
theorem Bs.len {w : World} {A : Option Addr} {n c : Nat} {bs : List Nat} (h : Bs w (.slice A n c) bs) : bs.length = n := by
  obtain ⟨A, c0, h1, _⟩ := h
  injection h1 with e1 e2 e3
  exact e2.symm
/-- The beginning of a slice, whatever its address. -/
theorem Bs.pre {w : World} {A : Option Addr} {n c : Nat} {bs : List Nat} (h : Bs w (.slice A n c) bs) (m : Nat) (hm : m ≤ n) : Bs w (.slice A m c) (bs.take m) := by
  have hl := h.len
  obtain ⟨A0, c0, h1, h2, h3, h4⟩ := h
  injection h1 with e1 e2 e3
  subst e1; subst e3
  have hl' : (bs.take m).length = m := by rw [List.length_take]; omega
  refine ⟨A, c, by rw [hl'], by omega, h3, by simp, fun hn => ?_⟩
  rw [hl'] at hn
  obtain ⟨g', o', ha, hg, hc⟩ := h4.2 (by omega)
  refine ⟨g', o', ha, hg, fun j u hu => hc j u ?_⟩
  rw [List.getElem?_map, List.getElem?_take] at hu
  split at hu
  · rw [List.getElem?_map]; exact hu
  · simp at hu
theorem own_low {w : World} {B B' e size n : Nat} {v : Value} {xs : List Value} (h : w.ownsRow B e size v n xs) (hB : B' ≤ B) : w.ownsRow B' e size v n xs := by
  refine ⟨h.1, ?_⟩
  rcases h.2 with h | ⟨g, cap, cur, h1, h2, h3⟩
  · exact .inl h
  · exact .inr ⟨g, cap, cur, h1, Nat.le_trans hB h2, h3⟩
theorem own_zero {w : World} {B n : Nat} {v : Value} {x : List Nat} (h : w.ownsRow B 5 1 v n (x.map u8v)) : w.ownsRow 0 5 1 v x.length (x.map u8v) := by
  have : x.length = n := by simpa using h.1
  subst this
  exact own_low h (Nat.zero_le _)
/-- What a call of Open leaves. -/
def OpenR (s : Int) (bs : List Nat) (bad : Ending) (good : Value → Nat → Ending) (e : Ending) (w' : World) : Prop :=
  match openN s bs with
  | none => e = bad
  | some (x, m) => ∃ vx, e = good vx m ∧ w'.ownsRow 0 5 1 vx x.length (x.map u8v)
def badT : Ending := .returned (.tuple #[.slice none 0 0, .int .u64 0, .int .i64 10])
def goodT (v : Value) (m : Nat) : Ending := .returned (.tuple #[v, .int .u64 (m : Nat), .int .i64 0])
theorem OpenR.none {s : Int} {bs : List Nat} {bad : Ending} {good : Value → Nat → Ending} {w' : World} (h : openN s bs = none) : OpenR s bs bad good bad w' := by
  unfold OpenR
  rw [h]
theorem OpenR.some {s : Int} {bs x : List Nat} {m : Nat} {bad : Ending} {good : Value → Nat → Ending} {w' : World} {vx : Value} (h : openN s bs = some (x, m)) (hx : w'.ownsRow 0 5 1 vx x.length (x.map u8v)) : OpenR s bs bad good (good vx m) w' := by
  unfold OpenR
  rw [h]
  exact ⟨vx, rfl, hx⟩

set_option maxRecDepth 100000 in
set_option maxHeartbeats 800000 in
theorem open_short (p : Nat) (s : Int) (v : Value) (bs : List Nat) (w : World) (hv : Bs w v bs) (h16 : bs.length < 16) : Calls Try.prog 20 #[.pointer (some ⟨p, 0, none⟩), .int .u64 s, v] w fun e w' => OpenR s bs badT goodT e w' ∧ w = w' := by
  have hN : openN s bs = none := by unfold openN; rw [if_pos h16]
  obtain ⟨A, c, rfl, hl, hlc, hcm⟩ := hv.slice
  have HN := Lib.hid hN
  clear hv hN
  go_enter Try.func20, Try.ntmps20
  go_wp2
  refine bodyPost_ret (results_tmp3 rfl _ _ _) rfl ?_
  exact ⟨OpenR.none HN.out, rfl⟩

set_option maxRecDepth 100000 in
set_option maxHeartbeats 1600000 in
theorem open_tab (p : Nat) (s : Int) (v : Value) (bs : List Nat) (hb : ∀ b ∈ bs, b < 256) (hlen : bs.length ≤ 140737488351232) (w : World) (ht : IsTab w p) (hv : Bs w v bs) (h16 : 16 ≤ bs.length) : Calls Try.prog 20 #[.pointer (some ⟨p, 0, none⟩), .int .u64 s, v] w fun e w' => OpenR s bs badT goodT e w' ∧ IsTab w' p ∧ Fr 0 [] [p] w w' := by
  obtain ⟨A, c, rfl, hl, hlc, hcm⟩ := hv.slice
  have hA := hv.pos (by omega)
  obtain ⟨g, o, rfl⟩ := hA
  have HV := Lib.hid hv
  have HB := Lib.hid hb
  have HT := Lib.hid ht
  obtain ⟨n, hn⟩ : ∃ n, bs.length = n := ⟨_, rfl⟩
  have hL0 := loN_lt (l := bs.take 4) (fun b hx => hb b (List.mem_of_mem_take hx))
  rw [List.length_take, Nat.min_eq_left (by omega)] at hL0
  have hn1l : loN (bs.take 4) < 4294967296 := hL0
  rw [hn] at hl hlen hlc h16
  rw [hn] at HV
  simp only [hn]
  obtain ⟨R, hR1, hR2⟩ : ∃ R : Option Addr, (c = 16 → R = some ⟨g, o, none⟩) ∧ (c ≠ 16 → R = some ⟨g, o + 16, none⟩) := by
    by_cases h : c = 16
    · exact ⟨_, fun _ => rfl, fun e => absurd h e⟩
    · exact ⟨_, fun e => absurd e h, fun _ => rfl⟩
  have g4 : (4 : Int) ≤ (c : Int) := by omega
  have g8 : (8 : Int) ≤ (c : Int) := by omega
  have g16 : (16 : Int) ≤ (c : Int) := by omega
  obtain ⟨n1, hn1⟩ : ∃ n1, loN (bs.take 4) = n1 := ⟨_, rfl⟩
  obtain ⟨sm, hsm⟩ : ∃ sm, loN ((bs.drop 4).take 4) = sm := ⟨_, rfl⟩
  obtain ⟨mx, hmx⟩ : ∃ mx, loN ((bs.drop 8).take 8) = mx := ⟨_, rfl⟩
  rw [hn1] at hn1l
  have g4' : ¬ c = 4 := by omega
  have g8' : ¬ c = 8 := by omega
  have gw1 : IntKind.i64.wrap (n1 : Int) = (n1 : Int) := IntWalk.i64_in _ (by omega)
  have gw2 : IntKind.i64.wrap ((n1 : Int) - 1) = (n1 : Int) - 1 := IntWalk.i64_in _ (by omega)
  have HN1 := Lib.hid hn1
  have HSM := Lib.hid hsm
  have HMX := Lib.hid hmx
  have HN := Lib.hid hn
  have H1 := Lib.hid hR1
  have H2 := Lib.hid hR2
  clear hv hb ht hn1 hsm hmx hn hR1 hR2 hL0
  go_enter Try.func20, Try.ntmps20
  go_wp2_with fail
  refine wp_region_flow (fun W => Bs W (.slice (some ⟨g, o, none⟩) n c) bs ∧ IsTab W p ∧ Fr 0 [] [p] w W) [0, 1, 2, 3, 4, 5, 6, 7, 8, 9, 10, 11, 12, 13, 14, 15, 16] (by kernel_rfl) (by kernel_rfl) (by kernel_rfl) (⟨HV.out.below ((Below.refl _ w).drew), HT.out.keep rfl, (Fr.refl w).drew⟩) ?_
  refine flow_val ?_ rfl (by kernel_rfl) (by rfl) (fun W hW => ?_) ?_
  rotate_left 1
  · go_simp <;> with_reducible rfl
  simp only [Act.put, List.setIfInBounds_toArray, List.set_cons_succ, List.set_cons_zero]
  refine flow_val ?_ rfl (by kernel_rfl) (by rfl) (fun W hW => ?_) ?_
  rotate_left 1
  · go_simp <;> with_reducible rfl
  simp only [Act.put, List.setIfInBounds_toArray, List.set_cons_succ, List.set_cons_zero]
  refine flow_quiet (.int .u64 (n1 : Nat)) rfl (by kernel_rfl) (by rfl) (fun W hW => ⟨_, _, by go_simp, HN1.out ▸ number_any (.slice (some ⟨g, o, none⟩) 4 c) (bs.take 4) (fun b hb => HB.out b (List.mem_of_mem_take hb)) (by rw [List.length_take]; omega) W (hW.1.pre 4 (by omega))⟩) ?_
  simp only [Act.put, List.setIfInBounds_toArray, List.set_cons_succ, List.set_cons_zero]
  refine flow_val ?_ rfl (by kernel_rfl) (by rfl) (fun W hW => ?_) ?_
  rotate_left 1
  · go_simp <;> with_reducible rfl
  simp only [Act.put, List.setIfInBounds_toArray, List.set_cons_succ, List.set_cons_zero]
  refine flow_val ?_ rfl (by kernel_rfl) (by rfl) (fun W hW => ?_) ?_
  rotate_left 1
  · go_simp <;> with_reducible rfl
  simp only [Act.put, List.setIfInBounds_toArray, List.set_cons_succ, List.set_cons_zero]
  refine flow_val ?_ rfl (by kernel_rfl) (by rfl) (fun W hW => ?_) ?_
  rotate_left 1
  · go_simp <;> with_reducible rfl
  simp only [Act.put, List.setIfInBounds_toArray, List.set_cons_succ, List.set_cons_zero]
  refine flow_val ?_ rfl (by kernel_rfl) (by rfl) (fun W hW => ?_) ?_
  rotate_left 1
  · go_simp <;> with_reducible rfl
  simp only [Act.put, List.setIfInBounds_toArray, List.set_cons_succ, List.set_cons_zero]
  refine flow_quiet (.int .u64 (sm : Nat)) rfl (by kernel_rfl) (by rfl) (fun W hW => ⟨_, _, by go_simp, HSM.out ▸ number_any (.slice (some ⟨g, o + 4, none⟩) 4 (c - 4)) ((bs.drop 4).take 4) (fun b hb => HB.out b (List.mem_of_mem_drop (List.mem_of_mem_take hb))) (by rw [List.length_take]; omega) W (hW.1.sub 4 4 (by omega) (by omega) (by omega) (fun _ => rfl))⟩) ?_
  simp only [Act.put, List.setIfInBounds_toArray, List.set_cons_succ, List.set_cons_zero]
  refine flow_val ?_ rfl (by kernel_rfl) (by rfl) (fun W hW => ?_) ?_
  rotate_left 1
  · go_simp <;> with_reducible rfl
  simp only [Act.put, List.setIfInBounds_toArray, List.set_cons_succ, List.set_cons_zero]
  refine flow_val ?_ rfl (by kernel_rfl) (by rfl) (fun W hW => ?_) ?_
  rotate_left 1
  · go_simp <;> with_reducible rfl
  simp only [Act.put, List.setIfInBounds_toArray, List.set_cons_succ, List.set_cons_zero]
  refine flow_quiet (.int .u64 (mx : Nat)) rfl (by kernel_rfl) (by rfl) (fun W hW => ⟨_, _, by go_simp, HMX.out ▸ number_any (.slice (some ⟨g, o + 8, none⟩) 8 (c - 8)) ((bs.drop 8).take 8) (fun b hb => HB.out b (List.mem_of_mem_drop (List.mem_of_mem_take hb))) (by rw [List.length_take]; omega) W (hW.1.sub 8 8 (by omega) (by omega) (by omega) (fun _ => rfl))⟩) ?_
  simp only [Act.put, List.setIfInBounds_toArray, List.set_cons_succ, List.set_cons_zero]
  refine flow_val ?_ rfl (by kernel_rfl) (by rfl) (fun W hW => ?_) ?_
  rotate_left 1
  · go_simp <;> with_reducible rfl
  simp only [Act.put, List.setIfInBounds_toArray, List.set_cons_succ, List.set_cons_zero]
  refine flow_val (.slice R (n - 16) (c - 16)) rfl (by kernel_rfl) (by rfl) (fun W hW => ?_) ?_
  · by_cases hc : c = 16
    · rw [H1.out hc]
      subst hc
      obtain rfl : n = 16 := by omega
      go_simp <;> rfl
    · rw [H2.out hc]
      have hc' : ¬ (c : Int) = 16 := by omega
      go_simp <;> rfl
  simp only [Act.put, List.setIfInBounds_toArray, List.set_cons_succ, List.set_cons_zero]
  refine flow_val ?_ rfl (by kernel_rfl) (by rfl) (fun W hW => ?_) ?_
  rotate_left 1
  · go_simp <;> with_reducible rfl
  simp only [Act.put, List.setIfInBounds_toArray, List.set_cons_succ, List.set_cons_zero]
  refine flow_val ?_ rfl (by kernel_rfl) (by rfl) (fun W hW => ?_) ?_
  rotate_left 1
  · go_simp <;> with_reducible rfl
  simp only [Act.put, List.setIfInBounds_toArray, List.set_cons_succ, List.set_cons_zero]
  refine flow_val ?_ rfl (by kernel_rfl) (by rfl) (fun W hW => ?_) ?_
  rotate_left 1
  · go_simp <;> with_reducible rfl
  simp only [Act.put, List.setIfInBounds_toArray, List.set_cons_succ, List.set_cons_zero]
  refine flow_val ?_ rfl (by kernel_rfl) (by rfl) (fun W hW => ?_) ?_
  rotate_left 1
  · go_simp <;> with_reducible rfl
  simp only [Act.put, List.setIfInBounds_toArray, List.set_cons_succ, List.set_cons_zero]
  refine flow_done ?_
  rintro W1 ⟨hv1, ht1, hf1⟩
  have HVR := Lib.hid (hv1.rest 16 (A' := R) (c' := c - 16) h16 (by omega) (by omega) (fun hp => H2.out (by omega)))
  have HT1 := Lib.hid ht1
  have HF1 := Lib.hid hf1
  clear hv1 ht1 hf1 g4 g8 g16 g4' g8' gw1 gw2
  obtain ⟨r, hr⟩ : ∃ r, n - 16 = r := ⟨_, rfl⟩
  obtain ⟨cr, hcr⟩ : ∃ cr, c - 16 = cr := ⟨_, rfl⟩
  rw [hr, hcr] at HVR
  rw [hr, hcr]
  have hrc : r ≤ cr := by omega
  have hcrm : cr ≤ 9223372036854775807 := by omega
  have hrl : r ≤ 140737488351232 := by omega
  have HRN : Hid (bs.length = r + 16) := Lib.hid (by rw [HN.out]; omega)
  have hbad : n1 = 0 ∨ 65537 < n1 ∨ r + 1 < n1 → openN s bs = none := by
    intro h
    have h1 := HN1.out
    have h2 := HRN.out
    unfold openN
    rw [if_neg (by omega)]
    simp only [h1]
    rw [if_pos]
    rcases h with h | h | h
    · exact .inl h
    · exact .inr (.inl h)
    · exact .inr (.inr (.inl (by omega)))
  have HBAD := Lib.hid hbad
  clear hbad hr hcr h16 hlen hl hlc hcm HV
  cases n1 with
  | zero =>
    have HO := Lib.hid (HBAD.out (.inl rfl))
    go_wp2
    refine bodyPost_ret (results_tmp3 rfl _ _ _) rfl ?_
    exact ⟨OpenR.none HO.out, HT1.out, HF1.out⟩
  | succ d =>
    have ed : (((d + 1 : Nat) : Int) - 1) = (d : Int) := by omega
    rw [ed]
    by_cases h1 : 65536 < d
    · have HO := Lib.hid (HBAD.out (.inr (.inl (by omega))))
      clear ed
      go_wp2
      refine bodyPost_ret (results_tmp3 rfl _ _ _) rfl ?_
      exact ⟨OpenR.none HO.out, HT1.out, HF1.out⟩
    · by_cases h2 : r < d
      · have HO := Lib.hid (HBAD.out (.inr (.inr (by omega))))
        clear ed
        go_wp2
        refine bodyPost_ret (results_tmp3 rfl _ _ _) rfl ?_
        exact ⟨OpenR.none HO.out, HT1.out, HF1.out⟩
      · obtain ⟨x, hx⟩ : ∃ x, (bs.drop 16).take d = x := ⟨_, rfl⟩
        have hvx := HVR.out.pre d (by omega)
        rw [hx] at hvx
        have HX := Lib.hid hvx
        have hxb : ∀ b ∈ x, b < 256 := by rw [← hx]; exact fun b hb => HB.out b (List.mem_of_mem_drop (List.mem_of_mem_take hb))
        have hxl : x.length = d := hvx.len
        have hop : onN 0 x = sm → mixN s x = mx → openN s bs = some (x, mx) := by
          intro e1 e2
          have k1 := HN1.out
          have k2 := HRN.out
          have k3 := HSM.out
          have k4 := HMX.out
          unfold openN
          rw [if_neg (by omega)]
          simp only [k1, k3, k4, Nat.add_sub_cancel, hx]
          rw [if_neg]
          rintro (h | h | h | h | h)
          · omega
          · omega
          · omega
          · exact h e1
          · exact h e2
        have hno : ¬ (onN 0 x = sm ∧ mixN s x = mx) → openN s bs = none := by
          intro e
          have k1 := HN1.out
          have k2 := HRN.out
          have k3 := HSM.out
          have k4 := HMX.out
          unfold openN
          rw [if_neg (by omega)]
          simp only [k1, k3, k4, Nat.add_sub_cancel, hx]
          rw [if_pos]
          by_cases e1 : onN 0 x = sm
          · exact .inr (.inr (.inr (.inr fun e2 => e ⟨e1, e2⟩)))
          · exact .inr (.inr (.inr (.inl e1)))
        have HOP := Lib.hid hop
        have HNO := Lib.hid hno
        have HXB := Lib.hid hxb
        have HXL := Lib.hid hxl
        obtain ⟨q, hq⟩ : ∃ q, onN 0 x = q := ⟨_, rfl⟩
        have hql : q < 4294967296 := by rw [← hq]; exact onN_lt 0 x
        obtain ⟨m, hm⟩ : ∃ m, mixN s x = m := ⟨_, rfl⟩
        have HQ := Lib.hid hq
        have HM := Lib.hid hm
        rw [hq, hm] at HOP HNO
        have hdc : (d : Int) ≤ (cr : Int) := by omega
        have h1' : ¬ (65536 : Int) < (d : Int) := by omega
        have h2' : ¬ (r : Int) < (d : Int) := by omega
        have hd8 : d ≤ 65536 := by omega
        clear ed hx hvx hxb hxl hop hno hq hm h1 h2 HVR HBAD
        go_wp2_with fail
        refine (sum_tab p _ x HXB.out W1 HT1.out HX.out).mono ?_
        rintro e w2 ⟨rfl, ht2, hf2⟩
        rw [HQ.out]
        have HX2 := Lib.hid (HX.out.tab HT1.out hf2)
        have HF2 := Lib.hid (HF1.out.trans hf2)
        have HT2 := Lib.hid ht2
        clear ht2 hf2 HT1 HX HF1
        by_cases hqs : q = sm
        · have HQS := Lib.hid hqs
          have hqs' : (q : Int) = (sm : Int) := by omega
          clear hqs
          go_wp2_with fail
          refine (mix_any s _ x HXB.out w2 HX2.out).mono ?_
          rintro e w3 ⟨rfl, hb3⟩
          rw [mixN_eq, HM.out]
          have HX3 := Lib.hid (HX2.out.below hb3)
          have HF3 := Lib.hid (HF2.out.then hb3)
          have HT3 := Lib.hid (HT2.out.below hb3)
          clear hb3 HT2 HX2 HF2
          by_cases hms : m = mx
          · have HMS := Lib.hid hms
            have hms' : (m : Int) = (mx : Int) := by omega
            clear hms
            go_wp2_with (go_at_call 32; refine (clone_any _ x w3 HX3.out (by rw [HXL.out]; omega)).mono ?_; rintro e w4 ⟨vx, rfl, ho4, hb4⟩)
            have HO4 := Lib.hid (own_low ho4 (Nat.zero_le _))
            have HF4 := Lib.hid (HF3.out.then hb4)
            have HT4 := Lib.hid (HT3.out.below hb4)
            clear ho4 hb4
            refine bodyPost_ret (results_tmp3 rfl _ _ _) rfl ?_
            exact ⟨OpenR.some (HOP.out HQS.out HMS.out) HO4.out, HT4.out, HF4.out⟩
          · have hms' : ¬ (m : Int) = (mx : Int) := by omega
            have hms3 : ((m : Int) != (mx : Int)) = true := by simp; omega
            have HO := Lib.hid (HNO.out (fun h => hms h.2))
            clear hms
            go_wp2
            refine bodyPost_ret (results_tmp3 rfl _ _ _) rfl ?_
            exact ⟨OpenR.none HO.out, HT3.out, HF3.out⟩
        · have hqs' : ¬ (q : Int) = (sm : Int) := by omega
          have HO := Lib.hid (HNO.out (fun h => hqs h.1))
          clear hqs
          go_wp2
          refine bodyPost_ret (results_tmp3 rfl _ _ _) rfl ?_
          exact ⟨OpenR.none HO.out, HT2.out, HF2.out⟩
end Go.Proofs.Ytchdfdimaopdeaa
