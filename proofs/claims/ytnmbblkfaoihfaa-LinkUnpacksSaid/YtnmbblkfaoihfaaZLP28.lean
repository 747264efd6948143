/- The reference's packet of a code. -/
import Derived.Test.YtnmbblkfaoihfaaZLP27
import Derived.Test.YtnmbblkfaoihfaaZLP19
namespace Go.Proofs.Ytnmbblkfaoihfaa
open Go.RowKit

theorem doneT_same {s r : List Nat × Bool} (h : SameT s r) : doneT s = doneT r := by
  obtain ⟨s1, s2⟩ := s
  obtain ⟨r1, r2⟩ := r
  obtain ⟨h1, h2⟩ := h
  simp only at h1 h2
  subst h1
  cases s2 with
  | true => simp [doneT]
  | false => rw [h2 rfl]
theorem IsBy.lt {w : World} {A : Option Addr} {c : Nat} {bs : List Nat} (h : IsBy w A c bs) : 0 < bs.length → ∀ a, A = some a → a.block < w.heap.size := fun hn a ha => by
  obtain ⟨g, o, e, hg, _⟩ := h.2.2.1.2 (by simpa using hn)
  rw [e] at ha
  cases ha
  exact hg
/-- The reference's taker of bytes that came in. -/
theorem ist_of_by {w W : World} {A : Option Addr} {c p : Nat} {bs : List Nat} {T : TypeId} (h : IsBy w A c bs) (hb : Below w.heap.size w W) (hp : W.heap[p]? = some (.cells #[.slice A bs.length c, .bool false] T (0, 0))) :
    ∃ D : Option Nat, IsT W T p D (bs, false) ∧ ∀ d, D = some d → d < w.heap.size := by
  refine ⟨if 0 < bs.length then A.map (·.block) else none, ⟨A, c, hp, h.1, by have := h.2.1; unfold maxLen; omega, h.2.2.1.below hb, fun hn a ha => ?_, h.2.2.2.1, h.2.2.2.2⟩, fun d hd => ?_⟩
  · simp only at hn
    rw [if_pos hn, ha]; rfl
  · split at hd
    · rename_i hn
      cases hA : A with
      | none => rw [hA] at hd; simp at hd
      | some a => rw [hA] at hd; simp at hd; rw [← hd]; exact h.lt hn a hA
    · cases hd

set_option maxRecDepth 100000 in
set_option maxHeartbeats 4000000 in
theorem rdec_any (A : Option Addr) (c : Nat) (bs : List Nat) (w : World) (hby : IsBy w A c bs) :
    Calls Try.prog 30 #[.slice A bs.length c] w (RetDec (.bool true) (.bool false) (unP bs) w) := by
  have hl := hby.2.2.2.1
  have ht : bs.length ≤ 140737488351232 := Nat.le_trans hby.1 hby.2.1
  obtain ⟨n1, s1, e1⟩ : ∃ n s, numT (bs, false) 0 1099511627776 = (n, s) := ⟨_, _, rfl⟩
  obtain ⟨n2, s2, e2⟩ : ∃ n s, numT s1 0 1099511627776 = (n, s) := ⟨_, _, rfl⟩
  have hl1 : (∀ b ∈ s1.1, b < 256) ∧ s1.1.length ≤ bs.length := by have h1 := numT_lt (s := (bs, false)) hl 0 1099511627776; have h2 := numT_le (bs, false) 0 1099511627776; rw [e1] at h1 h2; exact ⟨h1, h2⟩
  have hl2 : (∀ b ∈ s2.1, b < 256) ∧ s2.1.length ≤ bs.length := by have h1 := numT_lt hl1.1 0 1099511627776; have h2 := numT_le s1 0 1099511627776; rw [e2] at h1 h2; exact ⟨h1, Nat.le_trans h2 hl1.2⟩
  have hst := SameT.text (s := s2) (r := s2) hl2.1 (SameT.refl _) 2048
  have hle := textT_le s2 2048
  have hlt := (textT_lt hl2.1 2048).1
  obtain ⟨t3, s3, e3⟩ : ∃ n s, rtextT s2 2048 = (n, s) := ⟨_, _, rfl⟩
  rw [e3] at hst
  simp only at hst
  rw [hst.1] at hle hlt
  have hun : unP bs = if doneT s3 = 0 ∧ mayL ⟨n1, n2, t3⟩ = true then (⟨n1, n2, t3⟩, true) else (⟨0, 0, []⟩, false) := by
    unfold unP
    simp only [e1, e2, hst.1, doneT_same hst.2]
  have hl3 : (∀ b ∈ t3, b < 256) ∧ t3.length ≤ bs.length := ⟨hlt, Nat.le_trans hle hl2.2⟩
  have HUN := Lib.hid hun
  have E1 := Lib.hid e1
  have E2 := Lib.hid e2
  have E3 := Lib.hid e3
  have HL3 := Lib.hid hl3
  have HTl := Lib.hid ht
  obtain ⟨wa, hwa⟩ : ∃ wa, ((w.alloc (.cells #[.int .i64 0, .int .i64 0, .slice none 0 0] 43)).alloc (.cells #[.slice A bs.length c, .bool false] 103)).alloc (.cells #[.int .i64 0, .int .i64 0, .slice none 0 0] 43) = wa := ⟨_, rfl⟩
  have hba : Below w.heap.size w wa := by rw [← hwa]; exact (((Below.refl _ w).alloc (Nat.le_refl _) _).alloc (by simp) _).alloc (by simp; omega) _
  have hza : wa.heap.size = w.heap.size + 3 := by rw [← hwa]; simp
  have hr0 : wa.heap[w.heap.size]? = some (.cells #[.int .i64 0, .int .i64 0, .slice none 0 0] 43 (0, 0)) := by
    rw [← hwa]
    exact ((((Below.refl (w.heap.size + 1) (w.alloc (.cells #[.int .i64 0, .int .i64 0, .slice none 0 0] 43))).alloc (by simp) _).alloc (by simp) _).block _ (by omega)).trans (block_new w _)
  have hp0 : wa.heap[w.heap.size + 1]? = some (.cells #[.slice A bs.length c, .bool false] 103 (0, 0)) := by
    rw [← hwa]
    have h1 := block_new (w.alloc (.cells #[.int .i64 0, .int .i64 0, .slice none 0 0] 43)) (.cells #[.slice A bs.length c, .bool false] 103)
    simp only [World.size_alloc] at h1
    exact (((Below.refl (w.heap.size + 2) ((w.alloc (.cells #[.int .i64 0, .int .i64 0, .slice none 0 0] 43)).alloc (.cells #[.slice A bs.length c, .bool false] 103))).alloc (by simp) _).block _ (by omega)).trans h1
  have hq0 : wa.heap[w.heap.size + 2]? = some (.cells #[.int .i64 0, .int .i64 0, .slice none 0 0] 43 (0, 0)) := by
    rw [← hwa]
    have h1 := block_new ((w.alloc (.cells #[.int .i64 0, .int .i64 0, .slice none 0 0] 43)).alloc (.cells #[.slice A bs.length c, .bool false] 103)) (.cells #[.int .i64 0, .int .i64 0, .slice none 0 0] 43)
    simpa using h1
  obtain ⟨D, hT, hD⟩ := ist_of_by hby hba hp0
  have hDp : D ≠ some (w.heap.size + 1) := fun h => by have := hD _ h; omega
  have hDq : D ≠ some (w.heap.size + 2) := fun h => by have := hD _ h; omega
  have HDP := Lib.hid hDp
  have HDQ := Lib.hid hDq
  have HWA := Lib.hid hwa
  have HBA := Lib.hid hba
  have HZA := Lib.hid hza
  have HR0 := Lib.hid hr0
  have HQ0 := Lib.hid hq0
  have HT := Lib.hid hT
  clear hun e1 e2 e3 hl ht hl1 hl2 hl3 hwa hba hza hr0 hp0 hq0 hT hD hDp hDq hst hle hlt
  go_enter Try.func30, Try.ntmps30
  go_wp2_with fail
  rw [HWA.out]
  refine (rtnum_any (w.heap.size + 1) D _ 0 1099511627776 wa HT.out HDP.out).mono ?_
  rintro e w2 ⟨rfl, hT2, hf2⟩
  rw [E1.out] at hT2 ⊢
  have hq2 := hf2.keep0 HQ0.out (by simp)
  have hr2 := hf2.keep0 HR0.out (by simp)
  have hf2' : Fr 0 [] [w.heap.size + 2] w2 (w2.setCell ⟨w.heap.size + 2, 0, none⟩ (.int .i64 n1)) := (Fr.refl w2).setCell (p := ⟨w.heap.size + 2, 0, none⟩) _ (Nat.zero_le _) (.inl (by simp))
  have hT2' := hT2.keep hf2' (by simp) (fun d hd => by simp; rintro rfl; exact HDQ.out hd)
  have hq2' := block_set hq2 0 (.int .i64 n1)
  have hb2 : Below w.heap.size w (w2.setCell ⟨w.heap.size + 2, 0, none⟩ (.int .i64 n1)) := (HBA.out.trans (hf2.belowT (Nat.le_succ _) HBA.out.size)).trans (hf2'.belowT (by omega) (Nat.le_trans HBA.out.size hf2.size))
  have x0 : w2.cell? ⟨w.heap.size + 2, 0, none⟩ = some (.int .i64 0) := cell_at hq2 0
  have xf0 := frozen_at hq2 0
  obtain ⟨w3, hw3⟩ : ∃ w3, w2.setCell ⟨w.heap.size + 2, 0, none⟩ (.int .i64 n1) = w3 := ⟨_, rfl⟩
  have hr3 := hf2'.keep0 hr2 (by simp)
  rw [hw3] at hT2' hq2' hb2 hr3
  have HT3 := Lib.hid hT2'
  have HQ3 := Lib.hid hq2'
  have HR3 := Lib.hid hr3
  have HB3 := Lib.hid hb2
  have HW3 := Lib.hid hw3
  clear hT2 hf2 hq2 hr2 hf2' hT2' hq2' hb2 hr3 hw3
  go_wp2_with fail
  rw [HW3.out]
  refine (rtnum_any (w.heap.size + 1) D _ 0 1099511627776 w3 HT3.out HDP.out).mono ?_
  rintro e w4 ⟨rfl, hT4, hf4⟩
  rw [E2.out] at hT4 ⊢
  have hq4 := hf4.keep0 HQ3.out (by simp)
  have hr4 := hf4.keep0 HR3.out (by simp)
  have hf4' : Fr 0 [] [w.heap.size + 2] w4 (w4.setCell ⟨w.heap.size + 2, 1, none⟩ (.int .i64 n2)) := (Fr.refl w4).setCell (p := ⟨w.heap.size + 2, 1, none⟩) _ (Nat.zero_le _) (.inl (by simp))
  have hT4' := hT4.keep hf4' (by simp) (fun d hd => by simp; rintro rfl; exact HDQ.out hd)
  have hq4' := block_set hq4 1 (.int .i64 n2)
  have hb4 : Below w.heap.size w (w4.setCell ⟨w.heap.size + 2, 1, none⟩ (.int .i64 n2)) := (HB3.out.trans (hf4.belowT (Nat.le_succ _) HB3.out.size)).trans (hf4'.belowT (by omega) (Nat.le_trans HB3.out.size hf4.size))
  have y0 : w4.cell? ⟨w.heap.size + 2, 1, none⟩ = some (.int .i64 0) := cell_at hq4 1
  have yf0 := frozen_at hq4 1
  obtain ⟨w5, hw5⟩ : ∃ w5, w4.setCell ⟨w.heap.size + 2, 1, none⟩ (.int .i64 n2) = w5 := ⟨_, rfl⟩
  have hr5 := hf4'.keep0 hr4 (by simp)
  rw [hw5] at hT4' hq4' hb4 hr5
  have HT5 := Lib.hid hT4'
  have HQ5 := Lib.hid hq4'
  have HR5 := Lib.hid hr5
  have HB5 := Lib.hid hb4
  have HW5 := Lib.hid hw5
  clear hT4 hf4 hq4 hr4 hf4' hT4' hq4' hb4 hr5 hw5 x0 xf0
  go_wp2_with fail
  rw [HW5.out]
  refine (rttext_any (w.heap.size + 1) D s2 2048 w5 HT5.out HDP.out).mono ?_
  rintro e w6 ⟨rfl, hT6, hf6⟩
  rw [E3.out] at hT6 ⊢
  have hq6 := hf6.keep0 HQ5.out (by simp)
  have hr6 := hf6.keep0 HR5.out (by simp)
  have hz6 : w.heap.size + 3 ≤ w6.heap.size := by have h1 := lt_of_block hq6; omega
  obtain ⟨c7, w7, hcv, hbs7, hb7, hz7⟩ := str_bytes w6 (strOf t3) (by rw [strOf_size]; have := HL3.out.2; have := HTl.out; unfold maxLen; omega)
  rw [strOf_size] at hcv hbs7
  rw [natsOf_strOf HL3.out.1] at hbs7
  have hq7 := (hb7.block _ (by omega)).trans hq6
  have hr7 := (hb7.block _ (by omega)).trans hr6
  have hT7 := hT6.below hb7
  have hf8 : Fr 0 [] [w.heap.size + 2] w7 (w7.setCell ⟨w.heap.size + 2, 2, none⟩ (.slice (some ⟨w6.heap.size, 0, none⟩) t3.length c7)) := (Fr.refl w7).setCell (p := ⟨w.heap.size + 2, 2, none⟩) _ (Nat.zero_le _) (.inl (by simp))
  have hq8 := block_set hq7 2 (.slice (some ⟨w6.heap.size, 0, none⟩) t3.length c7)
  have hr8 := hf8.keep0 hr7 (by simp)
  have hb8 : Below w.heap.size w (w7.setCell ⟨w.heap.size + 2, 2, none⟩ (.slice (some ⟨w6.heap.size, 0, none⟩) t3.length c7)) := (HB5.out.trans (hf6.belowT (Nat.le_succ _) HB5.out.size)).trans ((hb7.mono (by omega)).trans (hf8.belowT (by omega) (by omega)))
  have hbs8 := hbs7.keepF hf8 (by simp; omega)
  have hne : w6.heap.size ≠ w.heap.size := by omega
  have HNE := Lib.hid hne
  have z0 : w7.cell? ⟨w.heap.size + 2, 2, none⟩ = some (.slice none 0 0) := cell_at hq7 2
  have zf0 := frozen_at hq7 2
  obtain ⟨g, hg⟩ : ∃ g, w6.heap.size = g := ⟨_, rfl⟩
  rw [hg] at hcv hq8 hr8 hb8 hbs8 HNE
  obtain ⟨w8, hw8⟩ : ∃ w8, w7.setCell ⟨w.heap.size + 2, 2, none⟩ (.slice (some ⟨g, 0, none⟩) t3.length c7) = w8 := ⟨_, rfl⟩
  rw [hw8] at hq8 hb8 hr8 hbs8
  have HW8 := Lib.hid hw8
  have HB8 := Lib.hid hb8
  have HR8 := Lib.hid hr8
  have HQ8 := Lib.hid hq8
  have HBS8 := Lib.hid hbs8
  have u0 : w7.cell? ⟨w.heap.size + 2, 0, none⟩ = some (.int .i64 n1) := cell_at hq7 0
  have u1 : w7.cell? ⟨w.heap.size + 2, 1, none⟩ = some (.int .i64 n2) := cell_at hq7 1
  have r0 : w7.cell? ⟨w.heap.size, 0, none⟩ = some (.int .i64 0) := cell_at hr7 0
  have r1 : w7.cell? ⟨w.heap.size, 1, none⟩ = some (.int .i64 0) := cell_at hr7 1
  have r2 : w7.cell? ⟨w.heap.size, 2, none⟩ = some (.slice none 0 0) := cell_at hr7 2
  have rf0 := frozen_at hr7 0
  have rf1 := frozen_at hr7 1
  have rf2 := frozen_at hr7 2
  obtain ⟨A8, c8, k8, kn8, km8, _⟩ := hT7
  have hm8 : c8 ≤ 9223372036854775807 := by unfold maxLen at km8; omega
  have t0 : w7.cell? ⟨w.heap.size + 1, 0, none⟩ = some (.slice A8 s3.1.length c8) := cell_at k8 0
  have t1 : w7.cell? ⟨w.heap.size + 1, 1, none⟩ = some (.bool s3.2) := cell_at k8 1
  clear hT6 hf6 hq6 hr6 hz6 hbs7 hb7 hz7 hq7 hr7 hf8 hq8 hr8 hb8 hbs8 hne hg hw8 k8 km8 y0 yf0
  obtain ⟨l3, b3⟩ := s3
  simp only at t0 t1 kn8
  cases b3
  · by_cases hl0 : l3.length = 0
    · have hdn : doneT (l3, false) = 0 := by simp [doneT, hl0]
      rw [hdn] at HUN
      rw [hl0] at t0 kn8
      clear hl0 hdn r0 r1 r2 rf0 rf1 rf2
      go_wp2_with fail
      rw [HW8.out]
      refine (rmay_any ⟨n1, n2, t3⟩ _ c7 w8 (by have := HL3.out.2; have := HTl.out; simp only; omega)).mono ?_
      rintro e w9 ⟨rfl, h9⟩
      have hq9 := (h9.block _ (lt_of_block HQ8.out)).trans HQ8.out
      have hr9 := (h9.block _ (lt_of_block HR8.out)).trans HR8.out
      have HBS9 := Lib.hid (HBS8.out.below h9)
      have HB9 := Lib.hid (HB8.out.trans (h9.mono HB8.out.size))
      have HR9 := Lib.hid hr9
      have q0 : w9.cell? ⟨w.heap.size + 2, 0, none⟩ = some (.int .i64 n1) := cell_at hq9 0
      have q1 : w9.cell? ⟨w.heap.size + 2, 1, none⟩ = some (.int .i64 n2) := cell_at hq9 1
      have q2 : w9.cell? ⟨w.heap.size + 2, 2, none⟩ = some (.slice (some ⟨g, 0, none⟩) t3.length c7) := cell_at hq9 2
      have r0 : w9.cell? ⟨w.heap.size, 0, none⟩ = some (.int .i64 0) := cell_at hr9 0
      have r1 : w9.cell? ⟨w.heap.size, 1, none⟩ = some (.int .i64 0) := cell_at hr9 1
      have r2 : w9.cell? ⟨w.heap.size, 2, none⟩ = some (.slice none 0 0) := cell_at hr9 2
      have rf0 := frozen_at hr9 0
      have rf1 := frozen_at hr9 1
      have rf2 := frozen_at hr9 2
      clear h9 hq9 hr9 u0 u1 t0 t1 z0 zf0
      cases hm : mayL ⟨n1, n2, t3⟩
      · have HU : Hid (unP bs = (⟨0, 0, []⟩, false)) := Lib.hid (by rw [HUN.out, if_neg (by simp [hm])])
        clear hm
        go_wp2_with fail
        obtain ⟨W9, h9, v0, v1, v2, _, hB⟩ := pkt_store HR9.out (.int .i64 0) (.int .i64 0) (.slice none 0 0)
        rw [h9]
        refine bodyPost_ret (v := .tuple #[.agg #[.int .i64 0, .int .i64 0, .slice none 0 0], .bool false]) (by simp [results, Try.f30, go_sem, v0, v1, v2]) rfl ?_
        exact ⟨_, by rw [HU.out]; rfl, by rw [HU.out]; exact bs_nil _, HB9.out.trans (hB _ (Nat.le_refl _))⟩
      · have HU : Hid (unP bs = (⟨n1, n2, t3⟩, true)) := Lib.hid (by rw [HUN.out, if_pos (by simp [hm])])
        clear hm
        go_wp2_with fail
        obtain ⟨W9, h9, v0, v1, v2, hf, hB⟩ := pkt_store HR9.out (.int .i64 n1) (.int .i64 n2) (.slice (some ⟨g, 0, none⟩) t3.length c7)
        rw [h9]
        refine bodyPost_ret (v := .tuple #[.agg #[.int .i64 n1, .int .i64 n2, .slice (some ⟨g, 0, none⟩) t3.length c7], .bool true]) (by simp [results, Try.f30, go_sem, v0, v1, v2]) rfl ?_
        exact ⟨_, by rw [HU.out]; rfl, by rw [HU.out]; exact HBS9.out.keepF hf (by simpa using HNE.out), HB9.out.trans (hB _ (Nat.le_refl _))⟩
    · have hdn : doneT (l3, false) = 10 := by unfold doneT; rw [if_pos (.inr (by simp only; omega))]
      obtain ⟨m, hm3⟩ : ∃ m, l3.length = m + 1 := ⟨l3.length - 1, by omega⟩
      rw [hm3] at t0 kn8
      rw [hdn] at HUN
      have HU : Hid (unP bs = (⟨0, 0, []⟩, false)) := Lib.hid (by rw [HUN.out, if_neg (by simp)])
      clear hl0 hdn hm3
      go_wp2_with fail
      rw [HW8.out]
      obtain ⟨W9, h9, v0, v1, v2, _, hB⟩ := pkt_store HR8.out (.int .i64 0) (.int .i64 0) (.slice none 0 0)
      rw [h9]
      refine bodyPost_ret (v := .tuple #[.agg #[.int .i64 0, .int .i64 0, .slice none 0 0], .bool false]) (by simp [results, Try.f30, go_sem, v0, v1, v2]) rfl ?_
      exact ⟨_, by rw [HU.out]; rfl, by rw [HU.out]; exact bs_nil _, HB8.out.trans (hB _ (Nat.le_refl _))⟩
  · have hdn : doneT (l3, true) = 10 := by simp [doneT]
    rw [hdn] at HUN
    have HU : Hid (unP bs = (⟨0, 0, []⟩, false)) := Lib.hid (by rw [HUN.out, if_neg (by simp)])
    clear hdn
    go_wp2_with fail
    rw [HW8.out]
    obtain ⟨W9, h9, v0, v1, v2, _, hB⟩ := pkt_store HR8.out (.int .i64 0) (.int .i64 0) (.slice none 0 0)
    rw [h9]
    refine bodyPost_ret (v := .tuple #[.agg #[.int .i64 0, .int .i64 0, .slice none 0 0], .bool false]) (by simp [results, Try.f30, go_sem, v0, v1, v2]) rfl ?_
    exact ⟨_, by rw [HU.out]; rfl, by rw [HU.out]; exact bs_nil _, HB8.out.trans (hB _ (Nat.le_refl _))⟩
end Go.Proofs.Ytnmbblkfaoihfaa
