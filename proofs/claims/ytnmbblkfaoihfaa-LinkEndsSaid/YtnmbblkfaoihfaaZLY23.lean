/- Joined: The reference's packet of a code. What an end's code is, and what any bytes are as an end: by definition; the one is the other's inverse. -/
import Derived.Test.YtnmbblkfaoihfaaZLY22
import Derived.Test.YtnmbblkfaoihfaaZLY17
import Derived.Test.YtnmbblkfaoihfaaZLY2
namespace Go.Proofs.Ytnmbblkfaoihfaa
open Go.RowKit

theorem doneT_same {s r : List Nat × Bool} (h : SameT s r) : doneT s = doneT r := by
  obtain ⟨s1, s2⟩ := s
  obtain ⟨r1, r2⟩ := r
  obtain ⟨h1, h2⟩ := h
  simp only at h1 h2
  subst h1
  cases s2 with
  | true => simp [doneT]
  | false => rw [h2 rfl]
theorem IsBy.lt {w : World} {A : Option Addr} {c : Nat} {bs : List Nat} (h : IsBy w A c bs) : 0 < bs.length → ∀ a, A = some a → a.block < w.heap.size := fun hn a ha => by
  obtain ⟨g, o, e, hg, _⟩ := h.2.2.1.2 (by simpa using hn)
  rw [e] at ha
  cases ha
  exact hg
/-- The reference's taker of bytes that came in. -/
theorem ist_of_by {w W : World} {A : Option Addr} {c p : Nat} {bs : List Nat} {T : TypeId} (h : IsBy w A c bs) (hb : Below w.heap.size w W) (hp : W.heap[p]? = some (.cells #[.slice A bs.length c, .bool false] T (0, 0))) :
    ∃ D : Option Nat, IsT W T p D (bs, false) ∧ ∀ d, D = some d → d < w.heap.size := by
  refine ⟨if 0 < bs.length then A.map (·.block) else none, ⟨A, c, hp, h.1, by have := h.2.1; unfold maxLen; omega, h.2.2.1.below hb, fun hn a ha => ?_, h.2.2.2.1, h.2.2.2.2⟩, fun d hd => ?_⟩
  · simp only at hn
    rw [if_pos hn, ha]; rfl
  · split at hd
    · rename_i hn
      cases hA : A with
      | none => rw [hA] at hd; simp at hd
      | some a => rw [hA] at hd; simp at hd; rw [← hd]; exact h.lt hn a hA
    · cases hd

set_option maxRecDepth 100000 in
set_option maxHeartbeats 4000000 in
theorem rdec_any (A : Option Addr) (c : Nat) (bs : List Nat) (w : World) (hby : IsBy w A c bs) :
    Calls Try.prog 30 #[.slice A bs.length c] w (RetDec (.bool true) (.bool false) (unP bs) w) := by
  have hl := hby.2.2.2.1
  have ht : bs.length ≤ 140737488351232 := Nat.le_trans hby.1 hby.2.1
  obtain ⟨n1, s1, e1⟩ : ∃ n s, numT (bs, false) 0 1099511627776 = (n, s) := ⟨_, _, rfl⟩
  obtain ⟨n2, s2, e2⟩ : ∃ n s, numT s1 0 1099511627776 = (n, s) := ⟨_, _, rfl⟩
  have hl1 : (∀ b ∈ s1.1, b < 256) ∧ s1.1.length ≤ bs.length := by have h1 := numT_lt (s := (bs, false)) hl 0 1099511627776; have h2 := numT_le (bs, false) 0 1099511627776; rw [e1] at h1 h2; exact ⟨h1, h2⟩
  have hl2 : (∀ b ∈ s2.1, b < 256) ∧ s2.1.length ≤ bs.length := by have h1 := numT_lt hl1.1 0 1099511627776; have h2 := numT_le s1 0 1099511627776; rw [e2] at h1 h2; exact ⟨h1, Nat.le_trans h2 hl1.2⟩
  have hst := SameT.text (s := s2) (r := s2) hl2.1 (SameT.refl _) 2048
  have hle := textT_le s2 2048
  have hlt := (textT_lt hl2.1 2048).1
  obtain ⟨t3, s3, e3⟩ : ∃ n s, rtextT s2 2048 = (n, s) := ⟨_, _, rfl⟩
  rw [e3] at hst
  simp only at hst
  rw [hst.1] at hle hlt
  have hun : unP bs = if doneT s3 = 0 ∧ mayL ⟨n1, n2, t3⟩ = true then (⟨n1, n2, t3⟩, true) else (⟨0, 0, []⟩, false) := by
    unfold unP
    simp only [e1, e2, hst.1, doneT_same hst.2]
  have hl3 : (∀ b ∈ t3, b < 256) ∧ t3.length ≤ bs.length := ⟨hlt, Nat.le_trans hle hl2.2⟩
  have HUN := Lib.hid hun
  have E1 := Lib.hid e1
  have E2 := Lib.hid e2
  have E3 := Lib.hid e3
  have HL3 := Lib.hid hl3
  have HTl := Lib.hid ht
  obtain ⟨wa, hwa⟩ : ∃ wa, ((w.alloc (.cells #[.int .i64 0, .int .i64 0, .slice none 0 0] 43)).alloc (.cells #[.slice A bs.length c, .bool false] 103)).alloc (.cells #[.int .i64 0, .int .i64 0, .slice none 0 0] 43) = wa := ⟨_, rfl⟩
  have hba : Below w.heap.size w wa := by rw [← hwa]; exact (((Below.refl _ w).alloc (Nat.le_refl _) _).alloc (by simp) _).alloc (by simp; omega) _
  have hza : wa.heap.size = w.heap.size + 3 := by rw [← hwa]; simp
  have hr0 : wa.heap[w.heap.size]? = some (.cells #[.int .i64 0, .int .i64 0, .slice none 0 0] 43 (0, 0)) := by
    rw [← hwa]
    exact ((((Below.refl (w.heap.size + 1) (w.alloc (.cells #[.int .i64 0, .int .i64 0, .slice none 0 0] 43))).alloc (by simp) _).alloc (by simp) _).block _ (by omega)).trans (block_new w _)
  have hp0 : wa.heap[w.heap.size + 1]? = some (.cells #[.slice A bs.length c, .bool false] 103 (0, 0)) := by
    rw [← hwa]
    have h1 := block_new (w.alloc (.cells #[.int .i64 0, .int .i64 0, .slice none 0 0] 43)) (.cells #[.slice A bs.length c, .bool false] 103)
    simp only [World.size_alloc] at h1
    exact (((Below.refl (w.heap.size + 2) ((w.alloc (.cells #[.int .i64 0, .int .i64 0, .slice none 0 0] 43)).alloc (.cells #[.slice A bs.length c, .bool false] 103))).alloc (by simp) _).block _ (by omega)).trans h1
  have hq0 : wa.heap[w.heap.size + 2]? = some (.cells #[.int .i64 0, .int .i64 0, .slice none 0 0] 43 (0, 0)) := by
    rw [← hwa]
    have h1 := block_new ((w.alloc (.cells #[.int .i64 0, .int .i64 0, .slice none 0 0] 43)).alloc (.cells #[.slice A bs.length c, .bool false] 103)) (.cells #[.int .i64 0, .int .i64 0, .slice none 0 0] 43)
    simpa using h1
  obtain ⟨D, hT, hD⟩ := ist_of_by hby hba hp0
  have hDp : D ≠ some (w.heap.size + 1) := fun h => by have := hD _ h; omega
  have hDq : D ≠ some (w.heap.size + 2) := fun h => by have := hD _ h; omega
  have HDP := Lib.hid hDp
  have HDQ := Lib.hid hDq
  have HWA := Lib.hid hwa
  have HBA := Lib.hid hba
  have HZA := Lib.hid hza
  have HR0 := Lib.hid hr0
  have HQ0 := Lib.hid hq0
  have HT := Lib.hid hT
  clear hun e1 e2 e3 hl ht hl1 hl2 hl3 hwa hba hza hr0 hp0 hq0 hT hD hDp hDq hst hle hlt
  go_enter Try.func30, Try.ntmps30
  go_wp2_with fail
  rw [HWA.out]
  refine (rtnum_any (w.heap.size + 1) D _ 0 1099511627776 wa HT.out HDP.out).mono ?_
  rintro e w2 ⟨rfl, hT2, hf2⟩
  rw [E1.out] at hT2 ⊢
  have hq2 := hf2.keep0 HQ0.out (by simp)
  have hr2 := hf2.keep0 HR0.out (by simp)
  have hf2' : Fr 0 [] [w.heap.size + 2] w2 (w2.setCell ⟨w.heap.size + 2, 0, none⟩ (.int .i64 n1)) := (Fr.refl w2).setCell (p := ⟨w.heap.size + 2, 0, none⟩) _ (Nat.zero_le _) (.inl (by simp))
  have hT2' := hT2.keep hf2' (by simp) (fun d hd => by simp; rintro rfl; exact HDQ.out hd)
  have hq2' := block_set hq2 0 (.int .i64 n1)
  have hb2 : Below w.heap.size w (w2.setCell ⟨w.heap.size + 2, 0, none⟩ (.int .i64 n1)) := (HBA.out.trans (hf2.belowT (Nat.le_succ _) HBA.out.size)).trans (hf2'.belowT (by omega) (Nat.le_trans HBA.out.size hf2.size))
  have x0 : w2.cell? ⟨w.heap.size + 2, 0, none⟩ = some (.int .i64 0) := cell_at hq2 0
  have xf0 := frozen_at hq2 0
  obtain ⟨w3, hw3⟩ : ∃ w3, w2.setCell ⟨w.heap.size + 2, 0, none⟩ (.int .i64 n1) = w3 := ⟨_, rfl⟩
  have hr3 := hf2'.keep0 hr2 (by simp)
  rw [hw3] at hT2' hq2' hb2 hr3
  have HT3 := Lib.hid hT2'
  have HQ3 := Lib.hid hq2'
  have HR3 := Lib.hid hr3
  have HB3 := Lib.hid hb2
  have HW3 := Lib.hid hw3
  clear hT2 hf2 hq2 hr2 hf2' hT2' hq2' hb2 hr3 hw3
  go_wp2_with fail
  rw [HW3.out]
  refine (rtnum_any (w.heap.size + 1) D _ 0 1099511627776 w3 HT3.out HDP.out).mono ?_
  rintro e w4 ⟨rfl, hT4, hf4⟩
  rw [E2.out] at hT4 ⊢
  have hq4 := hf4.keep0 HQ3.out (by simp)
  have hr4 := hf4.keep0 HR3.out (by simp)
  have hf4' : Fr 0 [] [w.heap.size + 2] w4 (w4.setCell ⟨w.heap.size + 2, 1, none⟩ (.int .i64 n2)) := (Fr.refl w4).setCell (p := ⟨w.heap.size + 2, 1, none⟩) _ (Nat.zero_le _) (.inl (by simp))
  have hT4' := hT4.keep hf4' (by simp) (fun d hd => by simp; rintro rfl; exact HDQ.out hd)
  have hq4' := block_set hq4 1 (.int .i64 n2)
  have hb4 : Below w.heap.size w (w4.setCell ⟨w.heap.size + 2, 1, none⟩ (.int .i64 n2)) := (HB3.out.trans (hf4.belowT (Nat.le_succ _) HB3.out.size)).trans (hf4'.belowT (by omega) (Nat.le_trans HB3.out.size hf4.size))
  have y0 : w4.cell? ⟨w.heap.size + 2, 1, none⟩ = some (.int .i64 0) := cell_at hq4 1
  have yf0 := frozen_at hq4 1
  obtain ⟨w5, hw5⟩ : ∃ w5, w4.setCell ⟨w.heap.size + 2, 1, none⟩ (.int .i64 n2) = w5 := ⟨_, rfl⟩
  have hr5 := hf4'.keep0 hr4 (by simp)
  rw [hw5] at hT4' hq4' hb4 hr5
  have HT5 := Lib.hid hT4'
  have HQ5 := Lib.hid hq4'
  have HR5 := Lib.hid hr5
  have HB5 := Lib.hid hb4
  have HW5 := Lib.hid hw5
  clear hT4 hf4 hq4 hr4 hf4' hT4' hq4' hb4 hr5 hw5 x0 xf0
  go_wp2_with fail
  rw [HW5.out]
  refine (rttext_any (w.heap.size + 1) D s2 2048 w5 HT5.out HDP.out).mono ?_
  rintro e w6 ⟨rfl, hT6, hf6⟩
  rw [E3.out] at hT6 ⊢
  have hq6 := hf6.keep0 HQ5.out (by simp)
  have hr6 := hf6.keep0 HR5.out (by simp)
  have hz6 : w.heap.size + 3 ≤ w6.heap.size := by have h1 := lt_of_block hq6; omega
  obtain ⟨c7, w7, hcv, hbs7, hb7, hz7⟩ := str_bytes w6 (strOf t3) (by rw [strOf_size]; have := HL3.out.2; have := HTl.out; unfold maxLen; omega)
  rw [strOf_size] at hcv hbs7
  rw [natsOf_strOf HL3.out.1] at hbs7
  have hq7 := (hb7.block _ (by omega)).trans hq6
  have hr7 := (hb7.block _ (by omega)).trans hr6
  have hT7 := hT6.below hb7
  have hf8 : Fr 0 [] [w.heap.size + 2] w7 (w7.setCell ⟨w.heap.size + 2, 2, none⟩ (.slice (some ⟨w6.heap.size, 0, none⟩) t3.length c7)) := (Fr.refl w7).setCell (p := ⟨w.heap.size + 2, 2, none⟩) _ (Nat.zero_le _) (.inl (by simp))
  have hq8 := block_set hq7 2 (.slice (some ⟨w6.heap.size, 0, none⟩) t3.length c7)
  have hr8 := hf8.keep0 hr7 (by simp)
  have hb8 : Below w.heap.size w (w7.setCell ⟨w.heap.size + 2, 2, none⟩ (.slice (some ⟨w6.heap.size, 0, none⟩) t3.length c7)) := (HB5.out.trans (hf6.belowT (Nat.le_succ _) HB5.out.size)).trans ((hb7.mono (by omega)).trans (hf8.belowT (by omega) (by omega)))
  have hbs8 := hbs7.keepF hf8 (by simp; omega)
  have hne : w6.heap.size ≠ w.heap.size := by omega
  have HNE := Lib.hid hne
  have z0 : w7.cell? ⟨w.heap.size + 2, 2, none⟩ = some (.slice none 0 0) := cell_at hq7 2
  have zf0 := frozen_at hq7 2
  obtain ⟨g, hg⟩ : ∃ g, w6.heap.size = g := ⟨_, rfl⟩
  rw [hg] at hcv hq8 hr8 hb8 hbs8 HNE
  obtain ⟨w8, hw8⟩ : ∃ w8, w7.setCell ⟨w.heap.size + 2, 2, none⟩ (.slice (some ⟨g, 0, none⟩) t3.length c7) = w8 := ⟨_, rfl⟩
  rw [hw8] at hq8 hb8 hr8 hbs8
  have HW8 := Lib.hid hw8
  have HB8 := Lib.hid hb8
  have HR8 := Lib.hid hr8
  have HQ8 := Lib.hid hq8
  have HBS8 := Lib.hid hbs8
  have u0 : w7.cell? ⟨w.heap.size + 2, 0, none⟩ = some (.int .i64 n1) := cell_at hq7 0
  have u1 : w7.cell? ⟨w.heap.size + 2, 1, none⟩ = some (.int .i64 n2) := cell_at hq7 1
  have r0 : w7.cell? ⟨w.heap.size, 0, none⟩ = some (.int .i64 0) := cell_at hr7 0
  have r1 : w7.cell? ⟨w.heap.size, 1, none⟩ = some (.int .i64 0) := cell_at hr7 1
  have r2 : w7.cell? ⟨w.heap.size, 2, none⟩ = some (.slice none 0 0) := cell_at hr7 2
  have rf0 := frozen_at hr7 0
  have rf1 := frozen_at hr7 1
  have rf2 := frozen_at hr7 2
  obtain ⟨A8, c8, k8, kn8, km8, _⟩ := hT7
  have hm8 : c8 ≤ 9223372036854775807 := by unfold maxLen at km8; omega
  have t0 : w7.cell? ⟨w.heap.size + 1, 0, none⟩ = some (.slice A8 s3.1.length c8) := cell_at k8 0
  have t1 : w7.cell? ⟨w.heap.size + 1, 1, none⟩ = some (.bool s3.2) := cell_at k8 1
  clear hT6 hf6 hq6 hr6 hz6 hbs7 hb7 hz7 hq7 hr7 hf8 hq8 hr8 hb8 hbs8 hne hg hw8 k8 km8 y0 yf0
  obtain ⟨l3, b3⟩ := s3
  simp only at t0 t1 kn8
  cases b3
  · by_cases hl0 : l3.length = 0
    · have hdn : doneT (l3, false) = 0 := by simp [doneT, hl0]
      rw [hdn] at HUN
      rw [hl0] at t0 kn8
      clear hl0 hdn r0 r1 r2 rf0 rf1 rf2
      go_wp2_with fail
      rw [HW8.out]
      refine (rmay_any ⟨n1, n2, t3⟩ _ c7 w8 (by have := HL3.out.2; have := HTl.out; simp only; omega)).mono ?_
      rintro e w9 ⟨rfl, h9⟩
      have hq9 := (h9.block _ (lt_of_block HQ8.out)).trans HQ8.out
      have hr9 := (h9.block _ (lt_of_block HR8.out)).trans HR8.out
      have HBS9 := Lib.hid (HBS8.out.below h9)
      have HB9 := Lib.hid (HB8.out.trans (h9.mono HB8.out.size))
      have HR9 := Lib.hid hr9
      have q0 : w9.cell? ⟨w.heap.size + 2, 0, none⟩ = some (.int .i64 n1) := cell_at hq9 0
      have q1 : w9.cell? ⟨w.heap.size + 2, 1, none⟩ = some (.int .i64 n2) := cell_at hq9 1
      have q2 : w9.cell? ⟨w.heap.size + 2, 2, none⟩ = some (.slice (some ⟨g, 0, none⟩) t3.length c7) := cell_at hq9 2
      have r0 : w9.cell? ⟨w.heap.size, 0, none⟩ = some (.int .i64 0) := cell_at hr9 0
      have r1 : w9.cell? ⟨w.heap.size, 1, none⟩ = some (.int .i64 0) := cell_at hr9 1
      have r2 : w9.cell? ⟨w.heap.size, 2, none⟩ = some (.slice none 0 0) := cell_at hr9 2
      have rf0 := frozen_at hr9 0
      have rf1 := frozen_at hr9 1
      have rf2 := frozen_at hr9 2
      clear h9 hq9 hr9 u0 u1 t0 t1 z0 zf0
      cases hm : mayL ⟨n1, n2, t3⟩
      · have HU : Hid (unP bs = (⟨0, 0, []⟩, false)) := Lib.hid (by rw [HUN.out, if_neg (by simp [hm])])
        clear hm
        go_wp2_with fail
        obtain ⟨W9, h9, v0, v1, v2, _, hB⟩ := pkt_store HR9.out (.int .i64 0) (.int .i64 0) (.slice none 0 0)
        rw [h9]
        refine bodyPost_ret (v := .tuple #[.agg #[.int .i64 0, .int .i64 0, .slice none 0 0], .bool false]) (by simp [results, Try.f30, go_sem, v0, v1, v2]) rfl ?_
        exact ⟨_, by rw [HU.out]; rfl, by rw [HU.out]; exact bs_nil _, HB9.out.trans (hB _ (Nat.le_refl _))⟩
      · have HU : Hid (unP bs = (⟨n1, n2, t3⟩, true)) := Lib.hid (by rw [HUN.out, if_pos (by simp [hm])])
        clear hm
        go_wp2_with fail
        obtain ⟨W9, h9, v0, v1, v2, hf, hB⟩ := pkt_store HR9.out (.int .i64 n1) (.int .i64 n2) (.slice (some ⟨g, 0, none⟩) t3.length c7)
        rw [h9]
        refine bodyPost_ret (v := .tuple #[.agg #[.int .i64 n1, .int .i64 n2, .slice (some ⟨g, 0, none⟩) t3.length c7], .bool true]) (by simp [results, Try.f30, go_sem, v0, v1, v2]) rfl ?_
        exact ⟨_, by rw [HU.out]; rfl, by rw [HU.out]; exact HBS9.out.keepF hf (by simpa using HNE.out), HB9.out.trans (hB _ (Nat.le_refl _))⟩
    · have hdn : doneT (l3, false) = 10 := by unfold doneT; rw [if_pos (.inr (by simp only; omega))]
      obtain ⟨m, hm3⟩ : ∃ m, l3.length = m + 1 := ⟨l3.length - 1, by omega⟩
      rw [hm3] at t0 kn8
      rw [hdn] at HUN
      have HU : Hid (unP bs = (⟨0, 0, []⟩, false)) := Lib.hid (by rw [HUN.out, if_neg (by simp)])
      clear hl0 hdn hm3
      go_wp2_with fail
      rw [HW8.out]
      obtain ⟨W9, h9, v0, v1, v2, _, hB⟩ := pkt_store HR8.out (.int .i64 0) (.int .i64 0) (.slice none 0 0)
      rw [h9]
      refine bodyPost_ret (v := .tuple #[.agg #[.int .i64 0, .int .i64 0, .slice none 0 0], .bool false]) (by simp [results, Try.f30, go_sem, v0, v1, v2]) rfl ?_
      exact ⟨_, by rw [HU.out]; rfl, by rw [HU.out]; exact bs_nil _, HB8.out.trans (hB _ (Nat.le_refl _))⟩
  · have hdn : doneT (l3, true) = 10 := by simp [doneT]
    rw [hdn] at HUN
    have HU : Hid (unP bs = (⟨0, 0, []⟩, false)) := Lib.hid (by rw [HUN.out, if_neg (by simp)])
    clear hdn
    go_wp2_with fail
    rw [HW8.out]
    obtain ⟨W9, h9, v0, v1, v2, _, hB⟩ := pkt_store HR8.out (.int .i64 0) (.int .i64 0) (.slice none 0 0)
    rw [h9]
    refine bodyPost_ret (v := .tuple #[.agg #[.int .i64 0, .int .i64 0, .slice none 0 0], .bool false]) (by simp [results, Try.f30, go_sem, v0, v1, v2]) rfl ?_
    exact ⟨_, by rw [HU.out]; rfl, by rw [HU.out]; exact bs_nil _, HB8.out.trans (hB _ (Nat.le_refl _))⟩
end Go.Proofs.Ytnmbblkfaoihfaa

namespace Go.Proofs.Ytnmbblkfaoihfaa
open Go.RowKit

/-- The code of an item. -/
def itB (x : LIt) : List Nat := textB x.body ++ (numB x.tries ++ numB x.due)
def itsB : List LIt → List Nat
  | [] => []
  | x :: l => itB x ++ itsB l
theorem itsB_snoc : ∀ (l : List LIt) (x : LIt), itsB (l ++ [x]) = itsB l ++ itB x
  | [], x => by simp [itsB]
  | y :: l, x => by rw [List.cons_append, itsB, itsB, itsB_snoc l, List.append_assoc]
/-- The code of an end. -/
def packE (s : LSt) : List Nat := numB s.sent ++ (numB s.mark ++ (numB s.l.length ++ itsB s.l))
theorem itB_len (x : LIt) : (itB x).length ≤ 27 + x.body.length := by
  have h1 := (numB_length x.body.length).2
  have h2 := (numB_length x.tries).2
  have h3 := (numB_length x.due).2
  simp only [itB, textB, List.length_append]
  omega
theorem itsB_len : ∀ l : List LIt, (∀ x ∈ l, x.body.length ≤ 2048) → (itsB l).length ≤ 2075 * l.length
  | [], _ => by simp [itsB]
  | x :: l, h => by
    have h1 := itB_len x
    have h2 := itsB_len l (fun y hy => h y (by simp [hy]))
    have h3 := h x (by simp)
    simp only [itsB, List.length_append, List.length_cons]
    omega
theorem itB_lt {x : LIt} (h : ∀ b ∈ x.body, b < 256) : ∀ b ∈ itB x, b < 256 := by
  intro b hb
  unfold itB textB at hb
  simp only [List.mem_append] at hb
  rcases hb with (hb | hb) | hb | hb
  · exact numB_lt _ b hb
  · exact h b hb
  · exact numB_lt _ b hb
  · exact numB_lt _ b hb
theorem itsB_lt : ∀ l : List LIt, (∀ x ∈ l, ∀ b ∈ x.body, b < 256) → ∀ b ∈ itsB l, b < 256
  | [], _ => by simp [itsB]
  | x :: l, h => by
    intro b hb
    rcases List.mem_append.1 hb with hb | hb
    · exact itB_lt (h x (by simp)) b hb
    · exact itsB_lt l (fun y hy => h y (by simp [hy])) b hb
abbrev MXI : Int := 9223372036854775807
abbrev MNI : Int := -9223372036854775808
/-- One item, taken. -/
def itT (d : Int) (s : List Nat × Bool) : LIt × (List Nat × Bool) :=
  (⟨d, (textT s 2048).1, (numT (textT s 2048).2 1 9223372036854775807).1, (numT (numT (textT s 2048).2 1 9223372036854775807).2 (-9223372036854775808) 9223372036854775807).1⟩, (numT (numT (textT s 2048).2 1 9223372036854775807).2 (-9223372036854775808) 9223372036854775807).2)
/-- The same as the reference does it. -/
def itX (d : Int) (s : List Nat × Bool) : LIt × (List Nat × Bool) :=
  (⟨d, (rtextT s 2048).1, (numT (rtextT s 2048).2 1 9223372036854775807).1, (numT (numT (rtextT s 2048).2 1 9223372036854775807).2 (-9223372036854775808) 9223372036854775807).1⟩, (numT (numT (rtextT s 2048).2 1 9223372036854775807).2 (-9223372036854775808) 9223372036854775807).2)
def unI (d : Int) : Nat → List LIt → List Nat × Bool → List LIt × (List Nat × Bool)
  | 0, l, s => (l, s)
  | k + 1, l, s => unI d k (l ++ [(itT (d + l.length) s).1]) (itT (d + l.length) s).2
def unIX (d : Int) : Nat → List LIt → List Nat × Bool → List LIt × (List Nat × Bool)
  | 0, l, s => (l, s)
  | k + 1, l, s => if s.2 = true then (l, s) else unIX d k (l ++ [(itX (d + l.length) s).1]) (itX (d + l.length) s).2
def okI (r : List LIt × (List Nat × Bool)) : Option (List LIt) := if doneT r.2 = 0 then some r.1 else none
def endE (sent mark : Int) : Option (List LIt) → Option LSt
  | none => none
  | some l => some ⟨l, sent, mark⟩
/-- What any bytes are as an end. -/
def unE (c : List Nat) : Option LSt :=
  if (numT (c, false) 0 9223372036854775807).1 < (numT (numT (numT (c, false) 0 9223372036854775807).2 0 9223372036854775807).2 0 64).1 then none
  else endE (numT (c, false) 0 9223372036854775807).1 (numT (numT (c, false) 0 9223372036854775807).2 0 9223372036854775807).1
    (okI (unI ((numT (c, false) 0 9223372036854775807).1 - (numT (numT (numT (c, false) 0 9223372036854775807).2 0 9223372036854775807).2 0 64).1 + 1) (numT (numT (numT (c, false) 0 9223372036854775807).2 0 9223372036854775807).2 0 64).1.toNat [] (numT (numT (numT (c, false) 0 9223372036854775807).2 0 9223372036854775807).2 0 64).2))

theorem doneT_bad {s : List Nat × Bool} (h : s.2 = true) : doneT s = 10 := by unfold doneT; rw [if_pos (.inl h)]
theorem textT_bad {s : List Nat × Bool} (h : s.2 = true) (m : Int) : (textT s m).2 = s := by
  unfold textT
  rw [numT_bad h]
  simp only
  rw [if_pos h]
theorem itT_bad (d : Int) {s : List Nat × Bool} (h : s.2 = true) : (itT d s).2 = s := by
  unfold itT
  simp only
  rw [textT_bad h, numT_bad h, numT_bad h]
theorem unI_bad (d : Int) : ∀ (k : Nat) (l : List LIt) (s : List Nat × Bool), s.2 = true → (unI d k l s).2 = s
  | 0, l, s, _ => rfl
  | k + 1, l, s, h => by rw [unI, itT_bad _ h]; exact unI_bad d k _ s h
theorem okI_eq (d : Int) : ∀ (k : Nat) (l : List LIt) (s r : List Nat × Bool), SameT r s → (∀ b ∈ r.1, b < 256) → okI (unIX d k l s) = okI (unI d k l r)
  | 0, l, s, r, h, _ => by
    unfold okI unIX unI
    simp only
    rw [doneT_same h]
  | k + 1, l, s, r, h, hb => by
    by_cases hs : s.2 = true
    · have hr : r.2 = true := h.1.trans hs
      have h2 := unI_bad d (k + 1) l r hr
      rw [unIX, if_pos hs]
      unfold okI
      rw [h2, doneT_bad hr]
      simp only
      rw [doneT_bad hs]
      simp
    · have e : r = s := Prod.ext (h.2 (by rw [h.1]; simpa using hs)) h.1
      subst e
      have h1 := SameT.text hb (SameT.refl r) 2048
      have h2 := h1.2.num 1 9223372036854775807
      have h3 := h2.2.num (-9223372036854775808) 9223372036854775807
      have hl1 := (textT_lt hb 2048).2
      have hl2 := numT_lt hl1 1 9223372036854775807
      have hl3 := numT_lt hl2 (-9223372036854775808) 9223372036854775807
      rw [unIX, if_neg hs, unI]
      have e1 : (itX (d + l.length) r).1 = (itT (d + l.length) r).1 := by
        unfold itX itT
        simp only [h1.1, h2.1, h3.1]
      rw [e1]
      exact okI_eq d k _ _ _ h3.2 hl3

theorem numT_back {s : List Nat × Bool} (hb : ∀ b ∈ s.1, b < 256) {a b : Int} (h : (numT s a b).2.2 = false) : s.2 = false ∧ s.1 = numB (numT s a b).1 ++ (numT s a b).2.1 ∧ a ≤ (numT s a b).1 ∧ (numT s a b).1 ≤ b := by
  obtain ⟨h1, k, h2, h3, h4, h5, _, _, _⟩ := numT_good hb h
  obtain ⟨_, h6, _, _⟩ := firstN_some hb h2
  exact ⟨h1, by rw [h5, h6, List.take_append_drop], h3, h4⟩
theorem textT_back {s : List Nat × Bool} (hb : ∀ b ∈ s.1, b < 256) {m : Int} (h : (textT s m).2.2 = false) : s.2 = false ∧ s.1 = textB (textT s m).1 ++ (textT s m).2.1 ∧ ((textT s m).1.length : Int) ≤ m := by
  have hn := numT_back hb (a := 0) (b := m)
  unfold textT at h ⊢
  generalize numT s 0 m = r at h hn ⊢
  simp only at h ⊢
  split at h
  · rename_i hr
    simp only at h
    rw [h] at hr
    cases hr
  · rename_i hr
    split at h
    · cases h
    · rename_i hl
      rw [if_neg hr, if_neg hl]
      obtain ⟨h1, h2, h3, h4⟩ := hn (by simpa using hr)
      simp only
      have e : ((r.2.1.take r.1.toNat).length : Int) = r.1 := by rw [List.length_take]; omega
      refine ⟨h1, ?_, by omega⟩
      unfold textB
      rw [e, h2, List.append_assoc, List.take_append_drop]
/-- Items that follow one another. -/
def ChainI (d : Int) : List LIt → Prop
  | [] => True
  | x :: r => x.seq = d ∧ ChainI (d + 1) r
theorem ChainI.snoc {x : LIt} : ∀ {l : List LIt} {d : Int}, ChainI d l → x.seq = d + l.length → ChainI d (l ++ [x])
  | [], d, _, h => ⟨by simpa using h, trivial⟩
  | y :: l, d, h, e => ⟨h.1, h.2.snoc (by simp only [List.length_cons] at e; omega)⟩
theorem ChainI.all {a : Int} : ∀ {l : List LIt} {d : Int}, ChainI d l → a < d → l.filter (fun x => !decide (x.seq ≤ a)) = l
  | [], _, _, _ => rfl
  | x :: _, _, h, hd => by
    rw [List.filter_cons_of_pos, h.2.all (by omega)]
    simp only [h.1, Bool.not_eq_true', decide_eq_false_iff_not]
    omega
theorem ChainI.rest (a : Int) : ∀ {l : List LIt} {d : Int}, ChainI d l → ChainI (d + l.length - (l.filter (fun x => !decide (x.seq ≤ a))).length) (l.filter (fun x => !decide (x.seq ≤ a)))
  | [], _, _ => trivial
  | x :: l, d, h => by
    by_cases hx : x.seq ≤ a
    · rw [List.filter_cons_of_neg (by simp [hx])]
      have := h.2.rest a
      rw [show d + ((x :: l).length : Int) = d + 1 + (l.length : Int) by simp only [List.length_cons]; omega]
      exact this
    · have e : (x :: l).filter (fun x => !decide (x.seq ≤ a)) = x :: l := ChainI.all (d := d) h (by rw [h.1] at hx; omega)
      rw [e, show d + ((x :: l).length : Int) - ((x :: l).length : Int) = d by omega]
      exact h
theorem ChainI.map {f : LIt → LIt} (hf : ∀ x, (f x).seq = x.seq) : ∀ {l : List LIt} {d : Int}, ChainI d l → ChainI d (l.map f)
  | [], _, _ => trivial
  | _ :: _, _, h => ⟨(hf _).trans h.1, h.2.map hf⟩
/-- An item as it may be. -/
def ItOk (x : LIt) : Prop := x.body.length ≤ 2048 ∧ (∀ b ∈ x.body, b < 256) ∧ 1 ≤ x.tries ∧ x.tries ≤ 9223372036854775807 ∧ I64 x.due
/-- An end as it may be. -/
structure GoodE (s : LSt) : Prop where
  sent : 0 ≤ s.sent ∧ s.sent ≤ 9223372036854775807
  mark : 0 ≤ s.mark ∧ s.mark ≤ 9223372036854775807
  len : s.l.length ≤ 64
  le : (s.l.length : Int) ≤ s.sent
  chain : ChainI (s.sent - s.l.length + 1) s.l
  it : ∀ x ∈ s.l, ItOk x
theorem packE_len {s : LSt} (h : GoodE s) : (packE s).length ≤ 132827 := by
  have h1 := (numB_length s.sent).2
  have h2 := (numB_length s.mark).2
  have h3 := (numB_length s.l.length).2
  have h4 := itsB_len s.l (fun x hx => (h.it x hx).1)
  have h5 := h.len
  simp only [packE, List.length_append]
  omega
theorem packE_lt {s : LSt} (h : GoodE s) : ∀ b ∈ packE s, b < 256 := by
  intro b hb
  unfold packE at hb
  simp only [List.mem_append] at hb
  rcases hb with hb | hb | hb | hb
  · exact numB_lt _ b hb
  · exact numB_lt _ b hb
  · exact numB_lt _ b hb
  · exact itsB_lt _ (fun x hx => (h.it x hx).2.1) b hb
theorem itT_put {x : LIt} (h : ItOk x) (r : List Nat) : itT x.seq (itB x ++ r, false) = (x, (r, false)) := by
  obtain ⟨h1, _, h3, h4, h5⟩ := h
  unfold itT itB
  rw [List.append_assoc, textT_put x.body _ (by omega) (by omega)]
  simp only
  rw [List.append_assoc, numT_put x.tries ⟨by omega, by omega⟩ _ h3 h4]
  simp only
  rw [numT_put x.due h5 _ h5.1 h5.2]
theorem unI_put (d : Int) : ∀ (l pre : List LIt), ChainI (d + pre.length) l → (∀ x ∈ l, ItOk x) → unI d l.length pre (itsB l, false) = (pre ++ l, ([], false))
  | [], pre, _, _ => by simp [unI, itsB]
  | x :: l, pre, hc, h => by
    rw [List.length_cons, unI, itsB, ← hc.1, itT_put (h x (by simp))]
    simp only
    have := unI_put d l (pre ++ [x]) (by rw [List.length_append]; have := hc.2; simpa [Int.add_assoc] using this) (fun y hy => h y (by simp [hy]))
    simpa using this
theorem unE_pack {s : LSt} (h : GoodE s) : unE (packE s) = some s := by
  obtain ⟨⟨h1, h2⟩, ⟨h3, h4⟩, h5, h6, h7, h8⟩ := h
  unfold unE packE
  rw [numT_put s.sent ⟨by omega, h2⟩ _ h1 h2]
  simp only
  rw [numT_put s.mark ⟨by omega, h4⟩ _ h3 h4]
  simp only
  rw [numT_put _ ⟨by omega, by omega⟩ _ (by omega) (by omega)]
  simp only [Int.toNat_natCast]
  rw [if_neg (by omega), unI_put _ s.l [] (by simpa using h7) h8]
  have hd : doneT ([], false) = 0 := by simp [doneT]
  simp only [List.nil_append, okI]
  rw [if_pos hd]
  rfl
theorem unI_back (d : Int) : ∀ (k : Nat) (pre : List LIt) (s : List Nat × Bool) (l : List LIt) (s' : List Nat × Bool), (∀ b ∈ s.1, b < 256) → unI d k pre s = (l, s') → s'.2 = false → ChainI d pre → (∀ x ∈ pre, ItOk x) →
    s.2 = false ∧ ChainI d l ∧ (∀ x ∈ l, ItOk x) ∧ ∃ r, l = pre ++ r ∧ r.length = k ∧ s.1 = itsB r ++ s'.1
  | 0, pre, s, l, s', _, h, hs, hc, hp => by
    simp only [unI, Prod.mk.injEq] at h
    obtain ⟨rfl, rfl⟩ := h
    exact ⟨hs, hc, hp, [], by simp, rfl, by simp [itsB]⟩
  | k + 1, pre, s, l, s', hb, h, hs, hc, hp => by
    rw [unI] at h
    by_cases hbad : (itT (d + pre.length) s).2.2 = true
    · have := unI_bad d k (pre ++ [(itT (d + pre.length) s).1]) _ hbad
      rw [h] at this
      simp only at this
      rw [← this, hs] at hbad
      cases hbad
    · have hg : (itT (d + pre.length) s).2.2 = false := by simpa using hbad
      have ht := textT_lt hb 2048
      have hl2 := numT_lt ht.2 1 9223372036854775807
      have hl3 : ∀ b ∈ (itT (d + pre.length) s).2.1, b < 256 := numT_lt hl2 (-9223372036854775808) 9223372036854775807
      obtain ⟨a1, a2, a3, a4⟩ := numT_back hl2 (a := -9223372036854775808) (b := 9223372036854775807) hg
      obtain ⟨b1, b2, b3, b4⟩ := numT_back ht.2 (a := 1) (b := 9223372036854775807) a1
      obtain ⟨c1, c2, c3⟩ := textT_back hb b1
      have hok : ItOk (itT (d + pre.length) s).1 := ⟨by simp only [itT]; omega, ht.1, b3, b4, ⟨a3, a4⟩⟩
      obtain ⟨m1, m2, m3, r, m4, m5, m6⟩ := unI_back d k _ _ l s' hl3 h hs (hc.snoc rfl) (fun x hx => by
        rcases List.mem_append.1 hx with hx | hx
        · exact hp x hx
        · simp at hx; subst hx; exact hok)
      refine ⟨c1, m2, m3, (itT (d + pre.length) s).1 :: r, by simp [m4], by simp [m5], ?_⟩
      have e : s.1 = itB (itT (d + pre.length) s).1 ++ (itT (d + pre.length) s).2.1 := by
        rw [c2, b2, a2]
        simp [itB, itT]
      rw [e, m6, itsB, List.append_assoc]
theorem pack_unE {c : List Nat} (hb : ∀ b ∈ c, b < 256) {s : LSt} (h : unE c = some s) : GoodE s ∧ packE s = c := by
  unfold unE at h
  have hb1 := numT_lt (s := (c, false)) hb 0 9223372036854775807
  have hb2 := numT_lt hb1 0 9223372036854775807
  have hb3 := numT_lt hb2 0 64
  obtain ⟨x, hx⟩ : ∃ x, numT (c, false) 0 9223372036854775807 = x := ⟨_, rfl⟩
  obtain ⟨y, hy⟩ : ∃ y, numT x.2 0 9223372036854775807 = y := ⟨_, rfl⟩
  obtain ⟨z, hz⟩ : ∃ z, numT y.2 0 64 = z := ⟨_, rfl⟩
  rw [hx] at h hb1 hb2 hb3
  rw [hy] at h hb2 hb3
  rw [hz] at h hb3
  split at h
  · cases h
  · rename_i hle
    obtain ⟨⟨l, s'⟩, hr⟩ : ∃ r, unI (x.1 - z.1 + 1) z.1.toNat [] z.2 = r := ⟨_, rfl⟩
    rw [hr] at h
    unfold okI at h
    simp only at h
    split at h
    · rename_i hd
      simp only [endE, Option.some.injEq] at h
      subst h
      have hs : s'.2 = false ∧ s'.1 = [] := by
        unfold doneT at hd
        split at hd
        · omega
        · rename_i hn
          rcases Bool.eq_false_or_eq_true s'.2 with e | e
          · exact absurd (.inl e) hn
          · refine ⟨e, ?_⟩
            cases h1 : s'.1 with
            | nil => rfl
            | cons a l => exact absurd (.inr (by rw [h1]; simp)) hn
      obtain ⟨m1, m2, m3, r, m4, m5, m6⟩ := unI_back _ _ _ _ _ _ hb3 hr hs.1 trivial (by simp)
      obtain ⟨n1, n2, n3, n4⟩ := numT_back hb2 (a := 0) (b := 64) (by rw [hz]; exact m1)
      rw [hz] at n2 n3 n4
      obtain ⟨p1, p2, p3, p4⟩ := numT_back hb1 (a := 0) (b := 9223372036854775807) (by rw [hy]; exact n1)
      rw [hy] at p2 p3 p4
      obtain ⟨o1, o2, o3, o4⟩ := numT_back (s := (c, false)) hb (a := 0) (b := 9223372036854775807) (by rw [hx]; exact p1)
      rw [hx] at o2 o3 o4
      simp only [List.nil_append] at m4
      subst m4
      have e : (l.length : Int) = z.1 := by omega
      refine ⟨⟨⟨o3, o4⟩, ⟨p3, p4⟩, by simp only; omega, by simp only; omega, by simp only; rw [e]; exact m2, m3⟩, ?_⟩
      unfold packE
      simp only at o2 ⊢
      rw [e, o2, p2, n2, m6, hs.2, List.append_nil]
    · simp [endE] at h
theorem nextL_i64 {now : Int} (h : I64 now) (t : Int) : I64 (nextL now t) := by
  obtain ⟨h1, h2⟩ := h
  have hw : 0 ≤ waitL t ∧ waitL t ≤ 16 := by
    unfold waitL
    repeat' split
    all_goals omega
  unfold nextL
  split
  · exact ⟨by omega, by omega⟩
  · exact ⟨by omega, by omega⟩
theorem GoodE.send {s : LSt} (h : GoodE s) {bs : List Nat} {now : Int} (hb : ∀ b ∈ bs, b < 256) (hn : I64 now) (hs : s.sent < 9223372036854775807) : GoodE (sendS s bs now) := by
  unfold sendS
  split
  · rename_i he
    have hlen : bs.length ≤ 2048 ∧ s.l.length < 64 := by
      unfold sendE at he
      split at he
      · cases he
      · split at he
        · cases he
        · omega
    have h1 := h.sent
    have h2 := h.le
    refine ⟨⟨by simp only; omega, by simp only; omega⟩, h.mark, by simp only [List.length_append, List.length_cons, List.length_nil]; omega, by simp only [List.length_append, List.length_cons, List.length_nil]; omega, ?_, fun x hx => ?_⟩
    · simp only [List.length_append, List.length_cons, List.length_nil]
      rw [show s.sent + 1 - ((s.l.length + (0 + 1) : Nat) : Int) + 1 = s.sent - (s.l.length : Int) + 1 by omega]
      exact h.chain.snoc (by simp only; omega)
    · rcases List.mem_append.1 hx with hx | hx
      · exact h.it x hx
      · simp at hx
        subst hx
        exact ⟨hlen.1, hb, by simp, by simp, nextL_i64 hn 0⟩
  · exact h
theorem GoodE.tick {s : LSt} (h : GoodE s) {now : Int} (hn : I64 now) (ht : ∀ x ∈ s.l, x.tries < 9223372036854775807) : GoodE (tickS s now) := by
  refine ⟨h.sent, h.mark, by simpa [tickS] using h.len, by simpa [tickS] using h.le, ?_, fun x hx => ?_⟩
  · simp only [tickS, List.length_map]
    exact h.chain.map (fun x => by unfold tickI; split <;> rfl)
  · simp only [tickS, List.mem_map] at hx
    obtain ⟨y, hy, rfl⟩ := hx
    obtain ⟨h1, h2, h3, h4, h5⟩ := h.it y hy
    have := ht y hy
    unfold tickI
    split
    · exact ⟨h1, h2, by simp only; omega, by simp only; omega, nextL_i64 hn _⟩
    · exact ⟨h1, h2, h3, h4, h5⟩
theorem GoodE.on {s : LSt} (h : GoodE s) (k : LPk) (hm : s.mark < 9223372036854775807) : GoodE (onS s k) := by
  unfold onS
  split
  · have h1 := h.mark
    have h2 := h.len
    have h3 := h.le
    have h4 : (onL s k).length ≤ s.l.length := List.length_filter_le _ _
    refine ⟨h.sent, ?_, by simp only; omega, by simp only; omega, ?_, fun x hx => h.it x (List.mem_filter.1 hx).1⟩
    · simp only
      split <;> omega
    · simp only
      have := h.chain.rest k.ack
      rw [show s.sent - (s.l.length : Int) + 1 + (s.l.length : Int) = s.sent + 1 by omega] at this
      rw [show s.sent - ((onL s k).length : Int) + 1 = s.sent + 1 - ((onL s k).length : Int) by omega]
      exact this
  · exact h
theorem GoodE.nil : GoodE ⟨[], 0, 0⟩ := ⟨⟨by simp, by simp⟩, ⟨by simp, by simp⟩, by simp, by simp, trivial, by simp⟩
end Go.Proofs.Ytnmbblkfaoihfaa
