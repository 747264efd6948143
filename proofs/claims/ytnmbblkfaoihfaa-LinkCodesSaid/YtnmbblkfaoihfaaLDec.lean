/- Package link: the packet of a code: Decode. -/
import Derived.Test.YtnmbblkfaoihfaaLCode
import Derived.Test.YtnmbblkfaoihfaaLOn
namespace Go.Proofs.Ytnmbblkfaoihfaa
open Go.RowKit

/-- What Decode answers. -/
def RetDec (ok no : Value) (r : LPk × Bool) (w : World) (e : Ending) (w' : World) : Prop :=
  ∃ x, e = .returned (.tuple #[.agg #[.int .i64 r.1.seq, .int .i64 r.1.ack, x], if r.2 = true then ok else no]) ∧ Bs w' x r.1.body ∧ Below w.heap.size w w'
theorem bs_nil (w : World) : Bs w (.slice none 0 0) [] := ⟨none, 0, rfl, Nat.le_refl _, Nat.zero_le _, Rd.nil⟩
theorem Bs.keepF {w w' : World} {g n c : Nat} {bs : List Nat} {S : List Nat} (h : Bs w (.slice (some ⟨g, 0, none⟩) n c) bs) (f : Fr 0 [] S w w') (hg : g ∉ S) : Bs w' (.slice (some ⟨g, 0, none⟩) n c) bs := by
  obtain ⟨A, c', e, h1, h2, h3⟩ := h
  cases e
  exact ⟨_, _, rfl, h1, h2, h3.frame f (fun _ a ha => by cases ha; exact hg)⟩
theorem strOf_size (l : List Nat) : (strOf l).size = l.length := by simp [strOf, ByteArray.size]
theorem natsOf_strOf {l : List Nat} (h : ∀ x ∈ l, x < 256) : natsOf (strOf l) = l := by
  unfold natsOf strOf
  simp only [List.map_map]
  exact (List.map_congr_left (fun x hx => by simp; exact h x hx)).trans (List.map_id _)
theorem textT_le (s : List Nat × Bool) (m : Int) : (textT s m).1.length ≤ s.1.length := by
  have h := numT_le s 0 m
  unfold textT
  generalize numT s 0 m = r at h
  simp only
  split
  · simp
  · split
    · simp
    · simp; omega

set_option maxRecDepth 100000 in
set_option maxHeartbeats 4000000 in
theorem ldec_any (v : Value) (bs : List Nat) (w : World) (hv : Bs w v bs) (hl : ∀ b ∈ bs, b < 256) (ht : bs.length ≤ 140737488355328) :
    Calls Try.prog 29 #[v] w (RetDec (.int .i64 0) (.int .i64 10) (unP bs) w) := by
  obtain ⟨n1, s1, e1⟩ : ∃ n s, numT (bs, false) 0 1099511627776 = (n, s) := ⟨_, _, rfl⟩
  obtain ⟨n2, s2, e2⟩ : ∃ n s, numT s1 0 1099511627776 = (n, s) := ⟨_, _, rfl⟩
  obtain ⟨t3, s3, e3⟩ : ∃ n s, textT s2 2048 = (n, s) := ⟨_, _, rfl⟩
  have hun : unP bs = if doneT s3 = 0 ∧ mayL ⟨n1, n2, t3⟩ = true then (⟨n1, n2, t3⟩, true) else (⟨0, 0, []⟩, false) := by
    unfold unP
    simp only [e1, e2, e3]
  have hl1 : (∀ b ∈ s1.1, b < 256) ∧ s1.1.length ≤ bs.length := by have h1 := numT_lt (s := (bs, false)) hl 0 1099511627776; have h2 := numT_le (bs, false) 0 1099511627776; rw [e1] at h1 h2; exact ⟨h1, h2⟩
  have hl2 : (∀ b ∈ s2.1, b < 256) ∧ s2.1.length ≤ bs.length := by have h1 := numT_lt hl1.1 0 1099511627776; have h2 := numT_le s1 0 1099511627776; rw [e2] at h1 h2; exact ⟨h1, Nat.le_trans h2 hl1.2⟩
  have hl3 : (∀ b ∈ t3, b < 256) ∧ t3.length ≤ bs.length := by have h1 := (textT_lt hl2.1 2048).1; have h2 := textT_le s2 2048; rw [e3] at h1 h2; exact ⟨h1, Nat.le_trans h2 hl2.2⟩
  have HUN := Lib.hid hun
  have E1 := Lib.hid e1
  have E2 := Lib.hid e2
  have E3 := Lib.hid e3
  have HL := Lib.hid hl
  have HT := Lib.hid ht
  have HL3 := Lib.hid hl3
  have HV := Lib.hid hv
  obtain ⟨A, c, rfl, _, _, _⟩ := hv
  have hbA : Below w.heap.size w (w.alloc (.cells #[.int .i64 0, .int .i64 0, .slice none 0 0] 43)) := (Below.refl _ _).alloc (Nat.le_refl _) _
  have HBA := Lib.hid hbA
  have hr0 := block_new w (.cells #[.int .i64 0, .int .i64 0, .slice none 0 0] 43)
  have HR0 := Lib.hid hr0
  clear hun e1 e2 e3 hl ht hl1 hl2 hl3 hbA hr0
  go_enter Try.func29, Try.ntmps29
  go_wp2_with fail
  refine (take_any _ bs _ (HV.out.below HBA.out) HL.out HT.out).mono ?_
  rintro e w1 ⟨p, D, rfl, hp, hT, hD, hDf, hb1⟩
  have HP := Lib.hid hp
  have HT1 := Lib.hid hT
  have HD := Lib.hid hD
  have HDf := Lib.hid hDf
  have HB1 := Lib.hid hb1
  clear hp hT hD hDf hb1
  go_wp2_with fail
  refine (tnum_any p D _ 0 1099511627776 w1 HT1.out HD.out).mono ?_
  rintro e w2 ⟨rfl, hT2, hf2⟩
  rw [E1.out] at hT2 ⊢
  have HT2 := Lib.hid hT2
  have HF2 := Lib.hid hf2
  clear hT2 hf2
  go_wp2_with fail
  refine (tnum_any p D _ 0 1099511627776 w2 HT2.out HD.out).mono ?_
  rintro e w3 ⟨rfl, hT3, hf3⟩
  rw [E2.out] at hT3 ⊢
  have HT3 := Lib.hid hT3
  have HF3 := Lib.hid hf3
  clear hT3 hf3
  go_wp2_with fail
  have hbq : Below w3.heap.size w3 (w3.alloc (.cells #[.int .i64 n1, .int .i64 n2, .slice none 0 0] 43)) := (Below.refl _ _).alloc (Nat.le_refl _) _
  refine (ttext_any p D s2 2048 _ (HT3.out.below hbq) HD.out).mono ?_
  have HBQ := Lib.hid hbq
  have HQ3 := Lib.hid (block_new w3 (.cells #[.int .i64 n1, .int .i64 n2, .slice none 0 0] 43))
  rintro e w4 ⟨rfl, hT4, hf4⟩
  rw [E3.out] at hT4 ⊢
  have HT4 := Lib.hid hT4
  have HF4 := Lib.hid hf4
  have hp3 : p < w3.heap.size := HT3.out.lt
  have HP3 := Lib.hid hp3
  have hz4 : w3.heap.size < w4.heap.size := by have := hf4.size; simp at this; omega
  obtain ⟨c5, w5, hcv, hbs5, hb5, hz5⟩ := str_bytes w4 (strOf t3) (by rw [strOf_size]; have := HL3.out.2; have := HT.out; unfold maxLen; omega)
  rw [strOf_size] at hcv hbs5
  rw [natsOf_strOf HL3.out.1] at hbs5
  have hq5 : w5.heap[w3.heap.size]? = some (.cells #[.int .i64 n1, .int .i64 n2, .slice none 0 0] 43 (0, 0)) := (hb5.block _ hz4).trans (hf4.keep0 HQ3.out (by simp; omega))
  have hT5 : IsT w5 116 p D s3 := HT4.out.below hb5
  obtain ⟨q, hq⟩ : ∃ q, w3.heap.size = q := ⟨_, rfl⟩
  rw [hq] at hq5 hp3
  have hf6 : Fr 0 [] [q] w5 (w5.setCell ⟨q, 2, none⟩ (.slice (some ⟨w4.heap.size, 0, none⟩) t3.length c5)) := (Fr.refl w5).setCell (p := ⟨q, 2, none⟩) _ (Nat.zero_le _) (.inl (by simp))
  have hq6 : (w5.setCell ⟨q, 2, none⟩ (.slice (some ⟨w4.heap.size, 0, none⟩) t3.length c5)).heap[q]? = some (.cells #[.int .i64 n1, .int .i64 n2, .slice (some ⟨w4.heap.size, 0, none⟩) t3.length c5] 43 (0, 0)) := by rw [block_set hq5]; rfl
  have hT6 : IsT (w5.setCell ⟨q, 2, none⟩ (.slice (some ⟨w4.heap.size, 0, none⟩) t3.length c5)) 116 p D s3 := hT5.keep hf6 (by simp; omega) (fun d hd => by
    have h1 := (HDf.out d hd).2
    have h2 := HF2.out.size
    have h3 := HF3.out.size
    simp
    omega)
  have hb6 : Below (w.heap.size + 1) w1 (w5.setCell ⟨q, 2, none⟩ (.slice (some ⟨w4.heap.size, 0, none⟩) t3.length c5)) := by
    have hp0 := HP.out
    simp at hp0
    have h1 := HB1.out.size
    have h2 := HF2.out.size
    have h3 := HF3.out.size
    have h4 := hf4.size
    have k1 : Below (w.heap.size + 1) w1 w3 := (HF2.out.belowT hp0 (by simpa using h1)).trans (HF3.out.belowT hp0 (by simp at h1; omega))
    have k2 : Below (w.heap.size + 1) w3 w4 := (hbq.mono (by simp at h1; omega)).trans (hf4.belowT hp0 (by simp at h1 ⊢; omega))
    exact k1.trans (k2.trans ((hb5.mono (by simp at h1 h4; omega)).trans (hf6.belowT (by simp at h1; omega) (by have := hb5.size; simp at h1 h4; omega))))
  clear hT4 hf4 hbq
  have HQ5 := Lib.hid hq5
  have HB5 := Lib.hid hb5
  have HZ5 := Lib.hid hz5
  have HBS := Lib.hid hbs5
  have HT5 := Lib.hid hT5
  have HF6 := Lib.hid hf6
  have HQ6 := Lib.hid hq6
  have HT6 := Lib.hid hT6
  have HB6 := Lib.hid hb6
  have x2 : w5.cell? ⟨q, 2, none⟩ = some (.slice none 0 0) := cell_at hq5 2
  have xf := frozen_at hq5 2
  clear hq5 hb5 hz5 hbs5 hT5 hf6 hq6 hz4 hp3 hT6 hb6
  rw [hq]
  have HQe := Lib.hid hq
  clear hq
  go_wp2_with fail
  refine (tdone_any p D s3 _ HT6.out).mono ?_
  rintro e w6 ⟨rfl, rfl⟩
  have HB06 : Hid (Below w.heap.size w (w5.setCell ⟨q, 2, none⟩ (.slice (some ⟨w4.heap.size, 0, none⟩) t3.length c5))) := Lib.hid (HBA.out.trans ((HB1.out.mono (by simp)).trans (HB6.out.mono (by omega))))
  have hr6 : (w5.setCell ⟨q, 2, none⟩ (.slice (some ⟨w4.heap.size, 0, none⟩) t3.length c5)).heap[w.heap.size]? = some (.cells #[.int .i64 0, .int .i64 0, .slice none 0 0] 43 (0, 0)) := (HB6.out.block _ (by omega)).trans ((HB1.out.block _ (by simp)).trans HR0.out)
  have hb56 : Hid (Bs (w5.setCell ⟨q, 2, none⟩ (.slice (some ⟨w4.heap.size, 0, none⟩) t3.length c5)) (.slice (some ⟨w4.heap.size, 0, none⟩) t3.length c5) t3) := Lib.hid (HBS.out.keepF HF6.out (by have h1 := HF4.out.size; have h2 := HQe.out; simp at h1; simp; omega))
  obtain ⟨w6, hw6⟩ : ∃ w6, w5.setCell ⟨q, 2, none⟩ (.slice (some ⟨w4.heap.size, 0, none⟩) t3.length c5) = w6 := ⟨_, rfl⟩
  rw [hw6] at HQ6 HB06 hr6 hb56 ⊢
  obtain ⟨D3, hD3⟩ : ∃ d, doneT s3 = d := ⟨_, rfl⟩
  rw [hD3] at HUN ⊢
  have y0 : w6.cell? ⟨q, 0, none⟩ = some (.int .i64 n1) := cell_at HQ6.out 0
  have y1 : w6.cell? ⟨q, 1, none⟩ = some (.int .i64 n2) := cell_at HQ6.out 1
  have y2 : w6.cell? ⟨q, 2, none⟩ = some (.slice (some ⟨w4.heap.size, 0, none⟩) t3.length c5) := cell_at HQ6.out 2
  have z0 : w6.cell? ⟨w.heap.size, 0, none⟩ = some (.int .i64 0) := cell_at hr6 0
  have z1 : w6.cell? ⟨w.heap.size, 1, none⟩ = some (.int .i64 0) := cell_at hr6 1
  have z2 : w6.cell? ⟨w.heap.size, 2, none⟩ = some (.slice none 0 0) := cell_at hr6 2
  have zf0 : w6.frozen? ⟨w.heap.size, 0, none⟩ = false := frozen_at hr6 0
  have zf1 : w6.frozen? ⟨w.heap.size, 1, none⟩ = false := frozen_at hr6 1
  have zf2 : w6.frozen? ⟨w.heap.size, 2, none⟩ = false := frozen_at hr6 2
  clear hw6 hD3 x2 xf
  by_cases hd : D3 = 0
  · subst hd
    clear z0 z1 z2 zf0 zf1 zf2
    go_wp2_with fail
    refine (lmay_any ⟨n1, n2, t3⟩ _ c5 w6 (by have := HL3.out.2; have := HT.out; simp only; omega)).mono ?_
    rintro e w7 ⟨rfl, h7⟩
    have hq7 := (h7.block _ (lt_of_block HQ6.out)).trans HQ6.out
    have hr7 := (h7.block _ (lt_of_block hr6)).trans hr6
    have hb57 : Hid (Bs w7 (.slice (some ⟨w4.heap.size, 0, none⟩) t3.length c5) t3) := Lib.hid (hb56.out.below h7)
    have HB07 : Hid (Below w.heap.size w w7) := Lib.hid (HB06.out.trans (h7.mono HB06.out.size))
    clear y0 y1 y2 h7 hr6
    have HR7 := Lib.hid hr7
    have z0 : w7.cell? ⟨w.heap.size, 0, none⟩ = some (.int .i64 0) := cell_at hr7 0
    have z1 : w7.cell? ⟨w.heap.size, 1, none⟩ = some (.int .i64 0) := cell_at hr7 1
    have z2 : w7.cell? ⟨w.heap.size, 2, none⟩ = some (.slice none 0 0) := cell_at hr7 2
    have zf0 : w7.frozen? ⟨w.heap.size, 0, none⟩ = false := frozen_at hr7 0
    have zf1 : w7.frozen? ⟨w.heap.size, 1, none⟩ = false := frozen_at hr7 1
    have zf2 : w7.frozen? ⟨w.heap.size, 2, none⟩ = false := frozen_at hr7 2
    have y0 : w7.cell? ⟨q, 0, none⟩ = some (.int .i64 n1) := cell_at hq7 0
    have y1 : w7.cell? ⟨q, 1, none⟩ = some (.int .i64 n2) := cell_at hq7 1
    have y2 : w7.cell? ⟨q, 2, none⟩ = some (.slice (some ⟨w4.heap.size, 0, none⟩) t3.length c5) := cell_at hq7 2
    clear hr7 hq7
    cases hm : mayL ⟨n1, n2, t3⟩
    · have HU : Hid (unP bs = (⟨0, 0, []⟩, false)) := Lib.hid (by rw [HUN.out, if_neg (by simp [hm])])
      clear hm
      go_wp2_with fail
      obtain ⟨W9, h9, u0, u1, u2, _, hB⟩ := pkt_store HR7.out (.int .i64 0) (.int .i64 0) (.slice none 0 0)
      rw [h9]
      refine bodyPost_ret (v := .tuple #[.agg #[.int .i64 0, .int .i64 0, .slice none 0 0], .int .i64 10]) (by simp [results, Try.f29, go_sem, u0, u1, u2]) rfl ?_
      exact ⟨_, by rw [HU.out]; rfl, by rw [HU.out]; exact bs_nil _, HB07.out.trans (hB _ (Nat.le_refl _))⟩
    · have HU : Hid (unP bs = (⟨n1, n2, t3⟩, true)) := Lib.hid (by rw [HUN.out, if_pos (by simp [hm])])
      clear hm
      go_wp2_with fail
      obtain ⟨W9, h9, u0, u1, u2, hf, hB⟩ := pkt_store HR7.out (.int .i64 n1) (.int .i64 n2) (.slice (some ⟨w4.heap.size, 0, none⟩) t3.length c5)
      rw [h9]
      refine bodyPost_ret (v := .tuple #[.agg #[.int .i64 n1, .int .i64 n2, .slice (some ⟨w4.heap.size, 0, none⟩) t3.length c5], .int .i64 0]) (by simp [results, Try.f29, go_sem, u0, u1, u2]) rfl ?_
      have hne : w4.heap.size ≠ w.heap.size := by
        have h1 := HB1.out.size
        have h2 := HF2.out.size
        have h3 := HF3.out.size
        have h4 := HF4.out.size
        simp at h1 h4
        omega
      exact ⟨_, by rw [HU.out]; rfl, by rw [HU.out]; exact hb57.out.keepF hf (by simpa using hne), HB07.out.trans (hB _ (Nat.le_refl _))⟩
  · have hd' : (D3 != 0) = true := by simpa using hd
    have HU : Hid (unP bs = (⟨0, 0, []⟩, false)) := Lib.hid (by rw [HUN.out, if_neg (by simp [hd])])
    have HR6 := Lib.hid hr6
    clear hd hr6
    go_wp2_with fail
    obtain ⟨W9, h9, u0, u1, u2, _, hB⟩ := pkt_store HR6.out (.int .i64 0) (.int .i64 0) (.slice none 0 0)
    rw [h9]
    refine bodyPost_ret (v := .tuple #[.agg #[.int .i64 0, .int .i64 0, .slice none 0 0], .int .i64 10]) (by simp [results, Try.f29, go_sem, u0, u1, u2]) rfl ?_
    exact ⟨_, by rw [HU.out]; rfl, by rw [HU.out]; exact bs_nil _, HB06.out.trans (hB _ (Nat.le_refl _))⟩
end Go.Proofs.Ytnmbblkfaoihfaa
