/- The reference's code of a packet. -/
import Derived.Test.YtnmbblkfaoihfaaLDec
namespace Go.Proofs.Ytnmbblkfaoihfaa
open Go.RowKit

set_option maxRecDepth 100000 in
set_option maxHeartbeats 2000000 in
theorem renc_ok (k : LPk) (A : Option Addr) (c : Nat) (w : World) (hb : Bs w (.slice A k.body.length c) k.body) (h256 : ∀ x ∈ k.body, x < 256) (hm : mayL k = true) :
    Calls Try.prog 33 #[.agg #[.int .i64 k.seq, .int .i64 k.ack, .slice A k.body.length c]] w fun e w' => ∃ x, e = .returned x ∧ Bs w' x (packP k) ∧ Below w.heap.size w w' := by
  have HL := Lib.hid (mayL_len hm)
  have HBy := Lib.hid hb
  have H256 := Lib.hid h256
  obtain ⟨wa, hwa⟩ : ∃ wa, (w.alloc (.cells #[.int .i64 k.seq, .int .i64 k.ack, .slice A k.body.length c] 43)).alloc (.cells #[.slice none 0 0, .bool false] 106) = wa := ⟨_, rfl⟩
  have hba : Below w.heap.size w wa := by rw [← hwa]; exact ((Below.refl _ w).alloc (Nat.le_refl _) _).alloc (by simp) _
  have hza : wa.heap.size = w.heap.size + 2 := by rw [← hwa]; simp
  have hq0 : wa.heap[w.heap.size]? = some (.cells #[.int .i64 k.seq, .int .i64 k.ack, .slice A k.body.length c] 43 (0, 0)) := by
    rw [← hwa]
    exact (((Below.refl (w.heap.size + 1) (w.alloc (.cells #[.int .i64 k.seq, .int .i64 k.ack, .slice A k.body.length c] 43))).alloc (by simp) _).block _ (by omega)).trans (block_new w _)
  have hT : IsT wa 106 (w.heap.size + 1) none ([], false) := by
    refine ⟨none, 0, ?_, Nat.le_refl _, Nat.zero_le _, Rd.nil, by simp, by simp, .inl rfl⟩
    rw [← hwa]
    have := block_new (w.alloc (.cells #[.int .i64 k.seq, .int .i64 k.ack, .slice A k.body.length c] 43)) (.cells #[.slice none 0 0, .bool false] 106)
    simpa using this
  have HWA := Lib.hid hwa
  have HBA := Lib.hid hba
  have HZA := Lib.hid hza
  have HQ0 := Lib.hid hq0
  have HT := Lib.hid hT
  have e0 : wa.cell? ⟨w.heap.size, 0, none⟩ = some (.int .i64 k.seq) := cell_at hq0 0
  clear hwa hba hza hq0 hT hb h256 hm
  go_enter Try.func33, Try.ntmps33
  go_wp2_with fail
  rw [HWA.out]
  refine (rmnum_any (w.heap.size + 1) none _ k.seq wa HT.out (by simp) ⟨by have := HL.out; omega, by have := HL.out; omega⟩).mono ?_
  rintro e w1 ⟨D1, rfl, hT1, hD1, hg1, hf1⟩
  have hq1 := hf1.keep0 HQ0.out (by simp)
  have HT1 := Lib.hid hT1
  have HD1 := Lib.hid hD1
  have HG1 := Lib.hid hg1
  have HF1 := Lib.hid hf1
  have HQ1 := Lib.hid hq1
  have e1 : w1.cell? ⟨w.heap.size, 1, none⟩ = some (.int .i64 k.ack) := cell_at hq1 1
  clear hT1 hD1 hg1 hf1 hq1 e0
  go_wp2_with fail
  refine (rmnum_any (w.heap.size + 1) D1 _ k.ack w1 HT1.out HD1.out ⟨by have := HL.out; omega, by have := HL.out; omega⟩).mono ?_
  rintro e w2 ⟨D2, rfl, hT2, hD2, hg2, hf2⟩
  have hq2 := hf2.keep0 HQ1.out (by simp)
  have HT2 := Lib.hid hT2
  have HD2 := Lib.hid hD2
  have HF2 := Lib.hid hf2
  have e2 : w2.cell? ⟨w.heap.size, 2, none⟩ = some (.slice A k.body.length c) := cell_at hq2 2
  have hs2 := run_str w2 A _ c k.body (((bs_rd HBy.out).below HBA.out).frame (HF1.out.trans hf2) (fun hn a ha => by
    obtain ⟨g, o, e, hg, _⟩ := (bs_rd HBy.out).2 hn
    rw [e] at ha
    cases ha
    simp
    omega)) H256.out
  have hsz : (strOf k.body).size ≤ 140737488351232 := by rw [strOf_size]; have := HL.out; omega
  have HNat := Lib.hid (natsOf_strOf H256.out)
  obtain ⟨S, hSe⟩ : ∃ S, strOf k.body = S := ⟨_, rfl⟩
  rw [hSe] at hs2 hsz HNat
  have HSz := Lib.hid hsz
  clear hT2 hD2 hg2 hf2 hq2 e1 hsz hSe
  go_wp2_with fail
  refine (rmtext_any (w.heap.size + 1) D2 _ S w2 HT2.out HD2.out HSz.out).mono ?_
  rintro e w3 ⟨D3, rfl, hT3, hD3, hg3, hf3⟩
  have hE : putS (putS (putS ([], false) (numB k.seq)) (numB k.ack)) (textB (natsOf S)) = (packP k, false) := by
    have h := HL.out
    have h1 := numB_le k.body.length
    rw [HNat.out]
    exact puts3 (numB_le _) (numB_le _) (by simp [textB]; omega)
  rw [hE] at hT3
  have HB := Lib.hid ((HBA.out.trans (HF1.out.belowT (Nat.le_succ _) (HBA.out.size))).trans ((HF2.out.belowT (Nat.le_succ _) (Nat.le_trans HBA.out.size HF1.out.size)).trans (hf3.belowT (Nat.le_succ _) (Nat.le_trans (Nat.le_trans HBA.out.size HF1.out.size) HF2.out.size))))
  obtain ⟨A3, c3, k1, k2, k3, k4, _⟩ := hT3
  have HK := Lib.hid (show Bs w3 (.slice A3 (packP k).length c3) (packP k) from ⟨_, _, rfl, k2, k3, k4⟩)
  have e3 : w3.cell? ⟨w.heap.size + 1, 0, none⟩ = some (.slice A3 (packP k).length c3) := cell_at k1 0
  clear hD3 hg3 hf3 hE k1 k2 k3 k4 e2 hs2
  go_wp2
  go_ret
  exact ⟨_, rfl, HK.out, HB.out⟩
end Go.Proofs.Ytnmbblkfaoihfaa
