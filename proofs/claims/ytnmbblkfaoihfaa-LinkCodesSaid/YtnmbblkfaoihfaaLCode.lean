/- Package link: a packet's code: Encode and Decode, and the reference's. -/
import Derived.Test.YtnmbblkfaoihfaaLSame
import Derived.Test.YtnmbblkfaoihfaaCRT2
import Derived.Test.YtnmbblkfaoihfaaCRM
namespace Go.Proofs.Ytnmbblkfaoihfaa
open Go.RowKit

/-- The code of a packet. -/
def packP (k : LPk) : List Nat := numB k.seq ++ (numB k.ack ++ textB k.body)
/-- The packet of a code. -/
def unP (bs : List Nat) : LPk × Bool :=
  let a := numT (bs, false) 0 1099511627776
  let b := numT a.2 0 1099511627776
  let c := textT b.2 2048
  if doneT c.2 = 0 ∧ mayL ⟨a.1, b.1, c.1⟩ = true then (⟨a.1, b.1, c.1⟩, true) else (⟨0, 0, []⟩, false)
theorem mayL_len {k : LPk} (h : mayL k = true) : k.body.length ≤ 2048 ∧ 0 ≤ k.seq ∧ k.seq ≤ 1099511627776 ∧ 0 ≤ k.ack ∧ k.ack ≤ 1099511627776 := by
  unfold mayL at h
  simp only [Bool.and_eq_true, decide_eq_true_eq] at h
  exact ⟨h.1.2, h.1.1.1.1.1, h.1.1.1.1.2, h.1.1.1.2, h.1.1.2⟩
theorem numB_le (n : Int) : (numB n).length ≤ 9 := (numB_length n).2
theorem puts3 {a b c : List Nat} (ha : a.length ≤ 9) (hb : b.length ≤ 9) (hc : c.length ≤ 4096) : putS (putS (putS ([], false) a) b) c = (a ++ (b ++ c), false) := by
  have e1 : putS ([], false) a = (a, false) := putS_fits (s := ([], false)) rfl (by simp; omega)
  have e2 : putS (a, false) b = (a ++ b, false) := putS_fits rfl (by simp; omega)
  have e3 : putS (a ++ b, false) c = (a ++ b ++ c, false) := putS_fits rfl (by simp; omega)
  rw [e1, e2, e3, List.append_assoc]

/-- A maker that a call handed back. -/
def Mkv (w : World) (s : List Nat × Bool) (v : Value) (W : World) : Prop := ∃ p, v = .pointer (some ⟨p, 0, none⟩) ∧ Mk w p s W
theorem mkv_new {w W : World} (hb : Below w.heap.size w W) : Calls Try.prog 47 #[] W fun e W' => ∃ v, e = .returned v ∧ Below w.heap.size w W' ∧ Mkv w ([], false) v W' :=
  (mk_new hb).mono fun _ _ ⟨he, hm⟩ => ⟨_, he, hm.below, _, rfl, hm⟩
theorem mkv_num {w W : World} {s : List Nat × Bool} {v : Value} (h : Mkv w s v W) (n : Int) (hn : I64 n) : Calls Try.prog 48 #[v, .int .i64 n] W fun e W' => e = .returned v ∧ Below w.heap.size w W' ∧ Mkv w (putS s (numB n)) v W' := by
  obtain ⟨p, rfl, h⟩ := h
  exact (mk_num h n hn).mono fun _ _ ⟨he, hm⟩ => ⟨he, hm.below, _, rfl, hm⟩
theorem mkv_text {w W : World} {s : List Nat × Bool} {v : Value} (h : Mkv w s v W) (t : ByteArray) (ht : t.size ≤ 140737488351232) : Calls Try.prog 49 #[v, .string t] W fun e W' => e = .returned v ∧ Below w.heap.size w W' ∧ Mkv w (putS s (textB (natsOf t))) v W' := by
  obtain ⟨p, rfl, h⟩ := h
  exact (mk_text h t ht).mono fun _ _ ⟨he, hm⟩ => ⟨he, hm.below, _, rfl, hm⟩
/-- What a maker's Done hands back, where it was not too long. -/
def DoneV (w : World) (bs : List Nat) (u : Value) (W : World) : Prop := ∃ x, u = .tuple #[x, .int .i64 0] ∧ Bs W x bs ∧ Below w.heap.size w W
theorem mkv_done {w W : World} {bs : List Nat} {v : Value} (h : Mkv w (bs, false) v W) (hl : bs.length ≤ 262144) : Calls Try.prog 50 #[v] W fun e W' => ∃ u, e = .returned u ∧ Below w.heap.size w W' ∧ DoneV w bs u W' := by
  obtain ⟨p, rfl, h⟩ := h
  exact (mk_done h hl).mono fun _ _ ⟨x, he, hb, _, _, hm⟩ => ⟨_, he, hm.below, x, rfl, hb, hm.below⟩

theorem lenc_not (k : LPk) (A : Option Addr) (c : Nat) (w : World) (hb : k.body.length ≤ 9223372036854775807) (hm : mayL k = false) :
    Calls Try.prog 28 #[.agg #[.int .i64 k.seq, .int .i64 k.ack, .slice A k.body.length c]] w fun e w' => e = .returned (.tuple #[.slice none 0 0, .int .i64 1]) ∧ Below w.heap.size w w' := by
  have HM := Lib.hid hm
  clear hm
  go_enter Try.func28, Try.ntmps28
  go_wp2_with fail
  refine (lmay_any k A c _ hb).mono ?_
  rintro e w1 ⟨rfl, h1⟩
  rw [HM.out]
  have H1 := Lib.hid h1
  clear h1 hb
  go_wp2
  go_ret2
  exact ⟨rfl, (((Below.refl _ w).alloc (Nat.le_refl _) _).trans (H1.out.mono (by simp)))⟩

set_option maxRecDepth 100000 in
set_option maxHeartbeats 2000000 in
theorem lenc_ok (k : LPk) (A : Option Addr) (c : Nat) (w : World) (hb : Bs w (.slice A k.body.length c) k.body) (h256 : ∀ x ∈ k.body, x < 256) (hm : mayL k = true) :
    Calls Try.prog 28 #[.agg #[.int .i64 k.seq, .int .i64 k.ack, .slice A k.body.length c]] w fun e w' => ∃ x, e = .returned (.tuple #[x, .int .i64 0]) ∧ Bs w' x (packP k) ∧ Below w.heap.size w w' := by
  have HM := Lib.hid hm
  have hl := mayL_len hm
  have HL := Lib.hid hl
  have hlen : k.body.length ≤ 9223372036854775807 := by omega
  have bA : Below w.heap.size w (w.alloc (.cells #[.int .i64 k.seq, .int .i64 k.ack, .slice A k.body.length c] 43)) := (Below.refl _ w).alloc (Nat.le_refl _) _
  have HA := Lib.hid bA
  have hq : ∀ W, Below (w.heap.size + 1) (w.alloc (.cells #[.int .i64 k.seq, .int .i64 k.ack, .slice A k.body.length c] 43)) W → W.cell? ⟨w.heap.size, 0, none⟩ = some (.int .i64 k.seq) ∧ W.cell? ⟨w.heap.size, 1, none⟩ = some (.int .i64 k.ack) ∧ W.cell? ⟨w.heap.size, 2, none⟩ = some (.slice A k.body.length c) ∧ (convert 41 9 (.slice A k.body.length c)).run Try.prog W = .ok (.string (strOf k.body)) W := fun W hW => by
    have e := (hW.block w.heap.size (by omega)).trans (block_new w _)
    exact ⟨cell_at e 0, cell_at e 1, cell_at e 2, run_str W A _ c k.body (bs_rd ((hb.below bA).below (by simpa using hW))) h256⟩
  have HQ := Lib.hid hq
  have hS : (strOf k.body).size ≤ 140737488351232 ∧ natsOf (strOf k.body) = k.body := by
    refine ⟨by simp [strOf, ByteArray.size]; omega, ?_⟩
    unfold natsOf strOf
    simp only [List.map_map]
    exact (List.map_congr_left (fun x hx => by simp; exact h256 x hx)).trans (List.map_id _)
  have HS := Lib.hid hS
  clear bA hq hS hb h256 hm hl
  go_enter Try.func28, Try.ntmps28
  go_wp2_with fail
  refine (lmay_any k A c _ hlen).mono ?_
  rintro e w1 ⟨rfl, h1⟩
  rw [HM.out]
  have H1 := Lib.hid h1
  clear h1
  obtain ⟨wb, hwb⟩ : ∃ wb, w.alloc (.cells #[.int .i64 k.seq, .int .i64 k.ack, .slice A k.body.length c] 43) = wb := ⟨_, rfl⟩
  have hwz : wb.heap.size = w.heap.size + 1 := by rw [← hwb]; simp
  rw [hwb] at H1 HA HQ
  rw [← hwz] at HQ
  obtain ⟨S, hSe⟩ : ∃ S, strOf k.body = S := ⟨_, rfl⟩
  rw [hSe] at HQ HS
  obtain ⟨b0, hb0⟩ : ∃ b0, w.heap.size = b0 := ⟨_, rfl⟩
  have HB0 := Lib.hid hb0
  rw [hb0] at HQ
  rw [hb0]
  clear hwb hwz hSe hb0
  go_wp2_with fail
  have hE : Hid (putS (putS (putS ([], false) (numB k.seq)) (numB k.ack)) (textB (natsOf S)) = (packP k, false)) := Lib.hid (by
    have h := HL.out
    have h1 := numB_le k.body.length
    rw [HS.out.2]
    exact puts3 (numB_le _) (numB_le _) (by simp [textB]; omega))
  have hE2 : Hid ((packP k).length ≤ 262144) := Lib.hid (by
    have h := HL.out
    have h1 := numB_le k.body.length
    have h2 := numB_le k.seq
    have h3 := numB_le k.ack
    simp [packP, textB]
    omega)
  refine wp_region_flow2 (fun W => Below wb.heap.size wb W) Nil_ [1, 2, 4, 5, 7, 8, 9, 0, 3, 6, 10, 11, 12, 13, 14, 15] (by kernel_rfl) (by kernel_rfl) (by kernel_rfl) H1.out.drew trivial ?_
  refine flow_val ?_ rfl (by kernel_rfl) (by rfl) (fun W hW => ?_) ?_
  rotate_left 1
  · go_simp <;> with_reducible rfl
  simp only [Act.put, List.setIfInBounds_toArray, List.set_cons_succ, List.set_cons_zero]
  refine flow_val ?_ rfl (by kernel_rfl) (by rfl) (fun W hW => ?_) ?_
  rotate_left 1
  · obtain ⟨q0, q1, q2, q3⟩ := HQ.out W hW; go_simp <;> with_reducible rfl
  simp only [Act.put, List.setIfInBounds_toArray, List.set_cons_succ, List.set_cons_zero]
  refine flow_val ?_ rfl (by kernel_rfl) (by rfl) (fun W hW => ?_) ?_
  rotate_left 1
  · go_simp <;> with_reducible rfl
  simp only [Act.put, List.setIfInBounds_toArray, List.set_cons_succ, List.set_cons_zero]
  refine flow_val ?_ rfl (by kernel_rfl) (by rfl) (fun W hW => ?_) ?_
  rotate_left 1
  · obtain ⟨q0, q1, q2, q3⟩ := HQ.out W hW; go_simp <;> with_reducible rfl
  simp only [Act.put, List.setIfInBounds_toArray, List.set_cons_succ, List.set_cons_zero]
  refine flow_val ?_ rfl (by kernel_rfl) (by rfl) (fun W hW => ?_) ?_
  rotate_left 1
  · go_simp <;> with_reducible rfl
  simp only [Act.put, List.setIfInBounds_toArray, List.set_cons_succ, List.set_cons_zero]
  refine flow_val ?_ rfl (by kernel_rfl) (by rfl) (fun W hW => ?_) ?_
  rotate_left 1
  · obtain ⟨q0, q1, q2, q3⟩ := HQ.out W hW; go_simp <;> with_reducible rfl
  simp only [Act.put, List.setIfInBounds_toArray, List.set_cons_succ, List.set_cons_zero]
  refine flow_val ?_ rfl (by kernel_rfl) (by rfl) (fun W hW => ?_) ?_
  rotate_left 1
  · obtain ⟨q0, q1, q2, q3⟩ := HQ.out W hW; go_simp <;> with_reducible rfl
  simp only [Act.put, List.setIfInBounds_toArray, List.set_cons_succ, List.set_cons_zero]
  refine flow_gcall (Mkv wb ([], false)) rfl (by kernel_rfl) (by rfl) (by kernel_rfl) (fun W hW _ => ⟨_, _, _, by go_simp, (mkv_new hW).mono fun e w1 hh => hh⟩) ?_
  rintro v ⟨W0, _, _⟩
  simp only [Act.put, List.setIfInBounds_toArray, List.set_cons_succ, List.set_cons_zero]
  refine flow_turn (v) (Mkv wb (putS ([], false) (numB k.seq)) v) rfl (by kernel_rfl) (by rfl) (by kernel_rfl) (fun W hW hC => ⟨_, _, _, by go_simp, (mkv_num hC k.seq ⟨by have := HL.out; omega, by have := HL.out; omega⟩).mono fun e w1 ⟨he, hb, hk⟩ => ⟨he, ⟨hb, trivial⟩, hk⟩⟩) ?_
  simp only [Act.put, List.setIfInBounds_toArray, List.set_cons_succ, List.set_cons_zero]
  refine flow_turn (v) (Mkv wb (putS (putS ([], false) (numB k.seq)) (numB k.ack)) v) rfl (by kernel_rfl) (by rfl) (by kernel_rfl) (fun W hW hC => ⟨_, _, _, by go_simp, (mkv_num hC k.ack ⟨by have := HL.out; omega, by have := HL.out; omega⟩).mono fun e w1 ⟨he, hb, hk⟩ => ⟨he, ⟨⟨hb, trivial⟩, trivial⟩, hk⟩⟩) ?_
  simp only [Act.put, List.setIfInBounds_toArray, List.set_cons_succ, List.set_cons_zero]
  refine flow_turn (v) (Mkv wb (putS (putS (putS ([], false) (numB k.seq)) (numB k.ack)) (textB (natsOf S))) v) rfl (by kernel_rfl) (by rfl) (by kernel_rfl) (fun W hW hC => ⟨_, _, _, by go_simp, (mkv_text hC S HS.out.1).mono fun e w1 ⟨he, hb, hk⟩ => ⟨he, ⟨⟨⟨hb, trivial⟩, trivial⟩, trivial⟩, hk⟩⟩) ?_
  simp only [Act.put, List.setIfInBounds_toArray, List.set_cons_succ, List.set_cons_zero]
  refine flow_gcall (DoneV wb (packP k)) rfl (by kernel_rfl) (by rfl) (by kernel_rfl) (fun W hW hC => ⟨_, _, _, by go_simp, (mkv_done (hE.out ▸ hC) hE2.out).mono fun e w1 ⟨u, he, hb, hk⟩ => ⟨u, he, ⟨⟨⟨⟨hb, trivial⟩, trivial⟩, trivial⟩, trivial⟩, hk⟩⟩) ?_
  rintro u ⟨W0, _, x, rfl, _, _⟩
  simp only [Act.put, List.setIfInBounds_toArray, List.set_cons_succ, List.set_cons_zero]
  refine flow_val ?_ rfl (by kernel_rfl) (by rfl) (fun W hW => ?_) ?_
  rotate_left 1
  · go_simp <;> with_reducible rfl
  simp only [Act.put, List.setIfInBounds_toArray, List.set_cons_succ, List.set_cons_zero]
  refine flow_val ?_ rfl (by kernel_rfl) (by rfl) (fun W hW => ?_) ?_
  rotate_left 1
  · go_simp <;> with_reducible rfl
  simp only [Act.put, List.setIfInBounds_toArray, List.set_cons_succ, List.set_cons_zero]
  refine flow_val ?_ rfl (by kernel_rfl) (by rfl) (fun W hW => ?_) ?_
  rotate_left 1
  · go_simp <;> with_reducible rfl
  simp only [Act.put, List.setIfInBounds_toArray, List.set_cons_succ, List.set_cons_zero]
  refine flow_val ?_ rfl (by kernel_rfl) (by rfl) (fun W hW => ?_) ?_
  rotate_left 1
  · go_simp <;> with_reducible rfl
  simp only [Act.put, List.setIfInBounds_toArray, List.set_cons_succ, List.set_cons_zero]
  refine flow_done2 ?_
  intro W _ hC
  have HC := Lib.hid hC
  clear hC
  go_wp2
  go_ret2
  obtain ⟨x', e, hx, hx2⟩ := HC.out
  cases e
  exact ⟨x, rfl, hx, HB0.out ▸ HA.out.trans (hx2.mono HA.out.size)⟩
end Go.Proofs.Ytnmbblkfaoihfaa
