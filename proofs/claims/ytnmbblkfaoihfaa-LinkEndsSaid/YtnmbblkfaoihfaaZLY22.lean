/- Joined: Package link: a packet's code: Encode and Decode, and the reference's. Package link: the packet of a code: Decode. The reference's code of a packet. -/
import Derived.Test.YtnmbblkfaoihfaaZLY20
import Derived.Test.YtnmbblkfaoihfaaZLY11
import Derived.Test.YtnmbblkfaoihfaaZLY21
import Derived.Test.YtnmbblkfaoihfaaZLY10
namespace Go.Proofs.Ytnmbblkfaoihfaa
open Go.RowKit

/-- The code of a packet. -/
def packP (k : LPk) : List Nat := numB k.seq ++ (numB k.ack ++ textB k.body)
/-- The packet of a code. -/
def unP (bs : List Nat) : LPk × Bool :=
  let a := numT (bs, false) 0 1099511627776
  let b := numT a.2 0 1099511627776
  let c := textT b.2 2048
  if doneT c.2 = 0 ∧ mayL ⟨a.1, b.1, c.1⟩ = true then (⟨a.1, b.1, c.1⟩, true) else (⟨0, 0, []⟩, false)
theorem mayL_len {k : LPk} (h : mayL k = true) : k.body.length ≤ 2048 ∧ 0 ≤ k.seq ∧ k.seq ≤ 1099511627776 ∧ 0 ≤ k.ack ∧ k.ack ≤ 1099511627776 := by
  unfold mayL at h
  simp only [Bool.and_eq_true, decide_eq_true_eq] at h
  exact ⟨h.1.2, h.1.1.1.1.1, h.1.1.1.1.2, h.1.1.1.2, h.1.1.2⟩
theorem numB_le (n : Int) : (numB n).length ≤ 9 := (numB_length n).2
theorem puts3 {a b c : List Nat} (ha : a.length ≤ 9) (hb : b.length ≤ 9) (hc : c.length ≤ 4096) : putS (putS (putS ([], false) a) b) c = (a ++ (b ++ c), false) := by
  have e1 : putS ([], false) a = (a, false) := putS_fits (s := ([], false)) rfl (by simp; omega)
  have e2 : putS (a, false) b = (a ++ b, false) := putS_fits rfl (by simp; omega)
  have e3 : putS (a ++ b, false) c = (a ++ b ++ c, false) := putS_fits rfl (by simp; omega)
  rw [e1, e2, e3, List.append_assoc]

/-- A maker that a call handed back. -/
def Mkv (w : World) (s : List Nat × Bool) (v : Value) (W : World) : Prop := ∃ p, v = .pointer (some ⟨p, 0, none⟩) ∧ Mk w p s W
theorem mkv_new {w W : World} (hb : Below w.heap.size w W) : Calls Try.prog 47 #[] W fun e W' => ∃ v, e = .returned v ∧ Below w.heap.size w W' ∧ Mkv w ([], false) v W' :=
  (mk_new hb).mono fun _ _ ⟨he, hm⟩ => ⟨_, he, hm.below, _, rfl, hm⟩
theorem mkv_num {w W : World} {s : List Nat × Bool} {v : Value} (h : Mkv w s v W) (n : Int) (hn : I64 n) : Calls Try.prog 48 #[v, .int .i64 n] W fun e W' => e = .returned v ∧ Below w.heap.size w W' ∧ Mkv w (putS s (numB n)) v W' := by
  obtain ⟨p, rfl, h⟩ := h
  exact (mk_num h n hn).mono fun _ _ ⟨he, hm⟩ => ⟨he, hm.below, _, rfl, hm⟩
theorem mkv_text {w W : World} {s : List Nat × Bool} {v : Value} (h : Mkv w s v W) (t : ByteArray) (ht : t.size ≤ 140737488351232) : Calls Try.prog 49 #[v, .string t] W fun e W' => e = .returned v ∧ Below w.heap.size w W' ∧ Mkv w (putS s (textB (natsOf t))) v W' := by
  obtain ⟨p, rfl, h⟩ := h
  exact (mk_text h t ht).mono fun _ _ ⟨he, hm⟩ => ⟨he, hm.below, _, rfl, hm⟩
/-- What a maker's Done hands back, where it was not too long. -/
def DoneV (w : World) (bs : List Nat) (u : Value) (W : World) : Prop := ∃ x, u = .tuple #[x, .int .i64 0] ∧ Bs W x bs ∧ Below w.heap.size w W
theorem mkv_done {w W : World} {bs : List Nat} {v : Value} (h : Mkv w (bs, false) v W) (hl : bs.length ≤ 262144) : Calls Try.prog 50 #[v] W fun e W' => ∃ u, e = .returned u ∧ Below w.heap.size w W' ∧ DoneV w bs u W' := by
  obtain ⟨p, rfl, h⟩ := h
  exact (mk_done h hl).mono fun _ _ ⟨x, he, hb, _, _, hm⟩ => ⟨_, he, hm.below, x, rfl, hb, hm.below⟩

theorem lenc_not (k : LPk) (A : Option Addr) (c : Nat) (w : World) (hb : k.body.length ≤ 9223372036854775807) (hm : mayL k = false) :
    Calls Try.prog 28 #[.agg #[.int .i64 k.seq, .int .i64 k.ack, .slice A k.body.length c]] w fun e w' => e = .returned (.tuple #[.slice none 0 0, .int .i64 1]) ∧ Below w.heap.size w w' := by
  have HM := Lib.hid hm
  clear hm
  go_enter Try.func28, Try.ntmps28
  go_wp2_with fail
  refine (lmay_any k A c _ hb).mono ?_
  rintro e w1 ⟨rfl, h1⟩
  rw [HM.out]
  have H1 := Lib.hid h1
  clear h1 hb
  go_wp2
  go_ret2
  exact ⟨rfl, (((Below.refl _ w).alloc (Nat.le_refl _) _).trans (H1.out.mono (by simp)))⟩

set_option maxRecDepth 100000 in
set_option maxHeartbeats 2000000 in
theorem lenc_ok (k : LPk) (A : Option Addr) (c : Nat) (w : World) (hb : Bs w (.slice A k.body.length c) k.body) (h256 : ∀ x ∈ k.body, x < 256) (hm : mayL k = true) :
    Calls Try.prog 28 #[.agg #[.int .i64 k.seq, .int .i64 k.ack, .slice A k.body.length c]] w fun e w' => ∃ x, e = .returned (.tuple #[x, .int .i64 0]) ∧ Bs w' x (packP k) ∧ Below w.heap.size w w' := by
  have HM := Lib.hid hm
  have hl := mayL_len hm
  have HL := Lib.hid hl
  have hlen : k.body.length ≤ 9223372036854775807 := by omega
  have bA : Below w.heap.size w (w.alloc (.cells #[.int .i64 k.seq, .int .i64 k.ack, .slice A k.body.length c] 43)) := (Below.refl _ w).alloc (Nat.le_refl _) _
  have HA := Lib.hid bA
  have hq : ∀ W, Below (w.heap.size + 1) (w.alloc (.cells #[.int .i64 k.seq, .int .i64 k.ack, .slice A k.body.length c] 43)) W → W.cell? ⟨w.heap.size, 0, none⟩ = some (.int .i64 k.seq) ∧ W.cell? ⟨w.heap.size, 1, none⟩ = some (.int .i64 k.ack) ∧ W.cell? ⟨w.heap.size, 2, none⟩ = some (.slice A k.body.length c) ∧ (convert 41 9 (.slice A k.body.length c)).run Try.prog W = .ok (.string (strOf k.body)) W := fun W hW => by
    have e := (hW.block w.heap.size (by omega)).trans (block_new w _)
    exact ⟨cell_at e 0, cell_at e 1, cell_at e 2, run_str W A _ c k.body (bs_rd ((hb.below bA).below (by simpa using hW))) h256⟩
  have HQ := Lib.hid hq
  have hS : (strOf k.body).size ≤ 140737488351232 ∧ natsOf (strOf k.body) = k.body := by
    refine ⟨by simp [strOf, ByteArray.size]; omega, ?_⟩
    unfold natsOf strOf
    simp only [List.map_map]
    exact (List.map_congr_left (fun x hx => by simp; exact h256 x hx)).trans (List.map_id _)
  have HS := Lib.hid hS
  clear bA hq hS hb h256 hm hl
  go_enter Try.func28, Try.ntmps28
  go_wp2_with fail
  refine (lmay_any k A c _ hlen).mono ?_
  rintro e w1 ⟨rfl, h1⟩
  rw [HM.out]
  have H1 := Lib.hid h1
  clear h1
  obtain ⟨wb, hwb⟩ : ∃ wb, w.alloc (.cells #[.int .i64 k.seq, .int .i64 k.ack, .slice A k.body.length c] 43) = wb := ⟨_, rfl⟩
  have hwz : wb.heap.size = w.heap.size + 1 := by rw [← hwb]; simp
  rw [hwb] at H1 HA HQ
  rw [← hwz] at HQ
  obtain ⟨S, hSe⟩ : ∃ S, strOf k.body = S := ⟨_, rfl⟩
  rw [hSe] at HQ HS
  obtain ⟨b0, hb0⟩ : ∃ b0, w.heap.size = b0 := ⟨_, rfl⟩
  have HB0 := Lib.hid hb0
  rw [hb0] at HQ
  rw [hb0]
  clear hwb hwz hSe hb0
  go_wp2_with fail
  have hE : Hid (putS (putS (putS ([], false) (numB k.seq)) (numB k.ack)) (textB (natsOf S)) = (packP k, false)) := Lib.hid (by
    have h := HL.out
    have h1 := numB_le k.body.length
    rw [HS.out.2]
    exact puts3 (numB_le _) (numB_le _) (by simp [textB]; omega))
  have hE2 : Hid ((packP k).length ≤ 262144) := Lib.hid (by
    have h := HL.out
    have h1 := numB_le k.body.length
    have h2 := numB_le k.seq
    have h3 := numB_le k.ack
    simp [packP, textB]
    omega)
  refine wp_region_flow2 (fun W => Below wb.heap.size wb W) Nil_ [1, 2, 4, 5, 7, 8, 9, 0, 3, 6, 10, 11, 12, 13, 14, 15] (by kernel_rfl) (by kernel_rfl) (by kernel_rfl) H1.out.drew trivial ?_
  refine flow_val ?_ rfl (by kernel_rfl) (by rfl) (fun W hW => ?_) ?_
  rotate_left 1
  · go_simp <;> with_reducible rfl
  simp only [Act.put, List.setIfInBounds_toArray, List.set_cons_succ, List.set_cons_zero]
  refine flow_val ?_ rfl (by kernel_rfl) (by rfl) (fun W hW => ?_) ?_
  rotate_left 1
  · obtain ⟨q0, q1, q2, q3⟩ := HQ.out W hW; go_simp <;> with_reducible rfl
  simp only [Act.put, List.setIfInBounds_toArray, List.set_cons_succ, List.set_cons_zero]
  refine flow_val ?_ rfl (by kernel_rfl) (by rfl) (fun W hW => ?_) ?_
  rotate_left 1
  · go_simp <;> with_reducible rfl
  simp only [Act.put, List.setIfInBounds_toArray, List.set_cons_succ, List.set_cons_zero]
  refine flow_val ?_ rfl (by kernel_rfl) (by rfl) (fun W hW => ?_) ?_
  rotate_left 1
  · obtain ⟨q0, q1, q2, q3⟩ := HQ.out W hW; go_simp <;> with_reducible rfl
  simp only [Act.put, List.setIfInBounds_toArray, List.set_cons_succ, List.set_cons_zero]
  refine flow_val ?_ rfl (by kernel_rfl) (by rfl) (fun W hW => ?_) ?_
  rotate_left 1
  · go_simp <;> with_reducible rfl
  simp only [Act.put, List.setIfInBounds_toArray, List.set_cons_succ, List.set_cons_zero]
  refine flow_val ?_ rfl (by kernel_rfl) (by rfl) (fun W hW => ?_) ?_
  rotate_left 1
  · obtain ⟨q0, q1, q2, q3⟩ := HQ.out W hW; go_simp <;> with_reducible rfl
  simp only [Act.put, List.setIfInBounds_toArray, List.set_cons_succ, List.set_cons_zero]
  refine flow_val ?_ rfl (by kernel_rfl) (by rfl) (fun W hW => ?_) ?_
  rotate_left 1
  · obtain ⟨q0, q1, q2, q3⟩ := HQ.out W hW; go_simp <;> with_reducible rfl
  simp only [Act.put, List.setIfInBounds_toArray, List.set_cons_succ, List.set_cons_zero]
  refine flow_gcall (Mkv wb ([], false)) rfl (by kernel_rfl) (by rfl) (by kernel_rfl) (fun W hW _ => ⟨_, _, _, by go_simp, (mkv_new hW).mono fun e w1 hh => hh⟩) ?_
  rintro v ⟨W0, _, _⟩
  simp only [Act.put, List.setIfInBounds_toArray, List.set_cons_succ, List.set_cons_zero]
  refine flow_turn (v) (Mkv wb (putS ([], false) (numB k.seq)) v) rfl (by kernel_rfl) (by rfl) (by kernel_rfl) (fun W hW hC => ⟨_, _, _, by go_simp, (mkv_num hC k.seq ⟨by have := HL.out; omega, by have := HL.out; omega⟩).mono fun e w1 ⟨he, hb, hk⟩ => ⟨he, ⟨hb, trivial⟩, hk⟩⟩) ?_
  simp only [Act.put, List.setIfInBounds_toArray, List.set_cons_succ, List.set_cons_zero]
  refine flow_turn (v) (Mkv wb (putS (putS ([], false) (numB k.seq)) (numB k.ack)) v) rfl (by kernel_rfl) (by rfl) (by kernel_rfl) (fun W hW hC => ⟨_, _, _, by go_simp, (mkv_num hC k.ack ⟨by have := HL.out; omega, by have := HL.out; omega⟩).mono fun e w1 ⟨he, hb, hk⟩ => ⟨he, ⟨⟨hb, trivial⟩, trivial⟩, hk⟩⟩) ?_
  simp only [Act.put, List.setIfInBounds_toArray, List.set_cons_succ, List.set_cons_zero]
  refine flow_turn (v) (Mkv wb (putS (putS (putS ([], false) (numB k.seq)) (numB k.ack)) (textB (natsOf S))) v) rfl (by kernel_rfl) (by rfl) (by kernel_rfl) (fun W hW hC => ⟨_, _, _, by go_simp, (mkv_text hC S HS.out.1).mono fun e w1 ⟨he, hb, hk⟩ => ⟨he, ⟨⟨⟨hb, trivial⟩, trivial⟩, trivial⟩, hk⟩⟩) ?_
  simp only [Act.put, List.setIfInBounds_toArray, List.set_cons_succ, List.set_cons_zero]
  refine flow_gcall (DoneV wb (packP k)) rfl (by kernel_rfl) (by rfl) (by kernel_rfl) (fun W hW hC => ⟨_, _, _, by go_simp, (mkv_done (hE.out ▸ hC) hE2.out).mono fun e w1 ⟨u, he, hb, hk⟩ => ⟨u, he, ⟨⟨⟨⟨hb, trivial⟩, trivial⟩, trivial⟩, trivial⟩, hk⟩⟩) ?_
  rintro u ⟨W0, _, x, rfl, _, _⟩
  simp only [Act.put, List.setIfInBounds_toArray, List.set_cons_succ, List.set_cons_zero]
  refine flow_val ?_ rfl (by kernel_rfl) (by rfl) (fun W hW => ?_) ?_
  rotate_left 1
  · go_simp <;> with_reducible rfl
  simp only [Act.put, List.setIfInBounds_toArray, List.set_cons_succ, List.set_cons_zero]
  refine flow_val ?_ rfl (by kernel_rfl) (by rfl) (fun W hW => ?_) ?_
  rotate_left 1
  · go_simp <;> with_reducible rfl
  simp only [Act.put, List.setIfInBounds_toArray, List.set_cons_succ, List.set_cons_zero]
  refine flow_val ?_ rfl (by kernel_rfl) (by rfl) (fun W hW => ?_) ?_
  rotate_left 1
  · go_simp <;> with_reducible rfl
  simp only [Act.put, List.setIfInBounds_toArray, List.set_cons_succ, List.set_cons_zero]
  refine flow_val ?_ rfl (by kernel_rfl) (by rfl) (fun W hW => ?_) ?_
  rotate_left 1
  · go_simp <;> with_reducible rfl
  simp only [Act.put, List.setIfInBounds_toArray, List.set_cons_succ, List.set_cons_zero]
  refine flow_done2 ?_
  intro W _ hC
  have HC := Lib.hid hC
  clear hC
  go_wp2
  go_ret2
  obtain ⟨x', e, hx, hx2⟩ := HC.out
  cases e
  exact ⟨x, rfl, hx, HB0.out ▸ HA.out.trans (hx2.mono HA.out.size)⟩
end Go.Proofs.Ytnmbblkfaoihfaa

namespace Go.Proofs.Ytnmbblkfaoihfaa
open Go.RowKit

/-- What Decode answers. -/
def RetDec (ok no : Value) (r : LPk × Bool) (w : World) (e : Ending) (w' : World) : Prop :=
  ∃ x, e = .returned (.tuple #[.agg #[.int .i64 r.1.seq, .int .i64 r.1.ack, x], if r.2 = true then ok else no]) ∧ Bs w' x r.1.body ∧ Below w.heap.size w w'
theorem bs_nil (w : World) : Bs w (.slice none 0 0) [] := ⟨none, 0, rfl, Nat.le_refl _, Nat.zero_le _, Rd.nil⟩
theorem Bs.keepF {w w' : World} {g n c : Nat} {bs : List Nat} {S : List Nat} (h : Bs w (.slice (some ⟨g, 0, none⟩) n c) bs) (f : Fr 0 [] S w w') (hg : g ∉ S) : Bs w' (.slice (some ⟨g, 0, none⟩) n c) bs := by
  obtain ⟨A, c', e, h1, h2, h3⟩ := h
  cases e
  exact ⟨_, _, rfl, h1, h2, h3.frame f (fun _ a ha => by cases ha; exact hg)⟩
theorem strOf_size (l : List Nat) : (strOf l).size = l.length := by simp [strOf, ByteArray.size]
theorem natsOf_strOf {l : List Nat} (h : ∀ x ∈ l, x < 256) : natsOf (strOf l) = l := by
  unfold natsOf strOf
  simp only [List.map_map]
  exact (List.map_congr_left (fun x hx => by simp; exact h x hx)).trans (List.map_id _)
theorem textT_le (s : List Nat × Bool) (m : Int) : (textT s m).1.length ≤ s.1.length := by
  have h := numT_le s 0 m
  unfold textT
  generalize numT s 0 m = r at h
  simp only
  split
  · simp
  · split
    · simp
    · simp; omega

set_option maxRecDepth 100000 in
set_option maxHeartbeats 4000000 in
theorem ldec_any (v : Value) (bs : List Nat) (w : World) (hv : Bs w v bs) (hl : ∀ b ∈ bs, b < 256) (ht : bs.length ≤ 140737488355328) :
    Calls Try.prog 29 #[v] w (RetDec (.int .i64 0) (.int .i64 10) (unP bs) w) := by
  obtain ⟨n1, s1, e1⟩ : ∃ n s, numT (bs, false) 0 1099511627776 = (n, s) := ⟨_, _, rfl⟩
  obtain ⟨n2, s2, e2⟩ : ∃ n s, numT s1 0 1099511627776 = (n, s) := ⟨_, _, rfl⟩
  obtain ⟨t3, s3, e3⟩ : ∃ n s, textT s2 2048 = (n, s) := ⟨_, _, rfl⟩
  have hun : unP bs = if doneT s3 = 0 ∧ mayL ⟨n1, n2, t3⟩ = true then (⟨n1, n2, t3⟩, true) else (⟨0, 0, []⟩, false) := by
    unfold unP
    simp only [e1, e2, e3]
  have hl1 : (∀ b ∈ s1.1, b < 256) ∧ s1.1.length ≤ bs.length := by have h1 := numT_lt (s := (bs, false)) hl 0 1099511627776; have h2 := numT_le (bs, false) 0 1099511627776; rw [e1] at h1 h2; exact ⟨h1, h2⟩
  have hl2 : (∀ b ∈ s2.1, b < 256) ∧ s2.1.length ≤ bs.length := by have h1 := numT_lt hl1.1 0 1099511627776; have h2 := numT_le s1 0 1099511627776; rw [e2] at h1 h2; exact ⟨h1, Nat.le_trans h2 hl1.2⟩
  have hl3 : (∀ b ∈ t3, b < 256) ∧ t3.length ≤ bs.length := by have h1 := (textT_lt hl2.1 2048).1; have h2 := textT_le s2 2048; rw [e3] at h1 h2; exact ⟨h1, Nat.le_trans h2 hl2.2⟩
  have HUN := Lib.hid hun
  have E1 := Lib.hid e1
  have E2 := Lib.hid e2
  have E3 := Lib.hid e3
  have HL := Lib.hid hl
  have HT := Lib.hid ht
  have HL3 := Lib.hid hl3
  have HV := Lib.hid hv
  obtain ⟨A, c, rfl, _, _, _⟩ := hv
  have hbA : Below w.heap.size w (w.alloc (.cells #[.int .i64 0, .int .i64 0, .slice none 0 0] 43)) := (Below.refl _ _).alloc (Nat.le_refl _) _
  have HBA := Lib.hid hbA
  have hr0 := block_new w (.cells #[.int .i64 0, .int .i64 0, .slice none 0 0] 43)
  have HR0 := Lib.hid hr0
  clear hun e1 e2 e3 hl ht hl1 hl2 hl3 hbA hr0
  go_enter Try.func29, Try.ntmps29
  go_wp2_with fail
  refine (take_any _ bs _ (HV.out.below HBA.out) HL.out HT.out).mono ?_
  rintro e w1 ⟨p, D, rfl, hp, hT, hD, hDf, hb1⟩
  have HP := Lib.hid hp
  have HT1 := Lib.hid hT
  have HD := Lib.hid hD
  have HDf := Lib.hid hDf
  have HB1 := Lib.hid hb1
  clear hp hT hD hDf hb1
  go_wp2_with fail
  refine (tnum_any p D _ 0 1099511627776 w1 HT1.out HD.out).mono ?_
  rintro e w2 ⟨rfl, hT2, hf2⟩
  rw [E1.out] at hT2 ⊢
  have HT2 := Lib.hid hT2
  have HF2 := Lib.hid hf2
  clear hT2 hf2
  go_wp2_with fail
  refine (tnum_any p D _ 0 1099511627776 w2 HT2.out HD.out).mono ?_
  rintro e w3 ⟨rfl, hT3, hf3⟩
  rw [E2.out] at hT3 ⊢
  have HT3 := Lib.hid hT3
  have HF3 := Lib.hid hf3
  clear hT3 hf3
  go_wp2_with fail
  have hbq : Below w3.heap.size w3 (w3.alloc (.cells #[.int .i64 n1, .int .i64 n2, .slice none 0 0] 43)) := (Below.refl _ _).alloc (Nat.le_refl _) _
  refine (ttext_any p D s2 2048 _ (HT3.out.below hbq) HD.out).mono ?_
  have HBQ := Lib.hid hbq
  have HQ3 := Lib.hid (block_new w3 (.cells #[.int .i64 n1, .int .i64 n2, .slice none 0 0] 43))
  rintro e w4 ⟨rfl, hT4, hf4⟩
  rw [E3.out] at hT4 ⊢
  have HT4 := Lib.hid hT4
  have HF4 := Lib.hid hf4
  have hp3 : p < w3.heap.size := HT3.out.lt
  have HP3 := Lib.hid hp3
  have hz4 : w3.heap.size < w4.heap.size := by have := hf4.size; simp at this; omega
  obtain ⟨c5, w5, hcv, hbs5, hb5, hz5⟩ := str_bytes w4 (strOf t3) (by rw [strOf_size]; have := HL3.out.2; have := HT.out; unfold maxLen; omega)
  rw [strOf_size] at hcv hbs5
  rw [natsOf_strOf HL3.out.1] at hbs5
  have hq5 : w5.heap[w3.heap.size]? = some (.cells #[.int .i64 n1, .int .i64 n2, .slice none 0 0] 43 (0, 0)) := (hb5.block _ hz4).trans (hf4.keep0 HQ3.out (by simp; omega))
  have hT5 : IsT w5 116 p D s3 := HT4.out.below hb5
  obtain ⟨q, hq⟩ : ∃ q, w3.heap.size = q := ⟨_, rfl⟩
  rw [hq] at hq5 hp3
  have hf6 : Fr 0 [] [q] w5 (w5.setCell ⟨q, 2, none⟩ (.slice (some ⟨w4.heap.size, 0, none⟩) t3.length c5)) := (Fr.refl w5).setCell (p := ⟨q, 2, none⟩) _ (Nat.zero_le _) (.inl (by simp))
  have hq6 : (w5.setCell ⟨q, 2, none⟩ (.slice (some ⟨w4.heap.size, 0, none⟩) t3.length c5)).heap[q]? = some (.cells #[.int .i64 n1, .int .i64 n2, .slice (some ⟨w4.heap.size, 0, none⟩) t3.length c5] 43 (0, 0)) := by rw [block_set hq5]; rfl
  have hT6 : IsT (w5.setCell ⟨q, 2, none⟩ (.slice (some ⟨w4.heap.size, 0, none⟩) t3.length c5)) 116 p D s3 := hT5.keep hf6 (by simp; omega) (fun d hd => by
    have h1 := (HDf.out d hd).2
    have h2 := HF2.out.size
    have h3 := HF3.out.size
    simp
    omega)
  have hb6 : Below (w.heap.size + 1) w1 (w5.setCell ⟨q, 2, none⟩ (.slice (some ⟨w4.heap.size, 0, none⟩) t3.length c5)) := by
    have hp0 := HP.out
    simp at hp0
    have h1 := HB1.out.size
    have h2 := HF2.out.size
    have h3 := HF3.out.size
    have h4 := hf4.size
    have k1 : Below (w.heap.size + 1) w1 w3 := (HF2.out.belowT hp0 (by simpa using h1)).trans (HF3.out.belowT hp0 (by simp at h1; omega))
    have k2 : Below (w.heap.size + 1) w3 w4 := (hbq.mono (by simp at h1; omega)).trans (hf4.belowT hp0 (by simp at h1 ⊢; omega))
    exact k1.trans (k2.trans ((hb5.mono (by simp at h1 h4; omega)).trans (hf6.belowT (by simp at h1; omega) (by have := hb5.size; simp at h1 h4; omega))))
  clear hT4 hf4 hbq
  have HQ5 := Lib.hid hq5
  have HB5 := Lib.hid hb5
  have HZ5 := Lib.hid hz5
  have HBS := Lib.hid hbs5
  have HT5 := Lib.hid hT5
  have HF6 := Lib.hid hf6
  have HQ6 := Lib.hid hq6
  have HT6 := Lib.hid hT6
  have HB6 := Lib.hid hb6
  have x2 : w5.cell? ⟨q, 2, none⟩ = some (.slice none 0 0) := cell_at hq5 2
  have xf := frozen_at hq5 2
  clear hq5 hb5 hz5 hbs5 hT5 hf6 hq6 hz4 hp3 hT6 hb6
  rw [hq]
  have HQe := Lib.hid hq
  clear hq
  go_wp2_with fail
  refine (tdone_any p D s3 _ HT6.out).mono ?_
  rintro e w6 ⟨rfl, rfl⟩
  have HB06 : Hid (Below w.heap.size w (w5.setCell ⟨q, 2, none⟩ (.slice (some ⟨w4.heap.size, 0, none⟩) t3.length c5))) := Lib.hid (HBA.out.trans ((HB1.out.mono (by simp)).trans (HB6.out.mono (by omega))))
  have hr6 : (w5.setCell ⟨q, 2, none⟩ (.slice (some ⟨w4.heap.size, 0, none⟩) t3.length c5)).heap[w.heap.size]? = some (.cells #[.int .i64 0, .int .i64 0, .slice none 0 0] 43 (0, 0)) := (HB6.out.block _ (by omega)).trans ((HB1.out.block _ (by simp)).trans HR0.out)
  have hb56 : Hid (Bs (w5.setCell ⟨q, 2, none⟩ (.slice (some ⟨w4.heap.size, 0, none⟩) t3.length c5)) (.slice (some ⟨w4.heap.size, 0, none⟩) t3.length c5) t3) := Lib.hid (HBS.out.keepF HF6.out (by have h1 := HF4.out.size; have h2 := HQe.out; simp at h1; simp; omega))
  obtain ⟨w6, hw6⟩ : ∃ w6, w5.setCell ⟨q, 2, none⟩ (.slice (some ⟨w4.heap.size, 0, none⟩) t3.length c5) = w6 := ⟨_, rfl⟩
  rw [hw6] at HQ6 HB06 hr6 hb56 ⊢
  obtain ⟨D3, hD3⟩ : ∃ d, doneT s3 = d := ⟨_, rfl⟩
  rw [hD3] at HUN ⊢
  have y0 : w6.cell? ⟨q, 0, none⟩ = some (.int .i64 n1) := cell_at HQ6.out 0
  have y1 : w6.cell? ⟨q, 1, none⟩ = some (.int .i64 n2) := cell_at HQ6.out 1
  have y2 : w6.cell? ⟨q, 2, none⟩ = some (.slice (some ⟨w4.heap.size, 0, none⟩) t3.length c5) := cell_at HQ6.out 2
  have z0 : w6.cell? ⟨w.heap.size, 0, none⟩ = some (.int .i64 0) := cell_at hr6 0
  have z1 : w6.cell? ⟨w.heap.size, 1, none⟩ = some (.int .i64 0) := cell_at hr6 1
  have z2 : w6.cell? ⟨w.heap.size, 2, none⟩ = some (.slice none 0 0) := cell_at hr6 2
  have zf0 : w6.frozen? ⟨w.heap.size, 0, none⟩ = false := frozen_at hr6 0
  have zf1 : w6.frozen? ⟨w.heap.size, 1, none⟩ = false := frozen_at hr6 1
  have zf2 : w6.frozen? ⟨w.heap.size, 2, none⟩ = false := frozen_at hr6 2
  clear hw6 hD3 x2 xf
  by_cases hd : D3 = 0
  · subst hd
    clear z0 z1 z2 zf0 zf1 zf2
    go_wp2_with fail
    refine (lmay_any ⟨n1, n2, t3⟩ _ c5 w6 (by have := HL3.out.2; have := HT.out; simp only; omega)).mono ?_
    rintro e w7 ⟨rfl, h7⟩
    have hq7 := (h7.block _ (lt_of_block HQ6.out)).trans HQ6.out
    have hr7 := (h7.block _ (lt_of_block hr6)).trans hr6
    have hb57 : Hid (Bs w7 (.slice (some ⟨w4.heap.size, 0, none⟩) t3.length c5) t3) := Lib.hid (hb56.out.below h7)
    have HB07 : Hid (Below w.heap.size w w7) := Lib.hid (HB06.out.trans (h7.mono HB06.out.size))
    clear y0 y1 y2 h7 hr6
    have HR7 := Lib.hid hr7
    have z0 : w7.cell? ⟨w.heap.size, 0, none⟩ = some (.int .i64 0) := cell_at hr7 0
    have z1 : w7.cell? ⟨w.heap.size, 1, none⟩ = some (.int .i64 0) := cell_at hr7 1
    have z2 : w7.cell? ⟨w.heap.size, 2, none⟩ = some (.slice none 0 0) := cell_at hr7 2
    have zf0 : w7.frozen? ⟨w.heap.size, 0, none⟩ = false := frozen_at hr7 0
    have zf1 : w7.frozen? ⟨w.heap.size, 1, none⟩ = false := frozen_at hr7 1
    have zf2 : w7.frozen? ⟨w.heap.size, 2, none⟩ = false := frozen_at hr7 2
    have y0 : w7.cell? ⟨q, 0, none⟩ = some (.int .i64 n1) := cell_at hq7 0
    have y1 : w7.cell? ⟨q, 1, none⟩ = some (.int .i64 n2) := cell_at hq7 1
    have y2 : w7.cell? ⟨q, 2, none⟩ = some (.slice (some ⟨w4.heap.size, 0, none⟩) t3.length c5) := cell_at hq7 2
    clear hr7 hq7
    cases hm : mayL ⟨n1, n2, t3⟩
    · have HU : Hid (unP bs = (⟨0, 0, []⟩, false)) := Lib.hid (by rw [HUN.out, if_neg (by simp [hm])])
      clear hm
      go_wp2_with fail
      obtain ⟨W9, h9, u0, u1, u2, _, hB⟩ := pkt_store HR7.out (.int .i64 0) (.int .i64 0) (.slice none 0 0)
      rw [h9]
      refine bodyPost_ret (v := .tuple #[.agg #[.int .i64 0, .int .i64 0, .slice none 0 0], .int .i64 10]) (by simp [results, Try.f29, go_sem, u0, u1, u2]) rfl ?_
      exact ⟨_, by rw [HU.out]; rfl, by rw [HU.out]; exact bs_nil _, HB07.out.trans (hB _ (Nat.le_refl _))⟩
    · have HU : Hid (unP bs = (⟨n1, n2, t3⟩, true)) := Lib.hid (by rw [HUN.out, if_pos (by simp [hm])])
      clear hm
      go_wp2_with fail
      obtain ⟨W9, h9, u0, u1, u2, hf, hB⟩ := pkt_store HR7.out (.int .i64 n1) (.int .i64 n2) (.slice (some ⟨w4.heap.size, 0, none⟩) t3.length c5)
      rw [h9]
      refine bodyPost_ret (v := .tuple #[.agg #[.int .i64 n1, .int .i64 n2, .slice (some ⟨w4.heap.size, 0, none⟩) t3.length c5], .int .i64 0]) (by simp [results, Try.f29, go_sem, u0, u1, u2]) rfl ?_
      have hne : w4.heap.size ≠ w.heap.size := by
        have h1 := HB1.out.size
        have h2 := HF2.out.size
        have h3 := HF3.out.size
        have h4 := HF4.out.size
        simp at h1 h4
        omega
      exact ⟨_, by rw [HU.out]; rfl, by rw [HU.out]; exact hb57.out.keepF hf (by simpa using hne), HB07.out.trans (hB _ (Nat.le_refl _))⟩
  · have hd' : (D3 != 0) = true := by simpa using hd
    have HU : Hid (unP bs = (⟨0, 0, []⟩, false)) := Lib.hid (by rw [HUN.out, if_neg (by simp [hd])])
    have HR6 := Lib.hid hr6
    clear hd hr6
    go_wp2_with fail
    obtain ⟨W9, h9, u0, u1, u2, _, hB⟩ := pkt_store HR6.out (.int .i64 0) (.int .i64 0) (.slice none 0 0)
    rw [h9]
    refine bodyPost_ret (v := .tuple #[.agg #[.int .i64 0, .int .i64 0, .slice none 0 0], .int .i64 10]) (by simp [results, Try.f29, go_sem, u0, u1, u2]) rfl ?_
    exact ⟨_, by rw [HU.out]; rfl, by rw [HU.out]; exact bs_nil _, HB06.out.trans (hB _ (Nat.le_refl _))⟩
end Go.Proofs.Ytnmbblkfaoihfaa

namespace Go.Proofs.Ytnmbblkfaoihfaa
open Go.RowKit

set_option maxRecDepth 100000 in
set_option maxHeartbeats 2000000 in
theorem renc_ok (k : LPk) (A : Option Addr) (c : Nat) (w : World) (hb : Bs w (.slice A k.body.length c) k.body) (h256 : ∀ x ∈ k.body, x < 256) (hm : mayL k = true) :
    Calls Try.prog 33 #[.agg #[.int .i64 k.seq, .int .i64 k.ack, .slice A k.body.length c]] w fun e w' => ∃ x, e = .returned x ∧ Bs w' x (packP k) ∧ Below w.heap.size w w' := by
  have HL := Lib.hid (mayL_len hm)
  have HBy := Lib.hid hb
  have H256 := Lib.hid h256
  obtain ⟨wa, hwa⟩ : ∃ wa, (w.alloc (.cells #[.int .i64 k.seq, .int .i64 k.ack, .slice A k.body.length c] 43)).alloc (.cells #[.slice none 0 0, .bool false] 106) = wa := ⟨_, rfl⟩
  have hba : Below w.heap.size w wa := by rw [← hwa]; exact ((Below.refl _ w).alloc (Nat.le_refl _) _).alloc (by simp) _
  have hza : wa.heap.size = w.heap.size + 2 := by rw [← hwa]; simp
  have hq0 : wa.heap[w.heap.size]? = some (.cells #[.int .i64 k.seq, .int .i64 k.ack, .slice A k.body.length c] 43 (0, 0)) := by
    rw [← hwa]
    exact (((Below.refl (w.heap.size + 1) (w.alloc (.cells #[.int .i64 k.seq, .int .i64 k.ack, .slice A k.body.length c] 43))).alloc (by simp) _).block _ (by omega)).trans (block_new w _)
  have hT : IsT wa 106 (w.heap.size + 1) none ([], false) := by
    refine ⟨none, 0, ?_, Nat.le_refl _, Nat.zero_le _, Rd.nil, by simp, by simp, .inl rfl⟩
    rw [← hwa]
    have := block_new (w.alloc (.cells #[.int .i64 k.seq, .int .i64 k.ack, .slice A k.body.length c] 43)) (.cells #[.slice none 0 0, .bool false] 106)
    simpa using this
  have HWA := Lib.hid hwa
  have HBA := Lib.hid hba
  have HZA := Lib.hid hza
  have HQ0 := Lib.hid hq0
  have HT := Lib.hid hT
  have e0 : wa.cell? ⟨w.heap.size, 0, none⟩ = some (.int .i64 k.seq) := cell_at hq0 0
  clear hwa hba hza hq0 hT hb h256 hm
  go_enter Try.func33, Try.ntmps33
  go_wp2_with fail
  rw [HWA.out]
  refine (rmnum_any (w.heap.size + 1) none _ k.seq wa HT.out (by simp) ⟨by have := HL.out; omega, by have := HL.out; omega⟩).mono ?_
  rintro e w1 ⟨D1, rfl, hT1, hD1, hg1, hf1⟩
  have hq1 := hf1.keep0 HQ0.out (by simp)
  have HT1 := Lib.hid hT1
  have HD1 := Lib.hid hD1
  have HG1 := Lib.hid hg1
  have HF1 := Lib.hid hf1
  have HQ1 := Lib.hid hq1
  have e1 : w1.cell? ⟨w.heap.size, 1, none⟩ = some (.int .i64 k.ack) := cell_at hq1 1
  clear hT1 hD1 hg1 hf1 hq1 e0
  go_wp2_with fail
  refine (rmnum_any (w.heap.size + 1) D1 _ k.ack w1 HT1.out HD1.out ⟨by have := HL.out; omega, by have := HL.out; omega⟩).mono ?_
  rintro e w2 ⟨D2, rfl, hT2, hD2, hg2, hf2⟩
  have hq2 := hf2.keep0 HQ1.out (by simp)
  have HT2 := Lib.hid hT2
  have HD2 := Lib.hid hD2
  have HF2 := Lib.hid hf2
  have e2 : w2.cell? ⟨w.heap.size, 2, none⟩ = some (.slice A k.body.length c) := cell_at hq2 2
  have hs2 := run_str w2 A _ c k.body (((bs_rd HBy.out).below HBA.out).frame (HF1.out.trans hf2) (fun hn a ha => by
    obtain ⟨g, o, e, hg, _⟩ := (bs_rd HBy.out).2 hn
    rw [e] at ha
    cases ha
    simp
    omega)) H256.out
  have hsz : (strOf k.body).size ≤ 140737488351232 := by rw [strOf_size]; have := HL.out; omega
  have HNat := Lib.hid (natsOf_strOf H256.out)
  obtain ⟨S, hSe⟩ : ∃ S, strOf k.body = S := ⟨_, rfl⟩
  rw [hSe] at hs2 hsz HNat
  have HSz := Lib.hid hsz
  clear hT2 hD2 hg2 hf2 hq2 e1 hsz hSe
  go_wp2_with fail
  refine (rmtext_any (w.heap.size + 1) D2 _ S w2 HT2.out HD2.out HSz.out).mono ?_
  rintro e w3 ⟨D3, rfl, hT3, hD3, hg3, hf3⟩
  have hE : putS (putS (putS ([], false) (numB k.seq)) (numB k.ack)) (textB (natsOf S)) = (packP k, false) := by
    have h := HL.out
    have h1 := numB_le k.body.length
    rw [HNat.out]
    exact puts3 (numB_le _) (numB_le _) (by simp [textB]; omega)
  rw [hE] at hT3
  have HB := Lib.hid ((HBA.out.trans (HF1.out.belowT (Nat.le_succ _) (HBA.out.size))).trans ((HF2.out.belowT (Nat.le_succ _) (Nat.le_trans HBA.out.size HF1.out.size)).trans (hf3.belowT (Nat.le_succ _) (Nat.le_trans (Nat.le_trans HBA.out.size HF1.out.size) HF2.out.size))))
  obtain ⟨A3, c3, k1, k2, k3, k4, _⟩ := hT3
  have HK := Lib.hid (show Bs w3 (.slice A3 (packP k).length c3) (packP k) from ⟨_, _, rfl, k2, k3, k4⟩)
  have e3 : w3.cell? ⟨w.heap.size + 1, 0, none⟩ = some (.slice A3 (packP k).length c3) := cell_at k1 0
  clear hD3 hg3 hf3 hE k1 k2 k3 k4 e2 hs2
  go_wp2
  go_ret
  exact ⟨_, rfl, HK.out, HB.out⟩
end Go.Proofs.Ytnmbblkfaoihfaa
