/- Package link: Tick, the plain part; lists of packets in memory. -/
import Derived.Test.YtnmbblkfaoihfaaLSend
namespace Go.Proofs.Ytnmbblkfaoihfaa
open Go.RowKit

theorem Fr.thenB {B : Nat} {T : List TypeId} {S : List Nat} {a b c : World} (h : Fr B T S a b) (hb : Below a.heap.size b c) : Fr B T S a c :=
  ⟨hb.os.trans h.os, hb.tape.trans h.tape, hb.output.trans h.output, Nat.le_trans h.size hb.size, fun k hk hc => (hb.block k hk).trans (h.block k hk hc)⟩
/-- Items, the first k of which were ticked. -/
def tickL (now : Int) (l : List LIt) (k : Nat) : List LIt := (l.take k).map (tickI now) ++ l.drop k
/-- What the first k of them sent. -/
def tickQ (now mark : Int) (l : List LIt) (k : Nat) : List LPk := ((l.take k).filter fun x => decide (x.due ≤ now)).map fun x => ⟨x.seq, mark, x.body⟩
theorem tickL_len (now : Int) (l : List LIt) (k : Nat) : (tickL now l k).length = l.length := by simp [tickL]; omega
theorem tickL_zero (now : Int) (l : List LIt) : tickL now l 0 = l := by simp [tickL]
theorem tickL_all (now : Int) (l : List LIt) : tickL now l l.length = l.map (tickI now) := by simp [tickL]
theorem tickL_at (now : Int) (l : List LIt) (k : Nat) (h : k < l.length) : (tickL now l k)[k]'(by rw [tickL_len]; exact h) = l[k] := by
  have : ((l.take k).map (tickI now)).length = k := by simp; omega
  simp only [tickL]
  rw [List.getElem_append_right (by omega)]
  simp only [this, Nat.sub_self, List.getElem_drop, Nat.add_zero]
theorem tickL_succ (now : Int) (l : List LIt) (k : Nat) (h : k < l.length) : tickL now l (k + 1) = (tickL now l k).set k (tickI now l[k]) := by
  have e : ((l.take k).map (tickI now)).length = k := by simp; omega
  simp only [tickL]
  rw [List.set_append_right _ _ (by omega), e, Nat.sub_self, List.drop_eq_getElem_cons h, List.set_cons_zero, List.take_succ_eq_append_getElem h, List.map_append, List.append_assoc]
  rfl
theorem tickQ_succ (now mark : Int) (l : List LIt) (k : Nat) (h : k < l.length) : tickQ now mark l (k + 1) = if l[k].due ≤ now then tickQ now mark l k ++ [⟨l[k].seq, mark, l[k].body⟩] else tickQ now mark l k := by
  simp only [tickQ]
  rw [List.take_succ_eq_append_getElem h, List.filter_append, List.map_append]
  split
  · rename_i hd; simp [hd]
  · rename_i hd; simp [hd]
theorem tickQ_len (now mark : Int) (l : List LIt) (k : Nat) : (tickQ now mark l k).length ≤ l.length := by
  simp only [tickQ, List.length_map]
  have := List.length_filter_le (fun x : LIt => decide (x.due ≤ now)) (l.take k)
  simp at this ⊢
  omega
theorem flatL_set (zs : List LIm) (k : Nat) (h : k < zs.length) (a b : Int) : ((zs.flatMap encL).set (k * 4 + 3) (.int .i64 a)).set (k * 4 + 2) (.int .i64 b) = (zs.set k ⟨⟨zs[k].it.seq, zs[k].it.body, b, a⟩, zs[k].bv⟩).flatMap encL := by
  induction zs generalizing k with
  | nil => simp at h
  | cons z zs ih =>
    cases k with
    | zero => simp [encL]
    | succ k =>
      have e3 : (k + 1) * 4 + 3 = 4 + (k * 4 + 3) := by omega
      have e2 : (k + 1) * 4 + 2 = 4 + (k * 4 + 2) := by omega
      rw [List.flatMap_cons, List.set_append_right _ _ (by rw [encL_len]; omega), encL_len, List.set_append_right _ _ (by rw [encL_len]; omega), encL_len, e3, e2, Nat.add_sub_cancel_left, Nat.add_sub_cancel_left, ih k (by simpa using h)]
      simp

/-- Packets in memory. -/
def encP (z : LPk × Value) : List Value := [.int .i64 z.1.seq, .int .i64 z.1.ack, z.2]
theorem encP_len (z : LPk × Value) : (encP z).length = 3 := rfl
theorem flatP_at (zs : List (LPk × Value)) (k j : Nat) (hk : k < zs.length) (hj : j < 3) : (zs.flatMap encP)[k * 3 + j]? = (encP zs[k])[j]? := by
  induction zs generalizing k with
  | nil => simp at hk
  | cons z zs ih =>
    cases k with
    | zero => rw [List.flatMap_cons, List.getElem?_append_left (by rw [encP_len]; omega)]; simp
    | succ k => rw [List.flatMap_cons, List.getElem?_append_right (by rw [encP_len]; omega), encP_len, show (k + 1) * 3 + j - 3 = k * 3 + j by omega, ih k (by simpa using hk)]; simp
def IsPs (B : Nat) (W : World) (v : Value) (l : List LPk) : Prop := ∃ zs : List (LPk × Value), zs.map (·.1) = l ∧ W.ownsRow B 43 3 v l.length (zs.flatMap encP) ∧ ∀ z ∈ zs, ByO W z.2 z.1.body
theorem IsPs.below {B : Nat} {W W' : World} {v : Value} {l : List LPk} (h : IsPs B W v l) (b : Below W.heap.size W W') : IsPs B W' v l := by
  obtain ⟨zs, h1, h2, h3⟩ := h
  exact ⟨zs, h1, (Fr.of_below (B := 0) (T := []) (S := []) b).own h2 (by simp) (by simp), fun z hz => (h3 z hz).below b⟩
theorem Try.infoPkt : (Try.prog.info? 43).map (fun i => (i.zero, i.size, i.bytes)) = some (some (.agg #[.int .i64 0, .int .i64 0, .slice none 0 0]), 3, 40) := by kernel_rfl
end Go.Proofs.Ytnmbblkfaoihfaa
