/- The contracts of cells.Maker's calls that put a cell, and of Done. -/
import Derived.Test.YtjgdcdojigcefaaCMaker
namespace Go.Proofs.Ytjgdcdojigcefaa
open Go.RowKit

/-- '[]byte(s)': the text's bytes in new memory. -/
theorem str_bytes (w : World) (t : ByteArray) (ht : t.size ≤ maxLen) : ∃ c W, (convert 9 26 (.string t)).run Try.prog w = .ok (.slice (some ⟨w.heap.size, 0, none⟩) t.size c) W ∧
    Bs W (.slice (some ⟨w.heap.size, 0, none⟩) t.size c) (natsOf t) ∧ Below w.heap.size w W ∧ W.heap.size = w.heap.size + 1 := by
  refine ⟨_, _, run_bytes_of_string w 9 26 5 t Try.underlying9 Try.underlying26 Try.underlying5, ?_, (Below.refl w.heap.size w).drew.alloc (Nat.le_refl _) _, by simp⟩
  have hl := natsOf_length t
  refine ⟨_, _, by rw [hl], by rw [hl]; exact grownCap_ge w _ _ _, grownCap_le_maxLen w _ _ _ ht, by simp, fun hn => ⟨_, _, rfl, by simp, fun j u hu => ?_⟩⟩
  refine (cell_at (k := w.heap.size) (block_new w.drew _) (0 + j)).trans ?_
  rw [Nat.zero_add]
  have hj : j < t.size := by
    have := (List.getElem?_eq_some_iff.1 hu).1
    simpa [hl] using this
  unfold bytesRow
  rw [Array.getElem?_append_left (by simpa using hj)]
  simp only [natsOf, List.map_map, List.getElem?_map] at hu
  rw [Array.getElem?_map, ← hu]
  simp
  rfl

theorem Bss.one {w : World} {T : TypeId} {v : Value} {bs : List Nat} (h : Bs w v bs) : Bss (w.alloc (.cells #[v] T)) (.slice (some ⟨w.heap.size, 0, none⟩) 1 1) [bs] :=
  ⟨_, _, [v], rfl, Nat.le_refl _, by unfold maxLen; omega, ⟨rfl, fun _ => ⟨_, _, rfl, by simp, fun j u hu => by
    have hj : j = 0 := by
      have := (List.getElem?_eq_some_iff.1 hu).1
      simp at this; omega
    subst hj
    simp at hu
    subst hu
    rw [cell_at (block_new _ _)]; rfl⟩⟩, fun j hj u hu => by
    have hj : j = 0 := by simp at hj; omega
    subst hj
    simp at hu
    subst hu
    exact h.below ((Below.refl _ _).alloc (Nat.le_refl _) _)⟩
theorem Bss.two {w : World} {T : TypeId} {v v' : Value} {bs bs' : List Nat} (h : Bs w v bs) (h' : Bs w v' bs') : Bss (w.alloc (.cells #[v, v'] T)) (.slice (some ⟨w.heap.size, 0, none⟩) 2 2) [bs, bs'] :=
  ⟨_, _, [v, v'], rfl, Nat.le_refl _, by unfold maxLen; simp, ⟨rfl, fun _ => ⟨_, _, rfl, by simp, fun j u hu => by
    rw [cell_at (block_new _ _), Nat.zero_add]
    simpa using hu⟩⟩, fun j hj u hu => by
    have b : Below w.heap.size w (w.alloc (.cells #[v, v'] T)) := (Below.refl _ _).alloc (Nat.le_refl _) _
    match j, hj, hu with
    | 0, _, hu => simp at hu; subst hu; exact h.below b
    | 1, _, hu => simp at hu; subst hu; exact h'.below b⟩

set_option maxHeartbeats 400000 in
theorem mnum_nil (n : Int) (w : World) (hn : I64 n) : Calls Try.prog 26 #[.pointer none, .int .i64 n] w fun e w' => e = .returned (.pointer none) ∧ Below w.heap.size w w' := by
  go_enter Try.func26, Try.ntmps26
  go_wp2_with fail
  refine (num_any n _ hn).mono ?_
  rintro e w1 ⟨v, rfl, ⟨A, c, rfl, _, _, _⟩, hb⟩
  go_wp2_with fail
  refine (put_nil _ _).mono ?_
  rintro e w2 ⟨rfl, rfl⟩
  go_wp2
  go_ret
  exact ⟨rfl, hb.alloc hb.size _⟩

set_option maxHeartbeats 400000 in
theorem mnum_any (p : Nat) (G : Option Nat) (s : List Nat × Bool) (n : Int) (w : World) (hM : IsM w p G s) (hn : I64 n) :
    Calls Try.prog 26 #[.pointer (some ⟨p, 0, none⟩), .int .i64 n] w (RetM p G (putS s (numB n)) w) := by
  have HM := Lib.hid hM
  have hlen := (numB_length n).2
  clear hM
  go_enter Try.func26, Try.ntmps26
  go_wp2_with fail
  refine (num_any n _ hn).mono ?_
  rintro e w1 ⟨v, rfl, hv, hb⟩
  have HV := Lib.hid hv
  obtain ⟨A, c, rfl, _, _, _⟩ := hv
  go_wp2_with fail
  have hb2 := hb.alloc hb.size (.cells #[.slice A (numB n).length c] 26)
  refine (put_any p G s _ [numB n] _ (HM.out.below hb2) (Bss.one HV.out) (by simp; omega)).mono ?_
  rintro e w2 ⟨G', rfl, hM2, hf, hG⟩
  have HM2 := Lib.hid hM2
  have HF := Lib.hid hf
  have HG := Lib.hid hG
  have HB2 := Lib.hid hb2
  clear hM2 hf hG hb hb2
  go_wp2
  go_ret
  refine ⟨G', rfl, by simpa using HM2.out, (Fr.of_below HB2.out).trans HF.out, ?_⟩
  rcases HG.out with h | ⟨g, h, hg⟩
  · exact .inl h
  · exact .inr ⟨g, h, Nat.le_trans HB2.out.size hg⟩

/-- What Done hands back. -/
def RetD (s : List Nat × Bool) (w : World) (e : Ending) (w' : World) : Prop :=
  ∃ v, e = .returned (.tuple #[v, .int .i64 (if s.2 then 3 else 0)]) ∧ w'.ownsRow w.heap.size 5 1 v (if s.2 then 0 else s.1.length) (if s.2 then [] else s.1.map u8v) ∧ Below w.heap.size w w'

set_option maxHeartbeats 400000 in
theorem mdone_nil (w : World) : Calls Try.prog 28 #[.pointer none] w fun e w' => e = .returned (.tuple #[.slice none 0 0, .int .i64 6]) ∧ w = w' := by
  go_enter Try.func28, Try.ntmps28
  go_wp2
  go_ret2
  exact ⟨rfl, rfl⟩

set_option maxRecDepth 100000 in
set_option maxHeartbeats 400000 in
theorem mdone_any (p : Nat) (G : Option Nat) (s : List Nat × Bool) (w : World) (hM : IsM w p G s) (hl : s.1.length ≤ 262144) :
    Calls Try.prog 28 #[.pointer (some ⟨p, 0, none⟩)] w (RetD s w) := by
  obtain ⟨bs, lg⟩ := s
  obtain ⟨vm, hp, ho, rfl⟩ := hM
  simp only at hp ho hl
  cases lg with
  | true =>
    have c0 := cell_at hp 0
    have c1 : w.cell? ⟨p, 1, none⟩ = some (.bool true) := cell_at hp 1
    clear hp ho c0
    go_enter Try.func28, Try.ntmps28
    go_wp2
    go_ret2
    exact ⟨_, rfl, World.ownsRow_nil _ _ _ _, Below.refl _ _⟩
  | false =>
    obtain ⟨A, c, rfl, hnc, hcm, _, _⟩ := own_slice ho
    have hbs := Lib.hid (Bs.own_n ho)
    have c0 : w.cell? ⟨p, 0, none⟩ = some (.slice A bs.length c) := cell_at hp 0
    have c1 : w.cell? ⟨p, 1, none⟩ = some (.bool false) := cell_at hp 1
    clear hp ho
    go_enter Try.func28, Try.ntmps28
    go_wp2_with fail
    refine (clone_any _ bs _ hbs.out (by omega)).mono ?_
    rintro e w1 ⟨v, rfl, ho1, hb1⟩
    have HO1 := Lib.hid ho1
    clear ho1
    go_wp2
    go_ret2
    exact ⟨_, rfl, HO1.out, hb1⟩

end Go.Proofs.Ytjgdcdojigcefaa
