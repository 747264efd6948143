/- Joined: The contracts of cells.Maker: what each call makes of a maker that lies in memory. The contracts of cells.Maker's calls that put a cell, and of Done. The contract of cells.First: the number with whose cell bytes begin. -/
import Derived.Test.YtnmbblkfaoihfaaZLY3
import Derived.Test.YtnmbblkfaoihfaaZLY2
import Derived.Test.YtnmbblkfaoihfaaZLY4
import Derived.BigRegion
import Derived.OwnWalk
import Derived.Deep.RegionWith
import Derived.IntWalk
namespace Go.Proofs.Ytnmbblkfaoihfaa
open Go.RowKit

set_option maxHeartbeats 400000 in
theorem new_any (w : World) : Calls Try.prog 47 #[] w fun e w' => e = .returned (.pointer (some ⟨w.heap.size, 0, none⟩)) ∧ IsM w' w.heap.size none ([], false) ∧ Below w.heap.size w w' := by
  go_enter Try.func47, Try.ntmps47
  go_wp2
  go_ret
  exact ⟨rfl, ⟨_, block_new _ _, World.ownsRow_nil _ _ _ _, rfl⟩, (Below.refl _ _).alloc (Nat.le_refl _) _⟩

set_option maxHeartbeats 400000 in
theorem put_nil (v : Value) (w : World) : Calls Try.prog 62 #[.pointer none, v] w fun e w' => e = .returned (.pointer none) ∧ w = w' := by
  go_enter Try.func62, Try.ntmps62
  go_wp2
  go_ret
  exact ⟨rfl, rfl⟩

theorem IsM.of_set {w : World} {p : Nat} {v : Value} {l l' : Bool} {bs : List Nat} (h : w.heap[p]? = some (.cells #[v, .bool l] 112 (0, 0))) (ho : w.ownsRow 0 5 1 v bs.length (bs.map u8v)) :
    IsM (w.setCell ⟨p, 1, none⟩ (.bool l')) p v.ownBlock (bs, l') ∧ Fr 0 [] (p :: v.ownBlock.toList) w (w.setCell ⟨p, 1, none⟩ (.bool l')) := by
  have f : Fr 0 [] [p] w (w.setCell ⟨p, 1, none⟩ (.bool l')) := (Fr.refl w).setCell (p := ⟨p, 1, none⟩) _ (Nat.zero_le _) (.inl (by simp))
  refine ⟨⟨v, ?_, f.own ho (by simp) (fun k hk => ?_), rfl⟩, f.mono (Nat.le_refl _) (by simp) (by simp)⟩
  · rw [block_set h]; rfl
  · have := own_ne ho h (by decide)
    simp
    rintro rfl
    exact this hk

set_option maxRecDepth 100000 in
set_option maxHeartbeats 1000000 in
theorem put_over (p : Nat) (G : Option Nat) (s : List Nat × Bool) (v : Value) (l : List (List Nat)) (w : World) (hM : IsM w p G s) (hv : Bss w v l) (ht : l.flatten.length ≤ 140737488355328) (hl : s.2 = true ∨ 262144 - (s.1.length : Int) < l.flatten.length) :
    Calls Try.prog 62 #[.pointer (some ⟨p, 0, none⟩), v] w (RetM p G (s.1, true) w) := by
  obtain ⟨bs, lg⟩ := s
  obtain ⟨vm, hp, ho, rfl⟩ := hM
  simp only at hl hp ho
  obtain ⟨A, c, rfl, hnc, hcm, _, _⟩ := own_slice ho
  obtain ⟨n, hn⟩ : ∃ n, bs.length = n := ⟨_, rfl⟩
  rw [hn] at hl hp ho hnc
  simp only [hn]
  obtain ⟨T, hT⟩ : ∃ T, l.flatten.length = T := ⟨_, rfl⟩
  rw [hT] at hl
  have HT := Lib.hid hT
  have HN := Lib.hid hn
  have HO := Lib.hid ho
  have HP := Lib.hid hp
  have hnm : n ≤ 9223372036854775807 := by unfold maxLen at hcm; omega
  clear hT hn ho hp hcm
  rcases lg with _ | _
  · have hl' : 262144 - (n : Int) < T := by simpa using hl
    clear hl
    have HTT := Lib.hid ht
    clear ht
    go_enter Try.func62, Try.ntmps62
    go_wp2_with fail
    refine (concat_any v l w hv HTT.out).mono ?_
    rintro e w1 ⟨v1, rfl, ho1, hb1⟩
    obtain ⟨A1, c1, rfl, hnc1, hcm1, _, _⟩ := own_slice ho1
    rw [HT.out] at hnc1 ⊢
    have hp1 := (Fr.of_below (B := 0) (T := []) (S := []) hb1).keep0 HP.out (by simp)
    have c0 : w1.cell? ⟨p, 0, none⟩ = some (.slice A n c) := cell_at hp1 0
    have c1 : w1.cell? ⟨p, 1, none⟩ = some (.bool false) := cell_at hp1 1
    have c2 := frozen_at hp1 1
    have hfin := IsM.of_set (l' := true) hp1 ((Fr.of_below (B := 0) (T := []) (S := []) hb1).own (HN.out ▸ HO.out : w.ownsRow 0 5 1 (.slice A n c) bs.length (bs.map u8v)) (by simp) (by simp))
    have HF := Lib.hid hfin
    have HB := Lib.hid hb1
    have hm1 : T ≤ 9223372036854775807 := by unfold maxLen at hcm1; omega
    clear ho1 hp1 hfin hb1 hcm1
    go_wp2_with fail
    go_ret
    exact ⟨_, rfl, HF.out.1, (Fr.of_below HB.out).trans HF.out.2, .inl rfl⟩
  · clear hl
    go_enter Try.func62, Try.ntmps62
    go_wp2_with fail
    refine (concat_any v l w hv ht).mono ?_
    rintro e w1 ⟨v1, rfl, ho1, hb1⟩
    have hp1 := (Fr.of_below (B := 0) (T := []) (S := []) hb1).keep0 HP.out (by simp)
    have c0 : w1.cell? ⟨p, 0, none⟩ = some (.slice A n c) := cell_at hp1 0
    have c1 : w1.cell? ⟨p, 1, none⟩ = some (.bool true) := cell_at hp1 1
    have c2 := frozen_at hp1 1
    have hfin := IsM.of_set (l' := true) hp1 ((Fr.of_below (B := 0) (T := []) (S := []) hb1).own (HN.out ▸ HO.out : w.ownsRow 0 5 1 (.slice A n c) bs.length (bs.map u8v)) (by simp) (by simp))
    have HF := Lib.hid hfin
    have HB := Lib.hid hb1
    clear ho1 hp1 hfin hb1
    go_wp2_with fail
    go_ret
    exact ⟨_, rfl, HF.out.1, (Fr.of_below HB.out).trans HF.out.2, .inl rfl⟩

set_option maxRecDepth 100000 in
set_option maxHeartbeats 1000000 in
theorem put_room (p : Nat) (G : Option Nat) (bs : List Nat) (v : Value) (l : List (List Nat)) (w : World) (hM : IsM w p G (bs, false)) (hv : Bss w v l) (hl : ¬ 262144 - (bs.length : Int) < l.flatten.length) :
    Calls Try.prog 62 #[.pointer (some ⟨p, 0, none⟩), v] w (RetM p G (bs ++ l.flatten, false) w) := by
  obtain ⟨i0, hi0, hz0, hz1, hz2⟩ := info_parts Try.infoByte
  obtain ⟨vm, hp, ho, rfl⟩ := hM
  simp only at hp ho
  obtain ⟨A, c, rfl, hnc, hcm, _, _⟩ := own_slice ho
  obtain ⟨n, hn⟩ : ∃ n, bs.length = n := ⟨_, rfl⟩
  rw [hn] at hl hp ho hnc
  simp only [hn]
  obtain ⟨T, hT⟩ : ∃ T, l.flatten.length = T := ⟨_, rfl⟩
  have HT := Lib.hid hT
  have HN := Lib.hid hn
  have HO := Lib.hid ho
  have HP := Lib.hid hp
  rw [hT] at hl
  clear hT hn ho hp hcm
  go_enter Try.func62, Try.ntmps62
  go_wp2_with fail
  refine (concat_any v l w hv (by rw [HT.out]; omega)).mono ?_
  rintro e w1 ⟨v1, rfl, ho1, hb1⟩
  obtain ⟨A1, k1, rfl, hnc1, hcm1, hr1, _⟩ := own_slice ho1
  rw [HT.out] at hnc1 hr1 ⊢
  have f1 : Fr 0 [] [] w w1 := Fr.of_below hb1
  have hp1 := f1.keep0 HP.out (by simp)
  have ho1' := f1.own HO.out (by simp) (by simp)
  have c0 : w1.cell? ⟨p, 0, none⟩ = some (.slice A n c) := cell_at hp1 0
  have c1 : w1.cell? ⟨p, 1, none⟩ = some (.bool false) := cell_at hp1 1
  have c2 := frozen_at hp1 1
  have hpo : Value.ownBlock (.slice A n c) ≠ some p := own_ne HO.out HP.out (by decide)
  have f2 : Fr 0 [] [p] w1 (w1.setCell ⟨p, 1, none⟩ (.bool false)) := (Fr.refl w1).setCell (p := ⟨p, 1, none⟩) _ (Nat.zero_le _) (.inl (by simp))
  have hp2 : (w1.setCell ⟨p, 1, none⟩ (.bool false)).heap[p]? = some (.cells #[.slice A n c, .bool false] 112 (0, 0)) := by rw [block_set hp1]; rfl
  have ho2 := f2.own ho1' (by simp) (fun k hk => by simp; rintro rfl; exact hpo hk)
  have hr2 : Rd (w1.setCell ⟨p, 1, none⟩ (.bool false)) 1 A1 T (l.flatten.map u8v) := hr1.frame f2 (fun _ a ha => by
    simp
    intro e
    exact own_ne ho1 hp1 (by decide) (by subst ha; rw [← e]; rfl))
  have hdec : decide (262144 - (n : Int) < (T : Int)) = false := by simpa using hl
  have hnm : n + T ≤ 262144 := by omega
  have HF2 := Lib.hid ((Fr.of_below hb1 : Fr 0 [] [p] w w1).trans f2)
  have HP2 := Lib.hid hp2
  have HO2 := Lib.hid ho2
  have HR2 := Lib.hid hr2
  have HPO := Lib.hid hpo
  have HU := Lib.hid (u8_one' l.flatten)
  clear ho1 hp1 ho1' hr1 hb1 hcm1 hpo f2 hp2 ho2 hr2 f1
  go_wp2_with (at_builtin
               refine wpList_append_rd_at _ rfl (.tmp 37) (.tmp 38) 41 rfl 0 5 i0 (.int .u8 0) 1 1 Try.underlying41 hi0 hz0 hz1 hz2 rfl (by decide) (.slice A n c) n _ rfl HO2.out A1 T k1 (l.flatten.map u8v) rfl HR2.out HU.out (by unfold maxLen; omega) (by omega) (Nat.zero_le _) ?_
               intro v5 w5 hown5 hgrow5 hat5
               obtain ⟨A5, k5, rfl, _, _, _, _⟩ := own_slice hown5
               have hp5 := hgrow5.block p (lt_of_block HP2.out) (fun e => HPO.out e.symm)
               rw [HP2.out] at hp5
               have d0 : w5.cell? ⟨p, 0, none⟩ = some (.slice A n c) := cell_at hp5 0
               have d2 := frozen_at hp5 0
               have HP5 := Lib.hid hp5
               have HO5 := Lib.hid hown5
               have HG5 := Lib.hid hgrow5
               have HA5 := Lib.hid hat5
               clear hown5 hgrow5 hat5 hp5 c0 c1 c2)
  go_ret
  have f5 : Fr 0 [] (p :: (Value.ownBlock (.slice A n c)).toList) (w1.setCell ⟨p, 1, none⟩ (.bool false)) w5 := (Fr.refl _).grown HG5.out (fun j hj => ⟨Nat.zero_le _, .inl (by simp [hj])⟩)
  have f6 : Fr 0 [] [p] w5 (w5.setCell ⟨p, 0, none⟩ (.slice A5 (n + T) k5)) := (Fr.refl w5).setCell (p := ⟨p, 0, none⟩) _ (Nat.zero_le _) (.inl (by simp))
  have hsz : w.heap.size ≤ (w1.setCell ⟨p, 1, none⟩ (.bool false)).heap.size := HF2.out.size
  refine ⟨Value.ownBlock (.slice A5 (n + T) k5), rfl, ⟨_, ?_, ?_, rfl⟩, (HF2.out.mono (Nat.le_refl _) (by simp) (by simp)).trans (f5.trans (f6.mono (Nat.le_refl _) (by simp) (by simp))), ?_⟩
  · rw [block_set HP5.out]; rfl
  · have e : (bs ++ l.flatten).length = n + T := by rw [List.length_append, HN.out, HT.out]
    have := f6.own HO5.out (by simp) (fun k hk => by
      simp
      rintro rfl
      exact own_ne HO5.out HP5.out (by decide) hk)
    simp only [e, List.map_append]
    exact this
  · rcases HA5.out with h | h
    · exact .inl h
    · exact .inr ⟨_, h, hsz⟩

theorem put_any (p : Nat) (G : Option Nat) (s : List Nat × Bool) (v : Value) (l : List (List Nat)) (w : World) (hM : IsM w p G s) (hv : Bss w v l) (ht : l.flatten.length ≤ 140737488355328) :
    Calls Try.prog 62 #[.pointer (some ⟨p, 0, none⟩), v] w (RetM p G (putS s l.flatten) w) := by
  by_cases h1 : s.2 = true
  · rw [putS_long h1]; exact put_over p G s v l w hM hv ht (.inl h1)
  · by_cases h2 : 262144 - (s.1.length : Int) < l.flatten.length
    · rw [putS_over h2]; exact put_over p G s v l w hM hv ht (.inr h2)
    · have h3 : s.2 = false := by simpa using h1
      rw [putS_fits h3 h2]
      obtain ⟨bs, lg⟩ := s
      simp only at h3
      subst h3
      exact put_room p G bs v l w hM hv h2
end Go.Proofs.Ytnmbblkfaoihfaa

namespace Go.Proofs.Ytnmbblkfaoihfaa
open Go.RowKit

/-- '[]byte(s)': the text's bytes in new memory. -/
theorem str_bytes (w : World) (t : ByteArray) (ht : t.size ≤ maxLen) : ∃ c W, (convert 9 41 (.string t)).run Try.prog w = .ok (.slice (some ⟨w.heap.size, 0, none⟩) t.size c) W ∧
    Bs W (.slice (some ⟨w.heap.size, 0, none⟩) t.size c) (natsOf t) ∧ Below w.heap.size w W ∧ W.heap.size = w.heap.size + 1 := by
  refine ⟨_, _, run_bytes_of_string w 9 41 5 t Try.underlying9 Try.underlying41 Try.underlying5, ?_, (Below.refl w.heap.size w).drew.alloc (Nat.le_refl _) _, by simp⟩
  have hl := natsOf_length t
  refine ⟨_, _, by rw [hl], by rw [hl]; exact grownCap_ge w _ _ _, grownCap_le_maxLen w _ _ _ ht, by simp, fun hn => ⟨_, _, rfl, by simp, fun j u hu => ?_⟩⟩
  refine (cell_at (k := w.heap.size) (block_new w.drew _) (0 + j)).trans ?_
  rw [Nat.zero_add]
  have hj : j < t.size := by
    have := (List.getElem?_eq_some_iff.1 hu).1
    simpa [hl] using this
  unfold bytesRow
  rw [Array.getElem?_append_left (by simpa using hj)]
  simp only [natsOf, List.map_map, List.getElem?_map] at hu
  rw [Array.getElem?_map, ← hu]
  simp
  rfl

theorem Bss.one {w : World} {T : TypeId} {v : Value} {bs : List Nat} (h : Bs w v bs) : Bss (w.alloc (.cells #[v] T)) (.slice (some ⟨w.heap.size, 0, none⟩) 1 1) [bs] :=
  ⟨_, _, [v], rfl, Nat.le_refl _, by unfold maxLen; omega, ⟨rfl, fun _ => ⟨_, _, rfl, by simp, fun j u hu => by
    have hj : j = 0 := by
      have := (List.getElem?_eq_some_iff.1 hu).1
      simp at this; omega
    subst hj
    simp at hu
    subst hu
    rw [cell_at (block_new _ _)]; rfl⟩⟩, fun j hj u hu => by
    have hj : j = 0 := by simp at hj; omega
    subst hj
    simp at hu
    subst hu
    exact h.below ((Below.refl _ _).alloc (Nat.le_refl _) _)⟩
theorem Bss.two {w : World} {T : TypeId} {v v' : Value} {bs bs' : List Nat} (h : Bs w v bs) (h' : Bs w v' bs') : Bss (w.alloc (.cells #[v, v'] T)) (.slice (some ⟨w.heap.size, 0, none⟩) 2 2) [bs, bs'] :=
  ⟨_, _, [v, v'], rfl, Nat.le_refl _, by unfold maxLen; simp, ⟨rfl, fun _ => ⟨_, _, rfl, by simp, fun j u hu => by
    rw [cell_at (block_new _ _), Nat.zero_add]
    simpa using hu⟩⟩, fun j hj u hu => by
    have b : Below w.heap.size w (w.alloc (.cells #[v, v'] T)) := (Below.refl _ _).alloc (Nat.le_refl _) _
    match j, hj, hu with
    | 0, _, hu => simp at hu; subst hu; exact h.below b
    | 1, _, hu => simp at hu; subst hu; exact h'.below b⟩

set_option maxHeartbeats 400000 in
theorem mnum_nil (n : Int) (w : World) (hn : I64 n) : Calls Try.prog 48 #[.pointer none, .int .i64 n] w fun e w' => e = .returned (.pointer none) ∧ Below w.heap.size w w' := by
  go_enter Try.func48, Try.ntmps48
  go_wp2_with fail
  refine (num_any n _ hn).mono ?_
  rintro e w1 ⟨v, rfl, ⟨A, c, rfl, _, _, _⟩, hb⟩
  go_wp2_with fail
  refine (put_nil _ _).mono ?_
  rintro e w2 ⟨rfl, rfl⟩
  go_wp2
  go_ret
  exact ⟨rfl, hb.alloc hb.size _⟩

set_option maxHeartbeats 400000 in
theorem mnum_any (p : Nat) (G : Option Nat) (s : List Nat × Bool) (n : Int) (w : World) (hM : IsM w p G s) (hn : I64 n) :
    Calls Try.prog 48 #[.pointer (some ⟨p, 0, none⟩), .int .i64 n] w (RetM p G (putS s (numB n)) w) := by
  have HM := Lib.hid hM
  have hlen := (numB_length n).2
  clear hM
  go_enter Try.func48, Try.ntmps48
  go_wp2_with fail
  refine (num_any n _ hn).mono ?_
  rintro e w1 ⟨v, rfl, hv, hb⟩
  have HV := Lib.hid hv
  obtain ⟨A, c, rfl, _, _, _⟩ := hv
  go_wp2_with fail
  have hb2 := hb.alloc hb.size (.cells #[.slice A (numB n).length c] 41)
  refine (put_any p G s _ [numB n] _ (HM.out.below hb2) (Bss.one HV.out) (by simp; omega)).mono ?_
  rintro e w2 ⟨G', rfl, hM2, hf, hG⟩
  have HM2 := Lib.hid hM2
  have HF := Lib.hid hf
  have HG := Lib.hid hG
  have HB2 := Lib.hid hb2
  clear hM2 hf hG hb hb2
  go_wp2
  go_ret
  refine ⟨G', rfl, by simpa using HM2.out, (Fr.of_below HB2.out).trans HF.out, ?_⟩
  rcases HG.out with h | ⟨g, h, hg⟩
  · exact .inl h
  · exact .inr ⟨g, h, Nat.le_trans HB2.out.size hg⟩

/-- What Done hands back. -/
def RetD (s : List Nat × Bool) (w : World) (e : Ending) (w' : World) : Prop :=
  ∃ v, e = .returned (.tuple #[v, .int .i64 (if s.2 then 3 else 0)]) ∧ w'.ownsRow w.heap.size 5 1 v (if s.2 then 0 else s.1.length) (if s.2 then [] else s.1.map u8v) ∧ Below w.heap.size w w'

set_option maxHeartbeats 400000 in
theorem mdone_nil (w : World) : Calls Try.prog 50 #[.pointer none] w fun e w' => e = .returned (.tuple #[.slice none 0 0, .int .i64 6]) ∧ w = w' := by
  go_enter Try.func50, Try.ntmps50
  go_wp2
  go_ret2
  exact ⟨rfl, rfl⟩

set_option maxRecDepth 100000 in
set_option maxHeartbeats 400000 in
theorem mdone_any (p : Nat) (G : Option Nat) (s : List Nat × Bool) (w : World) (hM : IsM w p G s) (hl : s.1.length ≤ 262144) :
    Calls Try.prog 50 #[.pointer (some ⟨p, 0, none⟩)] w (RetD s w) := by
  obtain ⟨bs, lg⟩ := s
  obtain ⟨vm, hp, ho, rfl⟩ := hM
  simp only at hp ho hl
  cases lg with
  | true =>
    have c0 := cell_at hp 0
    have c1 : w.cell? ⟨p, 1, none⟩ = some (.bool true) := cell_at hp 1
    clear hp ho c0
    go_enter Try.func50, Try.ntmps50
    go_wp2
    go_ret2
    exact ⟨_, rfl, World.ownsRow_nil _ _ _ _, Below.refl _ _⟩
  | false =>
    obtain ⟨A, c, rfl, hnc, hcm, _, _⟩ := own_slice ho
    have hbs := Lib.hid (Bs.own_n ho)
    have c0 : w.cell? ⟨p, 0, none⟩ = some (.slice A bs.length c) := cell_at hp 0
    have c1 : w.cell? ⟨p, 1, none⟩ = some (.bool false) := cell_at hp 1
    clear hp ho
    go_enter Try.func50, Try.ntmps50
    go_wp2_with fail
    refine (clone_any _ bs _ hbs.out (by omega)).mono ?_
    rintro e w1 ⟨v, rfl, ho1, hb1⟩
    have HO1 := Lib.hid ho1
    clear ho1
    go_wp2
    go_ret2
    exact ⟨_, rfl, HO1.out, hb1⟩

end Go.Proofs.Ytnmbblkfaoihfaa

namespace Go.Proofs.Ytnmbblkfaoihfaa
open Go.RowKit

/-- What First tells. -/
def fstV (bs : List Nat) : Value := match firstN bs with | some (n, k) => .tuple #[.int .i64 n, .int .i64 k, .int .i64 0] | none => .tuple #[.int .i64 0, .int .i64 0, .int .i64 10]
theorem fstV_some {bs : List Nat} {n : Int} {k : Nat} (h : firstN bs = some (n, k)) : fstV bs = .tuple #[.int .i64 n, .int .i64 k, .int .i64 0] := by unfold fstV; rw [h]
theorem fstV_none {bs : List Nat} (h : firstN bs = none) : fstV bs = .tuple #[.int .i64 0, .int .i64 0, .int .i64 10] := by unfold fstV; rw [h]

theorem or_byte (x c : Nat) (hx : x < 72057594037927936) (hc : c < 256) : bits .or .u64 (((x * 256 : Nat) : Int)) (c : Int) = ((x * 256 + c : Nat) : Int) := by
  show IntKind.u64.wrap (((BitVec.ofInt 64 ((x * 256 : Nat) : Int)) ||| (BitVec.ofInt 64 (c : Int))).toNat : Int) = _
  have e : (BitVec.ofInt 64 ((x * 256 : Nat) : Int) ||| BitVec.ofInt 64 (c : Int)).toNat = x * 256 + c := by
    rw [BitVec.toNat_or, BitVec.toNat_ofInt, BitVec.toNat_ofInt]
    have e1 : (((x * 256 : Nat) : Int) % ((2 ^ 64 : Nat) : Int)).toNat = x <<< 8 := by
      rw [Nat.shiftLeft_eq]
      omega
    have e2 : ((c : Int) % ((2 ^ 64 : Nat) : Int)).toNat = c := by omega
    rw [e1, e2, ← Nat.shiftLeft_add_eq_or_of_lt (by omega), Nat.shiftLeft_eq]
  rw [e]
  simp only [IntKind.wrap, IntKind.bits, IntKind.signed]
  simp
  omega
theorem xor_zero (x : Nat) (hx : x < 18446744073709551616) : bits .xor .u64 (x : Int) 0 = x := by
  show IntKind.u64.wrap (((BitVec.ofInt 64 (x : Int)) ^^^ (BitVec.ofInt 64 0)).toNat : Int) = x
  have e : (BitVec.ofInt 64 (x : Int) ^^^ BitVec.ofInt 64 0).toNat = x := by
    rw [BitVec.toNat_xor, BitVec.toNat_ofInt, BitVec.toNat_ofInt]
    simp
    omega
  rw [e]
  simp only [IntKind.wrap, IntKind.bits, IntKind.signed]
  simp
  omega
theorem xor_ones (x : Nat) (hx : x < 18446744073709551616) : bits .xor .u64 (x : Int) 18446744073709551615 = 18446744073709551615 - x := by
  show IntKind.u64.wrap (((BitVec.ofInt 64 (x : Int)) ^^^ (BitVec.ofInt 64 18446744073709551615)).toNat : Int) = _
  have e3 : BitVec.ofInt 64 18446744073709551615 = BitVec.allOnes 64 := by rfl
  have e : (BitVec.ofInt 64 (x : Int) ^^^ BitVec.allOnes 64).toNat = (18446744073709551615 - (x : Int)).toNat := by
    rw [BitVec.xor_allOnes, BitVec.toNat_not, BitVec.toNat_ofInt]
    omega
  rw [e3, e]
  simp only [IntKind.wrap, IntKind.bits, IntKind.signed]
  simp
  omega

/-- What holds between two rounds of First. -/
def FstRel (t : List Nat) (z : Nat) (u i : Value) : Prop := ∃ k : Nat, k ≤ z ∧ i = .int .i64 k ∧ u = .int .u64 (val (t.take k) : Nat)

theorem numB_head (n : Int) : (0 ≤ n → n < 128 → numB n = [n.toNat]) ∧ (128 ≤ n → numB n = (128 + (dig n.toNat).length) :: dig n.toNat) ∧ (n < 0 → numB n = (144 + (dig (-1 - n).toNat).length) :: dig (-1 - n).toNat) := by
  unfold numB
  refine ⟨fun h1 h2 => by rw [if_pos ⟨h1, h2⟩], fun h => by rw [if_neg (by omega), if_pos (by omega)], fun h => by rw [if_neg (by omega), if_neg (by omega)]⟩
/-- What First makes of the bytes, compared: the two ways of going wrong are one. -/
theorem first_cmp (h k x : Nat) (t : List Nat) (N : Int) (hk : k ≤ 8) (hh : h = 128 + k ∨ h = 144 + k) (hkt : k ≤ t.length) (hx : x = val (t.take k)) (hx64 : x < 18446744073709551616)
    (hN : (x < 9223372036854775808 → N = numH h x) ∧ (9223372036854775808 ≤ x → (h = 128 + k → N < 0) ∧ (h = 144 + k → 0 ≤ N))) :
    firstN (h :: t) = if numB N = (h :: t).take (1 + k) then some (N, 1 + k) else none := by
  have hs : sizeH h = k := by unfold sizeH; rcases hh with rfl | rfl <;> split <;> omega
  rw [firstN, if_neg (by omega), hs, if_neg (by omega), ← hx]
  by_cases hlt : x < 9223372036854775808
  · rw [hN.1 hlt]
    simp only [hlt, true_and]
  · have hge := hN.2 (by omega)
    rw [if_neg (fun hc => hlt hc.1), if_neg]
    rw [Nat.add_comm 1 k, List.take_succ_cons]
    intro e
    rcases hh with rfl | rfl
    · rw [(numB_head N).2.2 (hge.1 rfl)] at e
      injection e with e _
      omega
    · by_cases hc : N < 128
      · rw [(numB_head N).1 (hge.2 rfl) hc] at e
        injection e with e _
        omega
      · rw [(numB_head N).2.1 (by omega)] at e
        injection e with e _
        have := dig_le N.toNat
        omega

set_option maxRecDepth 100000 in
set_option maxHeartbeats 400000 in
theorem first_nil (A : Option Addr) (c : Nat) (w : World) : Calls Try.prog 65 #[.slice A 0 c] w fun e w' => e = .returned (fstV []) ∧ Below w.heap.size w w' := by
  have HV := Lib.hid (fstV_none (bs := []) rfl)
  go_enter Try.func65, Try.ntmps65
  go_wp2
  go_ret3
  rw [HV.out]
  exact ⟨rfl, Below.refl _ _⟩

set_option maxRecDepth 100000 in
set_option maxHeartbeats 400000 in
theorem first_small (g o c : Nat) (w : World) (h : Nat) (t : List Nat) (n : Nat) (hn : 0 < n) (hc : w.cell? ⟨g, o, none⟩ = some (.int .u8 h)) (hh : h < 128) : Calls Try.prog 65 #[.slice (some ⟨g, o, none⟩) n c] w fun e w' => e = .returned (fstV (h :: t)) ∧ Below w.heap.size w w' := by
  have HV := Lib.hid (fstV_some (bs := h :: t) (n := h) (k := 1) (by rw [firstN, if_pos hh]))
  go_enter Try.func65, Try.ntmps65
  go_wp2
  go_ret3
  rw [HV.out]
  exact ⟨rfl, Below.refl _ _⟩

set_option maxRecDepth 100000 in
set_option maxHeartbeats 1000000 in
theorem first_badP (g o c : Nat) (w : World) (z : Nat) (t : List Nat) (n : Nat) (hn : n = 1 + t.length) (hnm : n ≤ 9223372036854775807) (hc : w.cell? ⟨g, o, none⟩ = some (.int .u8 ((128 + z : Nat) : Int))) (hz15 : z < 16) (hz : 8 < z ∨ t.length < z) :
    Calls Try.prog 65 #[.slice (some ⟨g, o, none⟩) n c] w fun e w' => e = .returned (fstV ((128 + z) :: t)) ∧ Below w.heap.size w w' := by
  have hs : sizeH (128 + z) = z := by unfold sizeH; split <;> omega
  have HV := Lib.hid (fstV_none (bs := (128 + z) :: t) (by rw [firstN, if_neg (by omega), hs, if_pos hz]))
  clear hs
  have hz' : z ≤ 112 := by omega
  by_cases hz8 : 8 < z
  · clear hz
    go_enter Try.func65, Try.ntmps65
    go_wp2
    go_ret3
    rw [HV.out]
    exact ⟨rfl, Below.refl _ _⟩
  · have hz2 : n ≤ z := by omega
    clear hz
    go_enter Try.func65, Try.ntmps65
    go_wp2
    go_ret3
    rw [HV.out]
    exact ⟨rfl, Below.refl _ _⟩

set_option maxRecDepth 100000 in
set_option maxHeartbeats 1000000 in
theorem first_badN (g o c : Nat) (w : World) (z : Nat) (t : List Nat) (n : Nat) (hn : n = 1 + t.length) (hnm : n ≤ 9223372036854775807) (hc : w.cell? ⟨g, o, none⟩ = some (.int .u8 ((144 + z : Nat) : Int))) (hz15 : z < 112) (hz : 8 < z ∨ t.length < z) :
    Calls Try.prog 65 #[.slice (some ⟨g, o, none⟩) n c] w fun e w' => e = .returned (fstV ((144 + z) :: t)) ∧ Below w.heap.size w w' := by
  have hs : sizeH (144 + z) = z := by unfold sizeH; split <;> omega
  have HV := Lib.hid (fstV_none (bs := (144 + z) :: t) (by rw [firstN, if_neg (by omega), hs, if_pos hz]))
  clear hs
  have hz' : z ≤ 112 := by omega
  by_cases hz8 : 8 < z
  · clear hz
    go_enter Try.func65, Try.ntmps65
    go_wp2
    go_ret3
    rw [HV.out]
    exact ⟨rfl, Below.refl _ _⟩
  · have hz2 : n ≤ z := by omega
    clear hz
    go_enter Try.func65, Try.ntmps65
    go_wp2
    go_ret3
    rw [HV.out]
    exact ⟨rfl, Below.refl _ _⟩

set_option maxRecDepth 100000 in
set_option maxHeartbeats 1000000 in
theorem first_goodP (g o c : Nat) (w : World) (z : Nat) (t : List Nat) (n : Nat) (hn : n = 1 + t.length) (hnc : n ≤ c) (hnm : c ≤ 9223372036854775807) (hr : Rd w 1 (some ⟨g, o, none⟩) n (((128 + z) :: t).map u8v)) (hb : ∀ b ∈ (128 + z) :: t, b < 256) (hc1 : 1 < c) (hz8 : z ≤ 8) (hz : z ≤ t.length) :
    Calls Try.prog 65 #[.slice (some ⟨g, o, none⟩) n c] w fun e w' => e = .returned (fstV ((128 + z) :: t)) ∧ Below w.heap.size w w' := by
  have hs : sizeH (128 + z) = z := by unfold sizeH; split <;> omega
  have hcell : ∀ (j : Nat) (hj : j < t.length), w.cell? ⟨g, o + 1 + j, none⟩ = some (.int .u8 (t[j] : Int)) := by
    obtain ⟨g', o', ha, _, hcc⟩ := hr.2 (by omega)
    cases ha
    intro j hj
    have := hcc (1 + j) (u8v t[j]) (by simp [Nat.add_comm 1 j, hj])
    rw [← Nat.add_assoc] at this
    exact this
  have hc : w.cell? ⟨g, o, none⟩ = some (.int .u8 ((128 + z : Nat) : Int)) := by
    obtain ⟨g', o', ha, _, hcc⟩ := hr.2 (by omega)
    cases ha
    exact hcc 0 (u8v (128 + z)) (by simp)
  have HCell := Lib.hid hcell
  have HR := Lib.hid hr
  have HB := Lib.hid hb
  have HS := Lib.hid hs
  clear hr hb hs hcell
  go_enter Try.func65, Try.ntmps65
  go_wp2_with fail
  have ez : (128 + (z : Int) - 128) = z := by omega
  simp only [ez]
  clear ez
  go_loopw [8, 10, 41] (fun u _ i wr => FstRel t z u i ∧ wr = w) (fun _ _ i _ => (z - (intOf i).toNat))
  case atStart => exact ⟨⟨0, Nat.zero_le _, rfl, rfl⟩, rfl⟩
  case round =>
    obtain ⟨⟨k, hk, rfl, rfl⟩, rfl⟩ := hrel
    by_cases hlt : k < z
    · have hk1 := HCell.out k (by omega)
      have hu : val (t.take k) < 72057594037927936 := by
        have h1 := val_lt (t.take k) (fun b hb => HB.out b (List.mem_cons_of_mem _ (List.mem_of_mem_take hb)))
        have h2 : (t.take k).length ≤ 7 := by rw [List.length_take]; omega
        have h3 : 256 ^ (t.take k).length ≤ 256 ^ 7 := Nat.pow_le_pow_right (by omega) h2
        have h4 : (256 : Nat) ^ 7 = 72057594037927936 := by rfl
        omega
      have hlk : k < t.length := by omega
      have htk : t[k] < 256 := HB.out _ (List.mem_cons_of_mem _ (List.getElem_mem hlk))
      have hval : val (t.take (k + 1)) = val (t.take k) * 256 + t[k] := by rw [List.take_succ_eq_append_getElem hlk, val_snoc]
      have HVal := Lib.hid hval
      obtain ⟨x, hx⟩ : ∃ x, val (t.take k) = x := ⟨_, rfl⟩
      obtain ⟨b, hbk⟩ : ∃ b, t[k] = b := ⟨_, rfl⟩
      rw [hx] at hu HVal
      rw [hbk] at htk hk1 HVal
      have hor := or_byte x b hu htk
      simp only [hx]
      clear hx hbk hval
      go_wp2_with fail
      go_roundw
      case rel =>
        refine ⟨⟨k + 1, hlt, by go_num, ?_⟩, trivial⟩
        rw [HVal.out, ← hor]
        simp
      case measure => simp [intOf]; omega
    · obtain rfl : k = z := by omega
      have hx64 : val (t.take k) < 18446744073709551616 := by
        have h1 := val_lt (t.take k) (fun b hb => HB.out b (List.mem_cons_of_mem _ (List.mem_of_mem_take hb)))
        have h2 : (t.take k).length ≤ 8 := by rw [List.length_take]; omega
        have h3 : 256 ^ (t.take k).length ≤ 256 ^ 8 := Nat.pow_le_pow_right (by omega) h2
        have h4 : (256 : Nat) ^ 8 = 18446744073709551616 := by rfl
        omega
      obtain ⟨x, hx⟩ : ∃ x, val (t.take k) = x := ⟨_, rfl⟩
      rw [hx] at hx64
      have hxor := xor_zero x hx64
      obtain ⟨N, hNd⟩ : ∃ N, wrap64 (bits .xor .u64 (x : Int) 0) = N := ⟨_, rfl⟩
      have hN : I64 N ∧ (x < 9223372036854775808 → N = numH (128 + k) x) ∧ (9223372036854775808 ≤ x → ((128 + k) = 128 + k → N < 0) ∧ ((128 + k) = 144 + k → 0 ≤ N)) := by
        rw [hxor] at hNd
        unfold I64 numH
        unfold wrap64 at hNd
        split <;> omega
      have hcmp := first_cmp (128 + k) k x t N hz8 (by omega) hz hx.symm hx64 hN.2
      have hr1 : Rd wr 1 (some ⟨g, o, none⟩) (1 + k) ((((128 + k) :: t).take (1 + k)).map u8v) := by
        have := HR.out.take (k := 1 + k) (by omega)
        simpa [List.map_take] using this
      have hbt : ∀ b ∈ ((128 + k) :: t).take (1 + k), b < 256 := fun b hb => HB.out b (List.mem_of_mem_take hb)
      have hs0 := run_str wr.drew (some ⟨g, o, none⟩) (1 + k) c _ hr1 hbt
      have HI := Lib.hid hN.1
      have HCmp := Lib.hid hcmp
      have hr1d : Rd wr.drew 1 (some ⟨g, o, none⟩) (1 + k) ((((128 + k) :: t).take (1 + k)).map u8v) := hr1
      have HR1 := Lib.hid hr1d
      have HBT := Lib.hid hbt
      have s1 : IntKind.i64.wrap (1 + (k : Int)) = 1 + k := IntWalk.i64_in _ (by omega)
      have s2 : (1 + (k : Int)).toNat = 1 + k := by omega
      clear hxor hN hcmp hr1 hr1d hbt
      go_wp2_with fail
      simp only [hx, hNd]
      go_region_with (go_at_call 63; refine (num_any N _ HI.out).mono ?_; rintro e w5 ⟨v, rfl, ⟨A5, c5, rfl, hl5, hm5, hr5⟩, hb5⟩; have hs5 := run_str w5 A5 _ c5 (numB N) hr5 (numB_lt N); have hs6 := run_str w5 (some ⟨g, o, none⟩) (1 + k) c _ (HR1.out.below hb5) HBT.out; clear hl5 hm5 hr5)
      all_goals rw [strOf_beq (numB_lt N) HBT.out]
      all_goals
        by_cases hEq : numB N = ((128 + k) :: t).take (1 + k)
        · have hd : decide (numB N = ((128 + k) :: t).take (1 + k)) = true := by simpa using hEq
          rw [hd]
          have HVal := Lib.hid (fstV_some (HCmp.out.trans (if_pos hEq)))
          have HB5 := Lib.hid ((Below.refl wr.heap.size wr).drew.trans hb5)
          clear hd hEq hs0 hs5 hs6 hb5 hNd
          go_wp2
          go_ret3
          rw [HVal.out]
          exact ⟨by simp, HB5.out⟩
        · have hd : decide (numB N = ((128 + k) :: t).take (1 + k)) = false := by simpa using hEq
          rw [hd]
          have HVal := Lib.hid (fstV_none (HCmp.out.trans (if_neg hEq)))
          have HB5 := Lib.hid ((Below.refl wr.heap.size wr).drew.trans hb5)
          clear hd hEq hs0 hs5 hs6 hb5 hNd
          go_wp2
          go_ret3
          rw [HVal.out]
          exact ⟨rfl, HB5.out⟩

set_option maxRecDepth 100000 in
set_option maxHeartbeats 1000000 in
theorem first_goodN (g o c : Nat) (w : World) (z : Nat) (t : List Nat) (n : Nat) (hn : n = 1 + t.length) (hnc : n ≤ c) (hnm : c ≤ 9223372036854775807) (hr : Rd w 1 (some ⟨g, o, none⟩) n (((144 + z) :: t).map u8v)) (hb : ∀ b ∈ (144 + z) :: t, b < 256) (hc1 : 1 < c) (hz8 : z ≤ 8) (hz : z ≤ t.length) :
    Calls Try.prog 65 #[.slice (some ⟨g, o, none⟩) n c] w fun e w' => e = .returned (fstV ((144 + z) :: t)) ∧ Below w.heap.size w w' := by
  have hs : sizeH (144 + z) = z := by unfold sizeH; split <;> omega
  have hcell : ∀ (j : Nat) (hj : j < t.length), w.cell? ⟨g, o + 1 + j, none⟩ = some (.int .u8 (t[j] : Int)) := by
    obtain ⟨g', o', ha, _, hcc⟩ := hr.2 (by omega)
    cases ha
    intro j hj
    have := hcc (1 + j) (u8v t[j]) (by simp [Nat.add_comm 1 j, hj])
    rw [← Nat.add_assoc] at this
    exact this
  have hc : w.cell? ⟨g, o, none⟩ = some (.int .u8 ((144 + z : Nat) : Int)) := by
    obtain ⟨g', o', ha, _, hcc⟩ := hr.2 (by omega)
    cases ha
    exact hcc 0 (u8v (144 + z)) (by simp)
  have HCell := Lib.hid hcell
  have HR := Lib.hid hr
  have HB := Lib.hid hb
  have HS := Lib.hid hs
  clear hr hb hs hcell
  go_enter Try.func65, Try.ntmps65
  go_wp2_with fail
  have ez : (144 + (z : Int) - 144) = z := by omega
  simp only [ez]
  clear ez
  go_loopw [8, 10, 41] (fun u _ i wr => FstRel t z u i ∧ wr = w) (fun _ _ i _ => (z - (intOf i).toNat))
  case atStart => exact ⟨⟨0, Nat.zero_le _, rfl, rfl⟩, rfl⟩
  case round =>
    obtain ⟨⟨k, hk, rfl, rfl⟩, rfl⟩ := hrel
    by_cases hlt : k < z
    · have hk1 := HCell.out k (by omega)
      have hu : val (t.take k) < 72057594037927936 := by
        have h1 := val_lt (t.take k) (fun b hb => HB.out b (List.mem_cons_of_mem _ (List.mem_of_mem_take hb)))
        have h2 : (t.take k).length ≤ 7 := by rw [List.length_take]; omega
        have h3 : 256 ^ (t.take k).length ≤ 256 ^ 7 := Nat.pow_le_pow_right (by omega) h2
        have h4 : (256 : Nat) ^ 7 = 72057594037927936 := by rfl
        omega
      have hlk : k < t.length := by omega
      have htk : t[k] < 256 := HB.out _ (List.mem_cons_of_mem _ (List.getElem_mem hlk))
      have hval : val (t.take (k + 1)) = val (t.take k) * 256 + t[k] := by rw [List.take_succ_eq_append_getElem hlk, val_snoc]
      have HVal := Lib.hid hval
      obtain ⟨x, hx⟩ : ∃ x, val (t.take k) = x := ⟨_, rfl⟩
      obtain ⟨b, hbk⟩ : ∃ b, t[k] = b := ⟨_, rfl⟩
      rw [hx] at hu HVal
      rw [hbk] at htk hk1 HVal
      have hor := or_byte x b hu htk
      simp only [hx]
      clear hx hbk hval
      go_wp2_with fail
      go_roundw
      case rel =>
        refine ⟨⟨k + 1, hlt, by go_num, ?_⟩, trivial⟩
        rw [HVal.out, ← hor]
        simp
      case measure => simp [intOf]; omega
    · obtain rfl : k = z := by omega
      have hx64 : val (t.take k) < 18446744073709551616 := by
        have h1 := val_lt (t.take k) (fun b hb => HB.out b (List.mem_cons_of_mem _ (List.mem_of_mem_take hb)))
        have h2 : (t.take k).length ≤ 8 := by rw [List.length_take]; omega
        have h3 : 256 ^ (t.take k).length ≤ 256 ^ 8 := Nat.pow_le_pow_right (by omega) h2
        have h4 : (256 : Nat) ^ 8 = 18446744073709551616 := by rfl
        omega
      obtain ⟨x, hx⟩ : ∃ x, val (t.take k) = x := ⟨_, rfl⟩
      rw [hx] at hx64
      have hxor := xor_ones x hx64
      obtain ⟨N, hNd⟩ : ∃ N, wrap64 (bits .xor .u64 (x : Int) 18446744073709551615) = N := ⟨_, rfl⟩
      have hN : I64 N ∧ (x < 9223372036854775808 → N = numH (144 + k) x) ∧ (9223372036854775808 ≤ x → ((144 + k) = 128 + k → N < 0) ∧ ((144 + k) = 144 + k → 0 ≤ N)) := by
        rw [hxor] at hNd
        unfold I64 numH
        unfold wrap64 at hNd
        split <;> omega
      have hcmp := first_cmp (144 + k) k x t N hz8 (by omega) hz hx.symm hx64 hN.2
      have hr1 : Rd wr 1 (some ⟨g, o, none⟩) (1 + k) ((((144 + k) :: t).take (1 + k)).map u8v) := by
        have := HR.out.take (k := 1 + k) (by omega)
        simpa [List.map_take] using this
      have hbt : ∀ b ∈ ((144 + k) :: t).take (1 + k), b < 256 := fun b hb => HB.out b (List.mem_of_mem_take hb)
      have hs0 := run_str wr.drew (some ⟨g, o, none⟩) (1 + k) c _ hr1 hbt
      have HI := Lib.hid hN.1
      have HCmp := Lib.hid hcmp
      have hr1d : Rd wr.drew 1 (some ⟨g, o, none⟩) (1 + k) ((((144 + k) :: t).take (1 + k)).map u8v) := hr1
      have HR1 := Lib.hid hr1d
      have HBT := Lib.hid hbt
      have s1 : IntKind.i64.wrap (1 + (k : Int)) = 1 + k := IntWalk.i64_in _ (by omega)
      have s2 : (1 + (k : Int)).toNat = 1 + k := by omega
      clear hxor hN hcmp hr1 hr1d hbt
      go_wp2_with fail
      simp only [hx, hNd]
      go_region_with (go_at_call 63; refine (num_any N _ HI.out).mono ?_; rintro e w5 ⟨v, rfl, ⟨A5, c5, rfl, hl5, hm5, hr5⟩, hb5⟩; have hs5 := run_str w5 A5 _ c5 (numB N) hr5 (numB_lt N); have hs6 := run_str w5 (some ⟨g, o, none⟩) (1 + k) c _ (HR1.out.below hb5) HBT.out; clear hl5 hm5 hr5)
      all_goals rw [strOf_beq (numB_lt N) HBT.out]
      all_goals
        by_cases hEq : numB N = ((144 + k) :: t).take (1 + k)
        · have hd : decide (numB N = ((144 + k) :: t).take (1 + k)) = true := by simpa using hEq
          rw [hd]
          have HVal := Lib.hid (fstV_some (HCmp.out.trans (if_pos hEq)))
          have HB5 := Lib.hid ((Below.refl wr.heap.size wr).drew.trans hb5)
          clear hd hEq hs0 hs5 hs6 hb5 hNd
          go_wp2
          go_ret3
          rw [HVal.out]
          exact ⟨by simp, HB5.out⟩
        · have hd : decide (numB N = ((144 + k) :: t).take (1 + k)) = false := by simpa using hEq
          rw [hd]
          have HVal := Lib.hid (fstV_none (HCmp.out.trans (if_neg hEq)))
          have HB5 := Lib.hid ((Below.refl wr.heap.size wr).drew.trans hb5)
          clear hd hEq hs0 hs5 hs6 hb5 hNd
          go_wp2
          go_ret3
          rw [HVal.out]
          exact ⟨rfl, HB5.out⟩

end Go.Proofs.Ytnmbblkfaoihfaa
