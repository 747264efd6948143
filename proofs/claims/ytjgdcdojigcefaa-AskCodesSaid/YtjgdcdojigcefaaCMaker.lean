/- The contracts of cells.Maker: what each call makes of a maker that lies in memory. -/
import Derived.Test.YtjgdcdojigcefaaCCat
namespace Go.Proofs.Ytjgdcdojigcefaa
open Go.RowKit

set_option maxHeartbeats 400000 in
theorem new_any (w : World) : Calls Try.prog 25 #[] w fun e w' => e = .returned (.pointer (some ⟨w.heap.size, 0, none⟩)) ∧ IsM w' w.heap.size none ([], false) ∧ Below w.heap.size w w' := by
  go_enter Try.func25, Try.ntmps25
  go_wp2
  go_ret
  exact ⟨rfl, ⟨_, block_new _ _, World.ownsRow_nil _ _ _ _, rfl⟩, (Below.refl _ _).alloc (Nat.le_refl _) _⟩

set_option maxHeartbeats 400000 in
theorem put_nil (v : Value) (w : World) : Calls Try.prog 52 #[.pointer none, v] w fun e w' => e = .returned (.pointer none) ∧ w = w' := by
  go_enter Try.func52, Try.ntmps52
  go_wp2
  go_ret
  exact ⟨rfl, rfl⟩

theorem IsM.of_set {w : World} {p : Nat} {v : Value} {l l' : Bool} {bs : List Nat} (h : w.heap[p]? = some (.cells #[v, .bool l] 75 (0, 0))) (ho : w.ownsRow 0 5 1 v bs.length (bs.map u8v)) :
    IsM (w.setCell ⟨p, 1, none⟩ (.bool l')) p v.ownBlock (bs, l') ∧ Fr 0 [] (p :: v.ownBlock.toList) w (w.setCell ⟨p, 1, none⟩ (.bool l')) := by
  have f : Fr 0 [] [p] w (w.setCell ⟨p, 1, none⟩ (.bool l')) := (Fr.refl w).setCell (p := ⟨p, 1, none⟩) _ (Nat.zero_le _) (.inl (by simp))
  refine ⟨⟨v, ?_, f.own ho (by simp) (fun k hk => ?_), rfl⟩, f.mono (Nat.le_refl _) (by simp) (by simp)⟩
  · rw [block_set h]; rfl
  · have := own_ne ho h (by decide)
    simp
    rintro rfl
    exact this hk

set_option maxRecDepth 100000 in
set_option maxHeartbeats 1000000 in
theorem put_over (p : Nat) (G : Option Nat) (s : List Nat × Bool) (v : Value) (l : List (List Nat)) (w : World) (hM : IsM w p G s) (hv : Bss w v l) (ht : l.flatten.length ≤ 140737488355328) (hl : s.2 = true ∨ 262144 - (s.1.length : Int) < l.flatten.length) :
    Calls Try.prog 52 #[.pointer (some ⟨p, 0, none⟩), v] w (RetM p G (s.1, true) w) := by
  obtain ⟨bs, lg⟩ := s
  obtain ⟨vm, hp, ho, rfl⟩ := hM
  simp only at hl hp ho
  obtain ⟨A, c, rfl, hnc, hcm, _, _⟩ := own_slice ho
  obtain ⟨n, hn⟩ : ∃ n, bs.length = n := ⟨_, rfl⟩
  rw [hn] at hl hp ho hnc
  simp only [hn]
  obtain ⟨T, hT⟩ : ∃ T, l.flatten.length = T := ⟨_, rfl⟩
  rw [hT] at hl
  have HT := Lib.hid hT
  have HN := Lib.hid hn
  have HO := Lib.hid ho
  have HP := Lib.hid hp
  have hnm : n ≤ 9223372036854775807 := by unfold maxLen at hcm; omega
  clear hT hn ho hp hcm
  rcases lg with _ | _
  · have hl' : 262144 - (n : Int) < T := by simpa using hl
    clear hl
    have HTT := Lib.hid ht
    clear ht
    go_enter Try.func52, Try.ntmps52
    go_wp2_with fail
    refine (concat_any v l w hv HTT.out).mono ?_
    rintro e w1 ⟨v1, rfl, ho1, hb1⟩
    obtain ⟨A1, c1, rfl, hnc1, hcm1, _, _⟩ := own_slice ho1
    rw [HT.out] at hnc1 ⊢
    have hp1 := (Fr.of_below (B := 0) (T := []) (S := []) hb1).keep0 HP.out (by simp)
    have c0 : w1.cell? ⟨p, 0, none⟩ = some (.slice A n c) := cell_at hp1 0
    have c1 : w1.cell? ⟨p, 1, none⟩ = some (.bool false) := cell_at hp1 1
    have c2 := frozen_at hp1 1
    have hfin := IsM.of_set (l' := true) hp1 ((Fr.of_below (B := 0) (T := []) (S := []) hb1).own (HN.out ▸ HO.out : w.ownsRow 0 5 1 (.slice A n c) bs.length (bs.map u8v)) (by simp) (by simp))
    have HF := Lib.hid hfin
    have HB := Lib.hid hb1
    have hm1 : T ≤ 9223372036854775807 := by unfold maxLen at hcm1; omega
    clear ho1 hp1 hfin hb1 hcm1
    go_wp2_with fail
    go_ret
    exact ⟨_, rfl, HF.out.1, (Fr.of_below HB.out).trans HF.out.2, .inl rfl⟩
  · clear hl
    go_enter Try.func52, Try.ntmps52
    go_wp2_with fail
    refine (concat_any v l w hv ht).mono ?_
    rintro e w1 ⟨v1, rfl, ho1, hb1⟩
    have hp1 := (Fr.of_below (B := 0) (T := []) (S := []) hb1).keep0 HP.out (by simp)
    have c0 : w1.cell? ⟨p, 0, none⟩ = some (.slice A n c) := cell_at hp1 0
    have c1 : w1.cell? ⟨p, 1, none⟩ = some (.bool true) := cell_at hp1 1
    have c2 := frozen_at hp1 1
    have hfin := IsM.of_set (l' := true) hp1 ((Fr.of_below (B := 0) (T := []) (S := []) hb1).own (HN.out ▸ HO.out : w.ownsRow 0 5 1 (.slice A n c) bs.length (bs.map u8v)) (by simp) (by simp))
    have HF := Lib.hid hfin
    have HB := Lib.hid hb1
    clear ho1 hp1 hfin hb1
    go_wp2_with fail
    go_ret
    exact ⟨_, rfl, HF.out.1, (Fr.of_below HB.out).trans HF.out.2, .inl rfl⟩

set_option maxRecDepth 100000 in
set_option maxHeartbeats 1000000 in
theorem put_room (p : Nat) (G : Option Nat) (bs : List Nat) (v : Value) (l : List (List Nat)) (w : World) (hM : IsM w p G (bs, false)) (hv : Bss w v l) (hl : ¬ 262144 - (bs.length : Int) < l.flatten.length) :
    Calls Try.prog 52 #[.pointer (some ⟨p, 0, none⟩), v] w (RetM p G (bs ++ l.flatten, false) w) := by
  obtain ⟨i0, hi0, hz0, hz1, hz2⟩ := info_parts Try.infoByte
  obtain ⟨vm, hp, ho, rfl⟩ := hM
  simp only at hp ho
  obtain ⟨A, c, rfl, hnc, hcm, _, _⟩ := own_slice ho
  obtain ⟨n, hn⟩ : ∃ n, bs.length = n := ⟨_, rfl⟩
  rw [hn] at hl hp ho hnc
  simp only [hn]
  obtain ⟨T, hT⟩ : ∃ T, l.flatten.length = T := ⟨_, rfl⟩
  have HT := Lib.hid hT
  have HN := Lib.hid hn
  have HO := Lib.hid ho
  have HP := Lib.hid hp
  rw [hT] at hl
  clear hT hn ho hp hcm
  go_enter Try.func52, Try.ntmps52
  go_wp2_with fail
  refine (concat_any v l w hv (by rw [HT.out]; omega)).mono ?_
  rintro e w1 ⟨v1, rfl, ho1, hb1⟩
  obtain ⟨A1, k1, rfl, hnc1, hcm1, hr1, _⟩ := own_slice ho1
  rw [HT.out] at hnc1 hr1 ⊢
  have f1 : Fr 0 [] [] w w1 := Fr.of_below hb1
  have hp1 := f1.keep0 HP.out (by simp)
  have ho1' := f1.own HO.out (by simp) (by simp)
  have c0 : w1.cell? ⟨p, 0, none⟩ = some (.slice A n c) := cell_at hp1 0
  have c1 : w1.cell? ⟨p, 1, none⟩ = some (.bool false) := cell_at hp1 1
  have c2 := frozen_at hp1 1
  have hpo : Value.ownBlock (.slice A n c) ≠ some p := own_ne HO.out HP.out (by decide)
  have f2 : Fr 0 [] [p] w1 (w1.setCell ⟨p, 1, none⟩ (.bool false)) := (Fr.refl w1).setCell (p := ⟨p, 1, none⟩) _ (Nat.zero_le _) (.inl (by simp))
  have hp2 : (w1.setCell ⟨p, 1, none⟩ (.bool false)).heap[p]? = some (.cells #[.slice A n c, .bool false] 75 (0, 0)) := by rw [block_set hp1]; rfl
  have ho2 := f2.own ho1' (by simp) (fun k hk => by simp; rintro rfl; exact hpo hk)
  have hr2 : Rd (w1.setCell ⟨p, 1, none⟩ (.bool false)) 1 A1 T (l.flatten.map u8v) := hr1.frame f2 (fun _ a ha => by
    simp
    intro e
    exact own_ne ho1 hp1 (by decide) (by subst ha; rw [← e]; rfl))
  have hdec : decide (262144 - (n : Int) < (T : Int)) = false := by simpa using hl
  have hnm : n + T ≤ 262144 := by omega
  have HF2 := Lib.hid ((Fr.of_below hb1 : Fr 0 [] [p] w w1).trans f2)
  have HP2 := Lib.hid hp2
  have HO2 := Lib.hid ho2
  have HR2 := Lib.hid hr2
  have HPO := Lib.hid hpo
  have HU := Lib.hid (u8_one' l.flatten)
  clear ho1 hp1 ho1' hr1 hb1 hcm1 hpo f2 hp2 ho2 hr2 f1
  go_wp2_with (at_builtin
               refine wpList_append_rd_at _ rfl (.tmp 37) (.tmp 38) 26 rfl 0 5 i0 (.int .u8 0) 1 1 Try.underlying26 hi0 hz0 hz1 hz2 rfl (by decide) (.slice A n c) n _ rfl HO2.out A1 T k1 (l.flatten.map u8v) rfl HR2.out HU.out (by unfold maxLen; omega) (by omega) (Nat.zero_le _) ?_
               intro v5 w5 hown5 hgrow5 hat5
               obtain ⟨A5, k5, rfl, _, _, _, _⟩ := own_slice hown5
               have hp5 := hgrow5.block p (lt_of_block HP2.out) (fun e => HPO.out e.symm)
               rw [HP2.out] at hp5
               have d0 : w5.cell? ⟨p, 0, none⟩ = some (.slice A n c) := cell_at hp5 0
               have d2 := frozen_at hp5 0
               have HP5 := Lib.hid hp5
               have HO5 := Lib.hid hown5
               have HG5 := Lib.hid hgrow5
               have HA5 := Lib.hid hat5
               clear hown5 hgrow5 hat5 hp5 c0 c1 c2)
  go_ret
  have f5 : Fr 0 [] (p :: (Value.ownBlock (.slice A n c)).toList) (w1.setCell ⟨p, 1, none⟩ (.bool false)) w5 := (Fr.refl _).grown HG5.out (fun j hj => ⟨Nat.zero_le _, .inl (by simp [hj])⟩)
  have f6 : Fr 0 [] [p] w5 (w5.setCell ⟨p, 0, none⟩ (.slice A5 (n + T) k5)) := (Fr.refl w5).setCell (p := ⟨p, 0, none⟩) _ (Nat.zero_le _) (.inl (by simp))
  have hsz : w.heap.size ≤ (w1.setCell ⟨p, 1, none⟩ (.bool false)).heap.size := HF2.out.size
  refine ⟨Value.ownBlock (.slice A5 (n + T) k5), rfl, ⟨_, ?_, ?_, rfl⟩, (HF2.out.mono (Nat.le_refl _) (by simp) (by simp)).trans (f5.trans (f6.mono (Nat.le_refl _) (by simp) (by simp))), ?_⟩
  · rw [block_set HP5.out]; rfl
  · have e : (bs ++ l.flatten).length = n + T := by rw [List.length_append, HN.out, HT.out]
    have := f6.own HO5.out (by simp) (fun k hk => by
      simp
      rintro rfl
      exact own_ne HO5.out HP5.out (by decide) hk)
    simp only [e, List.map_append]
    exact this
  · rcases HA5.out with h | h
    · exact .inl h
    · exact .inr ⟨_, h, hsz⟩

theorem put_any (p : Nat) (G : Option Nat) (s : List Nat × Bool) (v : Value) (l : List (List Nat)) (w : World) (hM : IsM w p G s) (hv : Bss w v l) (ht : l.flatten.length ≤ 140737488355328) :
    Calls Try.prog 52 #[.pointer (some ⟨p, 0, none⟩), v] w (RetM p G (putS s l.flatten) w) := by
  by_cases h1 : s.2 = true
  · rw [putS_long h1]; exact put_over p G s v l w hM hv ht (.inl h1)
  · by_cases h2 : 262144 - (s.1.length : Int) < l.flatten.length
    · rw [putS_over h2]; exact put_over p G s v l w hM hv ht (.inr h2)
    · have h3 : s.2 = false := by simpa using h1
      rw [putS_fits h3 h2]
      obtain ⟨bs, lg⟩ := s
      simp only at h3
      subst h3
      exact put_room p G bs v l w hM hv h2
end Go.Proofs.Ytjgdcdojigcefaa
