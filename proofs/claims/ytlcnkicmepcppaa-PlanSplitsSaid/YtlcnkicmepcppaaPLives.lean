/- The law's lives: a small order, split. -/
import Derived.Test.YtlcnkicmepcppaaPLPure
namespace Go.Proofs.Ytlcnkicmepcppaa
open Go.RowKit

def liveW (w : World) : World := ((((w.alloc (.cells #[.string { data := #[97] }, .int .i64 5] 40)).alloc (.cells #[.string { data := #[97] }, .int .i64 3] 40)).alloc (.cells #[.string { data := #[97] }, .int .i64 9] 40)).alloc (.cells #[.slice (some ⟨w.heap.size + 1, 0, none⟩) 1 1, .slice (some ⟨w.heap.size + 1 + 1, 0, none⟩) 1 1] 26))
/-- A block of one item. -/
theorem rdi_one {W : World} {g : Nat} {s : ByteArray} {n : Int} {T : TypeId} (h : W.heap[g]? = some (.cells #[.string s, .int .i64 n] T (0, 0))) : RdI W (.slice (some ⟨g, 0, none⟩) 1 1) [⟨s, n⟩] :=
  ⟨_, 1, rfl, Nat.le_refl _, by unfold maxLen; omega, rfl, fun _ => ⟨_, _, rfl, lt_of_block h, fun j u hu => by
    match j, hu with
    | 0, hu => simp [encI] at hu; subst hu; rw [cell_at h]; rfl
    | 1, hu => simp [encI] at hu; subst hu; rw [cell_at h]; rfl
    | j + 2, hu => simp [encI] at hu⟩⟩
theorem rd_two {W : World} {g : Nat} {x y : Value} {T : TypeId} (h : W.heap[g]? = some (.cells #[x, y] T (0, 0))) : Rd W 1 (some ⟨g, 0, none⟩) 2 [x, y] :=
  ⟨rfl, fun _ => ⟨_, _, rfl, lt_of_block h, fun j u hu => by
    match j, hu with
    | 0, hu => simp at hu; subst hu; rw [cell_at h]; rfl
    | 1, hu => simp at hu; subst hu; rw [cell_at h]; rfl
    | j + 2, hu => simp at hu⟩⟩
theorem rd_two1 {W : World} {g : Nat} {x y : Value} {T : TypeId} (h : W.heap[g]? = some (.cells #[x, y] T (0, 0))) : Rd W 1 (some ⟨g, 0, none⟩) 1 [x] :=
  ⟨rfl, fun _ => ⟨_, _, rfl, lt_of_block h, fun j u hu => by
    match j, hu with
    | 0, hu => simp at hu; subst hu; rw [cell_at h]; rfl
    | j + 1, hu => simp at hu⟩⟩
theorem live_world (w : World) : RdI (liveW w) (.slice (some ⟨w.heap.size, 0, none⟩) 1 1) wantL ∧ RdII (liveW w) (.slice (some ⟨w.heap.size + 1 + 1 + 1, 0, none⟩) 2 2) offersL ∧ RdII (liveW w) (.slice (some ⟨w.heap.size + 1 + 1 + 1, 0, none⟩) 1 2) [[⟨gA, 3⟩]] ∧ Below w.heap.size w (liveW w) := by
  unfold liveW
  obtain ⟨a, ha⟩ : ∃ a, w.alloc (.cells #[.string { data := #[97] }, .int .i64 5] 40) = a := ⟨_, rfl⟩
  have ka := block_new w (.cells #[.string { data := #[97] }, .int .i64 5] 40)
  have ba : Below w.heap.size w a := by rw [← ha]; exact (Below.refl _ w).alloc (Nat.le_refl _) _
  have sa : a.heap.size = w.heap.size + 1 := by rw [← ha]; exact World.size_alloc ..
  rw [ha] at ka ⊢
  obtain ⟨b, hb⟩ : ∃ b, a.alloc (.cells #[.string { data := #[97] }, .int .i64 3] 40) = b := ⟨_, rfl⟩
  have kb := block_new a (.cells #[.string { data := #[97] }, .int .i64 3] 40)
  have bb : Below a.heap.size a b := by rw [← hb]; exact (Below.refl _ a).alloc (Nat.le_refl _) _
  have sb : b.heap.size = a.heap.size + 1 := by rw [← hb]; exact World.size_alloc ..
  rw [hb] at kb ⊢
  obtain ⟨c, hc⟩ : ∃ c, b.alloc (.cells #[.string { data := #[97] }, .int .i64 9] 40) = c := ⟨_, rfl⟩
  have kc := block_new b (.cells #[.string { data := #[97] }, .int .i64 9] 40)
  have bc : Below b.heap.size b c := by rw [← hc]; exact (Below.refl _ b).alloc (Nat.le_refl _) _
  have sc : c.heap.size = b.heap.size + 1 := by rw [← hc]; exact World.size_alloc ..
  rw [hc] at kc ⊢
  obtain ⟨d, hd⟩ : ∃ d, c.alloc (.cells #[.slice (some ⟨w.heap.size + 1, 0, none⟩) 1 1, .slice (some ⟨w.heap.size + 1 + 1, 0, none⟩) 1 1] 26) = d := ⟨_, rfl⟩
  have kd := block_new c (.cells #[.slice (some ⟨w.heap.size + 1, 0, none⟩) 1 1, .slice (some ⟨w.heap.size + 1 + 1, 0, none⟩) 1 1] 26)
  have bd : Below c.heap.size c d := by rw [← hd]; exact (Below.refl _ c).alloc (Nat.le_refl _) _
  rw [hd] at kd ⊢
  have bcd : Below b.heap.size b d := bc.trans (bd.mono bc.size)
  have bbd : Below a.heap.size a d := bb.trans (bcd.mono bb.size)
  have rA := (rdi_one ka).below bbd
  have rB := (rdi_one kb).below bcd
  have rC := (rdi_one kc).below bd
  have e3 : c.heap.size = w.heap.size + 1 + 1 + 1 := by omega
  have e2 : b.heap.size = w.heap.size + 1 + 1 := by omega
  rw [e3] at kd
  rw [sa] at rB
  rw [e2] at rC
  refine ⟨rA, ⟨_, 2, _, rfl, Nat.le_refl _, by unfold maxLen; omega, rd_two kd, fun j hj => ?_⟩, ⟨_, 2, _, rfl, by simp, by unfold maxLen; omega, rd_two1 kd, fun j hj => ?_⟩, ba.trans (bbd.mono ba.size)⟩
  · match j, hj with
    | 0, _ => exact ⟨_, rfl, rB⟩
    | 1, _ => exact ⟨_, rfl, rC⟩
    | j + 2, hj => exact absurd hj (by show ¬ j + 2 < 2; omega)
  · obtain rfl : j = 0 := by simp at hj; exact hj
    exact ⟨_, rfl, rB⟩
theorem gA_size : gA.size ≤ 9223372036854775807 := by decide
theorem live_bd {n : Int} (h1 : 0 ≤ n) (h2 : n ≤ 9) : BdL [⟨gA, n⟩] := by
  refine ⟨fun z hz => ?_, by simp⟩
  obtain rfl : z = ⟨gA, n⟩ := by simpa using hz
  exact ⟨gA_size, by show -9223372036854775808 ≤ n; omega, by show n ≤ 9223372036854775807; omega⟩
theorem live_bd1 : BdL wantL := live_bd (by omega) (by omega)
theorem live_bd2 : ∀ l ∈ offersL, BdL l := fun l hl => by
  simp [offersL] at hl
  rcases hl with rfl | rfl <;> exact live_bd (by omega) (by omega)
theorem live_bd3 : ∀ l ∈ [[(⟨gA, 3⟩ : It)]], BdL l := fun l hl => by
  simp at hl
  subst hl
  exact live_bd (by omega) (by omega)
set_option maxRecDepth 100000 in
set_option maxHeartbeats 1000000 in
theorem plives_any (w : World) : Calls Try.prog 9 #[] w fun e W => e = .returned (.bool true) ∧ Below w.heap.size w W := by
  obtain ⟨hr1, hr2, hr3, hb⟩ := live_world w
  obtain ⟨W, hW⟩ : ∃ W, liveW w = W := ⟨_, rfl⟩
  rw [hW] at hr1 hr2 hr3 hb
  unfold liveW at hW
  have HW := Lib.hid hW
  have HR1 := Lib.hid hr1
  have HR2 := Lib.hid hr2
  have HR3 := Lib.hid hr3
  have HB := Lib.hid hb
  clear hW hr1 hr2 hr3 hb
  go_enter Try.func9, Try.ntmps9
  go_wp2_with fail
  rw [HW.out]
  refine (psplit_any _ _ wantL offersL W HR1.out HR2.out live_bd1 live_bd2 (by simp [offersL])).mono ?_
  rintro e w1 ⟨u1, u2, rfl, h1, h2, hb1⟩
  rw [live_split] at h1 h2
  obtain ⟨A1, c1, hs1, rfl, _, _, k1, k2⟩ := h1
  obtain ⟨A2, c2, rfl, _, _, _⟩ := h2
  obtain ⟨u, hu, hru⟩ := k2 1 (by simp)
  obtain ⟨Au, cu, rfl, _, _, kr⟩ := hru
  obtain ⟨gu, ou, rfl, hgu, hcu, hcu2⟩ := rdi_at kr (show 0 < [(⟨gA, 2⟩ : It)].length by simp)
  obtain ⟨g1, o1, rfl, hg1, hc1⟩ := k1.2 (by simp)
  have HC1 := Lib.hid (hc1 1 _ hu)
  have HC2 := Lib.hid hcu2
  have HG1 := Lib.hid hg1
  have HGU := Lib.hid hgu
  have HB1 := Lib.hid hb1
  simp only [List.length_cons, List.length_nil, Nat.zero_add]
  clear k1 k2 hu kr hgu hcu hcu2 hg1 hc1 hb1
  go_wp2_with fail
  refine (fewest_any _ _ wantL offersL w1 (HR1.out.below HB1.out) (HR2.out.below HB1.out) live_bd1 live_bd2 (by simp [offersL])).mono ?_
  rintro e w2 ⟨u3, rfl, h3, hb2⟩
  rw [live_few] at h3
  obtain ⟨A3, c3, rfl, k3⟩ := h3
  obtain ⟨g3, o3, rfl, hg3, hc3⟩ := k3.2 (by simp [intsN])
  have HC3 := Lib.hid (hc3 0 (.int .i64 1) rfl)
  have HG3 := Lib.hid hg3
  have HB2 := Lib.hid hb2
  have hl3 : (intsN [1]).length = 1 := rfl
  rw [hl3]
  clear k3 hg3 hc3 hb2 hl3
  go_wp2_with fail
  refine (visit_any 2 3 w2 (by omega)).mono ?_
  rintro e w3 ⟨u4, rfl, h4, hb3⟩
  rw [live_vis] at h4
  obtain ⟨A4, c4, rfl, _, _, k4, _⟩ := own_slice h4
  obtain ⟨g4, o4, rfl, hg4, hc4⟩ := k4.2 (by simp)
  have HB3 := Lib.hid hb3
  have HB23 := Lib.hid (HB2.out.trans (hb3.mono HB2.out.size))
  have d4 : w3.cell? ⟨g4, o4 + 1, none⟩ = some (.int .i64 0) := hc4 1 _ rfl
  have d3 : w3.cell? ⟨g3, o3, none⟩ = some (.int .i64 1) := (HB3.out.cell (p := ⟨g3, o3 + 0, none⟩) HG3.out).trans HC3.out
  have d1 : w3.cell? ⟨g1, o1 + 1, none⟩ = some (.slice (some ⟨gu, ou, none⟩) 1 cu) := (HB23.out.cell (p := ⟨g1, o1 + 1, none⟩) HG1.out).trans HC1.out
  have d2 : w3.cell? ⟨gu, ou + 1, none⟩ = some (.int .i64 2) := (HB23.out.cell (p := ⟨gu, ou + 0 * 2 + 1, none⟩) HGU.out).trans HC2.out |> fun h => by simpa using h
  have HB03 := Lib.hid (HB1.out.trans (HB23.out.mono HB1.out.size))
  simp only [List.length_cons, List.length_nil, Nat.zero_add, Nat.reduceAdd]
  clear k4 hg4 hc4 hb3 h4
  go_wp2_with fail
  refine (pen_any _ _ wantL offersL w3 (HR1.out.below HB03.out) (HR2.out.below HB03.out) live_bd1 live_bd2 (by simp [offersL])).mono ?_
  rintro e w4 ⟨rfl, hb4⟩
  rw [live_en]
  have HB04 := Lib.hid (HB03.out.trans (hb4.mono HB03.out.size))
  clear hb4
  go_wp2_with fail
  refine (pmiss_any _ _ wantL [[⟨gA, 3⟩]] w4 (HR1.out.below HB04.out) (HR3.out.below HB04.out) live_bd1 live_bd3 (by simp)).mono ?_
  rintro e w5 ⟨u5, rfl, h5, hb5⟩
  rw [live_miss] at h5
  obtain ⟨A5, c5, rfl, _⟩ := h5
  have HB05 := Lib.hid (HB04.out.trans (hb5.mono HB04.out.size))
  simp only [List.length_cons, List.length_nil, Nat.zero_add]
  clear hb5
  go_wp2
  go_ret
  exact ⟨by simp, HB.out.trans (HB05.out.mono HB.out.size)⟩
end Go.Proofs.Ytlcnkicmepcppaa
