/- The law AskOrders: the walk. -/
import Derived.Test.YtjgdcdojigcefaaALives
import Derived.Test.YtjgdcdojigcefaaAOpen
import Derived.Test.YtjgdcdojigcefaaAXMay2
namespace Go.Proofs.Ytjgdcdojigcefaa
open Go.RowKit

set_option maxRecDepth 100000 in
set_option maxHeartbeats 2000000 in
theorem orl_any (a b : Ak) (A : Option Addr) (c : Nat) (B : Option Addr) (d : Nat) (r : Int) (w : World) (hr : Rd w 2 A a.items.length (a.items.flatMap encI)) (hs : Rd w 2 B b.items.length (b.items.flatMap encI)) (ba : BdA a) (bb : BdA b) (hri : In64 r) :
    Calls Try.prog 5 #[akV a (.slice A a.items.length c), akV b (.slice B b.items.length d), .int .i64 r] w fun e W => e = .returned (.bool true) ∧ Below w.heap.size w W := by
  have hga : a.good.size ≤ 9223372036854775807 := by have := ba.good; omega
  have hgb : b.good.size ≤ 9223372036854775807 := by have := bb.good; omega
  have HOA0 := Lib.hid (fun W (hW : Below w.heap.size w W) => aord_any a A c W (hr.below hW) ba.items hga)
  have HOB0 := Lib.hid (fun W (hW : Below w.heap.size w W) => aord_any b B d W (hs.below hW) bb.items hgb)
  have HXM := Lib.hid (fun W (hW : Below w.heap.size w W) => xamay_any a A c W (hr.below hW) ba.items hga)
  obtain ⟨X, hX⟩ : ∃ X, ordA a = X := ⟨_, rfl⟩
  obtain ⟨Y, hY⟩ : ∃ Y, ordA b = Y := ⟨_, rfl⟩
  obtain ⟨MA, hMA⟩ : ∃ MA, mayA a = MA := ⟨_, rfl⟩
  have HYY : Hid (Y ≠ 0 → Y = 64 * b.number + b.client ∧ 0 ≤ b.client ∧ b.client ≤ 63 ∧ 1 ≤ b.number ∧ b.number ≤ 4294967296) := Lib.hid (fun h => by
    rw [← hY] at h ⊢
    unfold ordA at h ⊢
    split at h
    · rename_i h1
      have h2 := mayA_lim h1.2
      rw [if_pos h1]
      exact ⟨rfl, h2.c1.1, h2.c1.2, h2.c2.1, h2.c2.2⟩
    · exact absurd rfl h)
  have HX9 : Hid (X = if a.kind = 1 ∧ MA = true then 64 * a.number + a.client else 0) := Lib.hid (by rw [← hX, ← hMA]; rfl)
  have HLM : Hid (MA = true → 0 ≤ a.client ∧ a.client ≤ 63 ∧ 1 ≤ a.number ∧ a.number ≤ 4294967296) := Lib.hid (fun h => by have h2 := mayA_lim (hMA.trans h); exact ⟨h2.c1.1, h2.c1.2, h2.c2.1, h2.c2.2⟩)
  rw [hX] at HOA0
  rw [hY] at HOB0
  rw [hMA] at HXM
  have hl1 := ba.items.2
  have hl2 := bb.items.2
  have HRI := Lib.hid hri
  obtain ⟨hri1, hri2⟩ := hri
  obtain ⟨hci1, hci2⟩ := ba.client
  obtain ⟨la, hla⟩ : ∃ la, a.items.length = la := ⟨_, rfl⟩
  obtain ⟨lb, hlb⟩ : ∃ lb, b.items.length = lb := ⟨_, rfl⟩
  rw [hla] at HOA0 HXM hl1 ⊢
  rw [hlb] at HOB0 hl2 ⊢
  clear hX hY hMA hla hlb hr hs ba bb hga hgb
  show Calls Try.prog 5 #[.agg #[.int .i64 a.client, .int .i64 a.number, .int .i64 a.kind, .int .i64 a.order, .int .i64 a.region, .int .i64 a.to, .int .i64 a.n, .string a.good, .slice A la c], .agg #[.int .i64 b.client, .int .i64 b.number, .int .i64 b.kind, .int .i64 b.order, .int .i64 b.region, .int .i64 b.to, .int .i64 b.n, .string b.good, .slice B lb d], .int .i64 r] w _
  obtain ⟨W2, hW2⟩ : ∃ W2, ((w.alloc (.cells #[.int .i64 a.client, .int .i64 a.number, .int .i64 a.kind, .int .i64 a.order, .int .i64 a.region, .int .i64 a.to, .int .i64 a.n, .string a.good, .slice A la c] 24)).alloc (.cells #[.int .i64 b.client, .int .i64 b.number, .int .i64 b.kind, .int .i64 b.order, .int .i64 b.region, .int .i64 b.to, .int .i64 b.n, .string b.good, .slice B lb d] 24)) = W2 := ⟨_, rfl⟩
  have ka0 := block_alloc (block_new w (.cells #[.int .i64 a.client, .int .i64 a.number, .int .i64 a.kind, .int .i64 a.order, .int .i64 a.region, .int .i64 a.to, .int .i64 a.n, .string a.good, .slice A la c] 24)) (.cells #[.int .i64 b.client, .int .i64 b.number, .int .i64 b.kind, .int .i64 b.order, .int .i64 b.region, .int .i64 b.to, .int .i64 b.n, .string b.good, .slice B lb d] 24)
  have kb0 := block_new (w.alloc (.cells #[.int .i64 a.client, .int .i64 a.number, .int .i64 a.kind, .int .i64 a.order, .int .i64 a.region, .int .i64 a.to, .int .i64 a.n, .string a.good, .slice A la c] 24)) (.cells #[.int .i64 b.client, .int .i64 b.number, .int .i64 b.kind, .int .i64 b.order, .int .i64 b.region, .int .i64 b.to, .int .i64 b.n, .string b.good, .slice B lb d] 24)
  have hb0 := ((Below.refl _ w).alloc (Nat.le_refl _) (.cells #[.int .i64 a.client, .int .i64 a.number, .int .i64 a.kind, .int .i64 a.order, .int .i64 a.region, .int .i64 a.to, .int .i64 a.n, .string a.good, .slice A la c] 24)).alloc (by simp) (.cells #[.int .i64 b.client, .int .i64 b.number, .int .i64 b.kind, .int .i64 b.order, .int .i64 b.region, .int .i64 b.to, .int .i64 b.n, .string b.good, .slice B lb d] 24)
  simp only [World.size_alloc] at kb0
  rw [hW2] at ka0 kb0 hb0
  have HB2 := Lib.hid hb0
  have HCA : Hid (∀ W, Below W2.heap.size W2 W → W.heap[w.heap.size]? = some (.cells #[.int .i64 a.client, .int .i64 a.number, .int .i64 a.kind, .int .i64 a.order, .int .i64 a.region, .int .i64 a.to, .int .i64 a.n, .string a.good, .slice A la c] 24 (0, 0))) := Lib.hid (fun W hW => (hW.block _ (lt_of_block ka0)).trans ka0)
  have HCB : Hid (∀ W, Below W2.heap.size W2 W → W.heap[w.heap.size + 1]? = some (.cells #[.int .i64 b.client, .int .i64 b.number, .int .i64 b.kind, .int .i64 b.order, .int .i64 b.region, .int .i64 b.to, .int .i64 b.n, .string b.good, .slice B lb d] 24 (0, 0))) := Lib.hid (fun W hW => (hW.block _ (lt_of_block kb0)).trans kb0)
  have HW2 := Lib.hid hW2
  clear hW2 ka0 kb0 hb0
  have HOA := Lib.hid (fun W (hW : Below W2.heap.size W2 W) => HOA0.out W (HB2.out.trans (hW.mono HB2.out.size)))
  have HOB := Lib.hid (fun W (hW : Below W2.heap.size W2 W) => HOB0.out W (HB2.out.trans (hW.mono HB2.out.size)))
  have ra0 : ((w.alloc (.cells #[.int .i64 a.client, .int .i64 a.number, .int .i64 a.kind, .int .i64 a.order, .int .i64 a.region, .int .i64 a.to, .int .i64 a.n, .string a.good, .slice A la c] 24)).alloc (.cells #[.int .i64 b.client, .int .i64 b.number, .int .i64 b.kind, .int .i64 b.order, .int .i64 b.region, .int .i64 b.to, .int .i64 b.n, .string b.good, .slice B lb d] 24)).cell? ⟨w.heap.size, 0, none⟩ = some (.int .i64 a.client) := by rw [HW2.out]; exact cell_at (HCA.out W2 (Below.refl _ _)) 0
  have ra1 : ((w.alloc (.cells #[.int .i64 a.client, .int .i64 a.number, .int .i64 a.kind, .int .i64 a.order, .int .i64 a.region, .int .i64 a.to, .int .i64 a.n, .string a.good, .slice A la c] 24)).alloc (.cells #[.int .i64 b.client, .int .i64 b.number, .int .i64 b.kind, .int .i64 b.order, .int .i64 b.region, .int .i64 b.to, .int .i64 b.n, .string b.good, .slice B lb d] 24)).cell? ⟨w.heap.size, 1, none⟩ = some (.int .i64 a.number) := by rw [HW2.out]; exact cell_at (HCA.out W2 (Below.refl _ _)) 1
  have ra2 : ((w.alloc (.cells #[.int .i64 a.client, .int .i64 a.number, .int .i64 a.kind, .int .i64 a.order, .int .i64 a.region, .int .i64 a.to, .int .i64 a.n, .string a.good, .slice A la c] 24)).alloc (.cells #[.int .i64 b.client, .int .i64 b.number, .int .i64 b.kind, .int .i64 b.order, .int .i64 b.region, .int .i64 b.to, .int .i64 b.n, .string b.good, .slice B lb d] 24)).cell? ⟨w.heap.size, 2, none⟩ = some (.int .i64 a.kind) := by rw [HW2.out]; exact cell_at (HCA.out W2 (Below.refl _ _)) 2
  have ra3 : ((w.alloc (.cells #[.int .i64 a.client, .int .i64 a.number, .int .i64 a.kind, .int .i64 a.order, .int .i64 a.region, .int .i64 a.to, .int .i64 a.n, .string a.good, .slice A la c] 24)).alloc (.cells #[.int .i64 b.client, .int .i64 b.number, .int .i64 b.kind, .int .i64 b.order, .int .i64 b.region, .int .i64 b.to, .int .i64 b.n, .string b.good, .slice B lb d] 24)).cell? ⟨w.heap.size, 3, none⟩ = some (.int .i64 a.order) := by rw [HW2.out]; exact cell_at (HCA.out W2 (Below.refl _ _)) 3
  have ra4 : ((w.alloc (.cells #[.int .i64 a.client, .int .i64 a.number, .int .i64 a.kind, .int .i64 a.order, .int .i64 a.region, .int .i64 a.to, .int .i64 a.n, .string a.good, .slice A la c] 24)).alloc (.cells #[.int .i64 b.client, .int .i64 b.number, .int .i64 b.kind, .int .i64 b.order, .int .i64 b.region, .int .i64 b.to, .int .i64 b.n, .string b.good, .slice B lb d] 24)).cell? ⟨w.heap.size, 4, none⟩ = some (.int .i64 a.region) := by rw [HW2.out]; exact cell_at (HCA.out W2 (Below.refl _ _)) 4
  have ra5 : ((w.alloc (.cells #[.int .i64 a.client, .int .i64 a.number, .int .i64 a.kind, .int .i64 a.order, .int .i64 a.region, .int .i64 a.to, .int .i64 a.n, .string a.good, .slice A la c] 24)).alloc (.cells #[.int .i64 b.client, .int .i64 b.number, .int .i64 b.kind, .int .i64 b.order, .int .i64 b.region, .int .i64 b.to, .int .i64 b.n, .string b.good, .slice B lb d] 24)).cell? ⟨w.heap.size, 5, none⟩ = some (.int .i64 a.to) := by rw [HW2.out]; exact cell_at (HCA.out W2 (Below.refl _ _)) 5
  have ra6 : ((w.alloc (.cells #[.int .i64 a.client, .int .i64 a.number, .int .i64 a.kind, .int .i64 a.order, .int .i64 a.region, .int .i64 a.to, .int .i64 a.n, .string a.good, .slice A la c] 24)).alloc (.cells #[.int .i64 b.client, .int .i64 b.number, .int .i64 b.kind, .int .i64 b.order, .int .i64 b.region, .int .i64 b.to, .int .i64 b.n, .string b.good, .slice B lb d] 24)).cell? ⟨w.heap.size, 6, none⟩ = some (.int .i64 a.n) := by rw [HW2.out]; exact cell_at (HCA.out W2 (Below.refl _ _)) 6
  have ra7 : ((w.alloc (.cells #[.int .i64 a.client, .int .i64 a.number, .int .i64 a.kind, .int .i64 a.order, .int .i64 a.region, .int .i64 a.to, .int .i64 a.n, .string a.good, .slice A la c] 24)).alloc (.cells #[.int .i64 b.client, .int .i64 b.number, .int .i64 b.kind, .int .i64 b.order, .int .i64 b.region, .int .i64 b.to, .int .i64 b.n, .string b.good, .slice B lb d] 24)).cell? ⟨w.heap.size, 7, none⟩ = some (.string a.good) := by rw [HW2.out]; exact cell_at (HCA.out W2 (Below.refl _ _)) 7
  have ra8 : ((w.alloc (.cells #[.int .i64 a.client, .int .i64 a.number, .int .i64 a.kind, .int .i64 a.order, .int .i64 a.region, .int .i64 a.to, .int .i64 a.n, .string a.good, .slice A la c] 24)).alloc (.cells #[.int .i64 b.client, .int .i64 b.number, .int .i64 b.kind, .int .i64 b.order, .int .i64 b.region, .int .i64 b.to, .int .i64 b.n, .string b.good, .slice B lb d] 24)).cell? ⟨w.heap.size, 8, none⟩ = some (.slice A la c) := by rw [HW2.out]; exact cell_at (HCA.out W2 (Below.refl _ _)) 8
  have rb0 : ((w.alloc (.cells #[.int .i64 a.client, .int .i64 a.number, .int .i64 a.kind, .int .i64 a.order, .int .i64 a.region, .int .i64 a.to, .int .i64 a.n, .string a.good, .slice A la c] 24)).alloc (.cells #[.int .i64 b.client, .int .i64 b.number, .int .i64 b.kind, .int .i64 b.order, .int .i64 b.region, .int .i64 b.to, .int .i64 b.n, .string b.good, .slice B lb d] 24)).cell? ⟨w.heap.size + 1, 0, none⟩ = some (.int .i64 b.client) := by rw [HW2.out]; exact cell_at (HCB.out W2 (Below.refl _ _)) 0
  have rb1 : ((w.alloc (.cells #[.int .i64 a.client, .int .i64 a.number, .int .i64 a.kind, .int .i64 a.order, .int .i64 a.region, .int .i64 a.to, .int .i64 a.n, .string a.good, .slice A la c] 24)).alloc (.cells #[.int .i64 b.client, .int .i64 b.number, .int .i64 b.kind, .int .i64 b.order, .int .i64 b.region, .int .i64 b.to, .int .i64 b.n, .string b.good, .slice B lb d] 24)).cell? ⟨w.heap.size + 1, 1, none⟩ = some (.int .i64 b.number) := by rw [HW2.out]; exact cell_at (HCB.out W2 (Below.refl _ _)) 1
  have rb2 : ((w.alloc (.cells #[.int .i64 a.client, .int .i64 a.number, .int .i64 a.kind, .int .i64 a.order, .int .i64 a.region, .int .i64 a.to, .int .i64 a.n, .string a.good, .slice A la c] 24)).alloc (.cells #[.int .i64 b.client, .int .i64 b.number, .int .i64 b.kind, .int .i64 b.order, .int .i64 b.region, .int .i64 b.to, .int .i64 b.n, .string b.good, .slice B lb d] 24)).cell? ⟨w.heap.size + 1, 2, none⟩ = some (.int .i64 b.kind) := by rw [HW2.out]; exact cell_at (HCB.out W2 (Below.refl _ _)) 2
  have rb3 : ((w.alloc (.cells #[.int .i64 a.client, .int .i64 a.number, .int .i64 a.kind, .int .i64 a.order, .int .i64 a.region, .int .i64 a.to, .int .i64 a.n, .string a.good, .slice A la c] 24)).alloc (.cells #[.int .i64 b.client, .int .i64 b.number, .int .i64 b.kind, .int .i64 b.order, .int .i64 b.region, .int .i64 b.to, .int .i64 b.n, .string b.good, .slice B lb d] 24)).cell? ⟨w.heap.size + 1, 3, none⟩ = some (.int .i64 b.order) := by rw [HW2.out]; exact cell_at (HCB.out W2 (Below.refl _ _)) 3
  have rb4 : ((w.alloc (.cells #[.int .i64 a.client, .int .i64 a.number, .int .i64 a.kind, .int .i64 a.order, .int .i64 a.region, .int .i64 a.to, .int .i64 a.n, .string a.good, .slice A la c] 24)).alloc (.cells #[.int .i64 b.client, .int .i64 b.number, .int .i64 b.kind, .int .i64 b.order, .int .i64 b.region, .int .i64 b.to, .int .i64 b.n, .string b.good, .slice B lb d] 24)).cell? ⟨w.heap.size + 1, 4, none⟩ = some (.int .i64 b.region) := by rw [HW2.out]; exact cell_at (HCB.out W2 (Below.refl _ _)) 4
  have rb5 : ((w.alloc (.cells #[.int .i64 a.client, .int .i64 a.number, .int .i64 a.kind, .int .i64 a.order, .int .i64 a.region, .int .i64 a.to, .int .i64 a.n, .string a.good, .slice A la c] 24)).alloc (.cells #[.int .i64 b.client, .int .i64 b.number, .int .i64 b.kind, .int .i64 b.order, .int .i64 b.region, .int .i64 b.to, .int .i64 b.n, .string b.good, .slice B lb d] 24)).cell? ⟨w.heap.size + 1, 5, none⟩ = some (.int .i64 b.to) := by rw [HW2.out]; exact cell_at (HCB.out W2 (Below.refl _ _)) 5
  have rb6 : ((w.alloc (.cells #[.int .i64 a.client, .int .i64 a.number, .int .i64 a.kind, .int .i64 a.order, .int .i64 a.region, .int .i64 a.to, .int .i64 a.n, .string a.good, .slice A la c] 24)).alloc (.cells #[.int .i64 b.client, .int .i64 b.number, .int .i64 b.kind, .int .i64 b.order, .int .i64 b.region, .int .i64 b.to, .int .i64 b.n, .string b.good, .slice B lb d] 24)).cell? ⟨w.heap.size + 1, 6, none⟩ = some (.int .i64 b.n) := by rw [HW2.out]; exact cell_at (HCB.out W2 (Below.refl _ _)) 6
  have rb7 : ((w.alloc (.cells #[.int .i64 a.client, .int .i64 a.number, .int .i64 a.kind, .int .i64 a.order, .int .i64 a.region, .int .i64 a.to, .int .i64 a.n, .string a.good, .slice A la c] 24)).alloc (.cells #[.int .i64 b.client, .int .i64 b.number, .int .i64 b.kind, .int .i64 b.order, .int .i64 b.region, .int .i64 b.to, .int .i64 b.n, .string b.good, .slice B lb d] 24)).cell? ⟨w.heap.size + 1, 7, none⟩ = some (.string b.good) := by rw [HW2.out]; exact cell_at (HCB.out W2 (Below.refl _ _)) 7
  have rb8 : ((w.alloc (.cells #[.int .i64 a.client, .int .i64 a.number, .int .i64 a.kind, .int .i64 a.order, .int .i64 a.region, .int .i64 a.to, .int .i64 a.n, .string a.good, .slice A la c] 24)).alloc (.cells #[.int .i64 b.client, .int .i64 b.number, .int .i64 b.kind, .int .i64 b.order, .int .i64 b.region, .int .i64 b.to, .int .i64 b.n, .string b.good, .slice B lb d] 24)).cell? ⟨w.heap.size + 1, 8, none⟩ = some (.slice B lb d) := by rw [HW2.out]; exact cell_at (HCB.out W2 (Below.refl _ _)) 8
  go_enter Try.func5, Try.ntmps5
  by_cases h1 : (100 : Int) < la
  · go_wp2_with fail
    rw [HW2.out]
    refine (alives_any W2).mono ?_
    rintro e w3 ⟨rfl, hb⟩
    have HC3 := Lib.hid hb
    clear hb ra0 ra1 ra2 ra3 ra4 ra5 ra6 ra7 ra8 rb0 rb1 rb2 rb3 rb4 rb5 rb6 rb7 rb8
    go_wp2
    go_ret
    exact ⟨ret_bool (by simp), HB2.out.trans (HC3.out.mono HB2.out.size)⟩
  by_cases h2 : (100 : Int) < lb
  · go_wp2_with fail
    rw [HW2.out]
    refine (alives_any W2).mono ?_
    rintro e w3 ⟨rfl, hb⟩
    have HC3 := Lib.hid hb
    clear hb ra0 ra1 ra2 ra3 ra4 ra5 ra6 ra7 ra8 rb0 rb1 rb2 rb3 rb4 rb5 rb6 rb7 rb8
    go_wp2
    go_ret
    exact ⟨ret_bool (by simp), HB2.out.trans (HC3.out.mono HB2.out.size)⟩
  go_wp2_with fail
  rw [HW2.out]
  clear ra0 ra1 ra2 ra3 ra4 ra5 ra6 ra7 ra8 rb0 rb1 rb2 rb3 rb4 rb5 rb6 rb7 rb8
  refine wp_region_flow (fun W => Below W2.heap.size W2 W) [0, 2, 1, 3, 4, 5] (by kernel_rfl) (by kernel_rfl) (by kernel_rfl) ((Below.refl _ W2).drew) ?_
  refine flow_val ?_ rfl (by kernel_rfl) (by rfl) (fun W hW => ?_) ?_
  rotate_left 1
  · have a0 := cell_at (HCA.out W hW) 0; have a1 := cell_at (HCA.out W hW) 1; have a2 := cell_at (HCA.out W hW) 2; have a3 := cell_at (HCA.out W hW) 3; have a4 := cell_at (HCA.out W hW) 4; have a5 := cell_at (HCA.out W hW) 5; have a6 := cell_at (HCA.out W hW) 6; have a7 := cell_at (HCA.out W hW) 7; have a8 := cell_at (HCA.out W hW) 8; go_simp <;> with_reducible rfl
  simp only [Act.put, List.setIfInBounds_toArray, List.set_cons_succ, List.set_cons_zero]
  refine flow_val ?_ rfl (by kernel_rfl) (by rfl) (fun W hW => ?_) ?_
  rotate_left 1
  · have b0 := cell_at (HCB.out W hW) 0; have b1 := cell_at (HCB.out W hW) 1; have b2 := cell_at (HCB.out W hW) 2; have b3 := cell_at (HCB.out W hW) 3; have b4 := cell_at (HCB.out W hW) 4; have b5 := cell_at (HCB.out W hW) 5; have b6 := cell_at (HCB.out W hW) 6; have b7 := cell_at (HCB.out W hW) 7; have b8 := cell_at (HCB.out W hW) 8; go_simp <;> with_reducible rfl
  simp only [Act.put, List.setIfInBounds_toArray, List.set_cons_succ, List.set_cons_zero]
  refine flow_call (.int .i64 X) rfl (by kernel_rfl) (by rfl) (by kernel_rfl) (fun W hW => ⟨_, _, _, by go_simp, (HOA.out W hW).mono fun e w' ⟨he, hb⟩ => ⟨he, hW.trans (hb.mono hW.size)⟩⟩) ?_
  simp only [Act.put, List.setIfInBounds_toArray, List.set_cons_succ, List.set_cons_zero]
  refine flow_call (.int .i64 Y) rfl (by kernel_rfl) (by rfl) (by kernel_rfl) (fun W hW => ⟨_, _, _, by go_simp, (HOB.out W hW.1).mono fun e w' ⟨he, hb⟩ => ⟨he, ⟨hW.1.trans (hb.mono hW.1.size), trivial⟩⟩⟩) ?_
  simp only [Act.put, List.setIfInBounds_toArray, List.set_cons_succ, List.set_cons_zero]
  refine flow_val ?_ rfl (by kernel_rfl) (by rfl) (fun W hW => ?_) ?_
  rotate_left 1
  · go_simp <;> with_reducible rfl
  simp only [Act.put, List.setIfInBounds_toArray, List.set_cons_succ, List.set_cons_zero]
  refine flow_val ?_ rfl (by kernel_rfl) (by rfl) (fun W hW => ?_) ?_
  rotate_left 1
  · go_simp <;> with_reducible rfl
  simp only [Act.put, List.setIfInBounds_toArray, List.set_cons_succ, List.set_cons_zero]
  refine flow_done ?_
  intro W hW
  have HC3 := Lib.hid (hW.1.1)
  clear hW
  obtain ⟨w3, hw⟩ : ∃ w3, w3 = W := ⟨_, rfl⟩
  subst hw
  have a0 := cell_at (HCA.out w3 HC3.out) 0
  have a1 := cell_at (HCA.out w3 HC3.out) 1
  have a2 := cell_at (HCA.out w3 HC3.out) 2
  have a3 := cell_at (HCA.out w3 HC3.out) 3
  have a4 := cell_at (HCA.out w3 HC3.out) 4
  have a5 := cell_at (HCA.out w3 HC3.out) 5
  have a6 := cell_at (HCA.out w3 HC3.out) 6
  have a7 := cell_at (HCA.out w3 HC3.out) 7
  have a8 := cell_at (HCA.out w3 HC3.out) 8
  go_wp2_with fail
  refine (HXM.out w3 (HB2.out.trans (HC3.out.mono HB2.out.size))).mono ?_
  rintro e w4 ⟨rfl, hb⟩
  have HC4 := Lib.hid (HC3.out.trans (hb.mono HC3.out.size))
  clear hb a0 a1 a2 a3 a4 a5 a6 a7 a8
  have a0 := cell_at (HCA.out w4 HC4.out) 0
  have a1 := cell_at (HCA.out w4 HC4.out) 1
  have b0 := cell_at (HCB.out w4 HC4.out) 0
  have b1 := cell_at (HCB.out w4 HC4.out) 1
  have a2 := cell_at (HCA.out w4 HC4.out) 2
  cases MA
  case false =>
    obtain rfl : X = 0 := by rw [HX9.out, if_neg (by simp)]
    have HX0 : Hid (decide ((0 : Int) < 0) = false) := Lib.hid (by decide)
    clear HX9 HLM
    by_cases hc0 : a.client < 0
    · have HHM := Lib.hid (fun W => home_any a.client r W)
      rw [show homeA a.client r = 0 by unfold homeA; rw [if_pos (.inl hc0)]] at HHM
      go_wp2_with fail
      clear a0 a1 b0 b1
      refine wp_region_flow (fun W => Below W2.heap.size W2 W) [0, 1, 2, 3, 4, 5, 6, 7, 8, 9, 10, 11, 12, 13, 14, 15, 16, 17, 18, 19, 20, 21, 22, 23, 24, 25, 26, 27, 28, 29] (by kernel_rfl) (by kernel_rfl) (by kernel_rfl) (HC4.out.drew) ?_
      refine flow_call (.bool true) rfl (by kernel_rfl) (by rfl) (by kernel_rfl) (fun W hW => ⟨_, _, _, by go_simp, (alives_any W).mono fun e w' ⟨he, hb⟩ => ⟨he, hW.trans (hb.mono hW.size)⟩⟩) ?_
      simp only [Act.put, List.setIfInBounds_toArray, List.set_cons_succ, List.set_cons_zero]
      refine flow_val ?_ rfl (by kernel_rfl) (by rfl) (fun W hW => ?_) ?_
      rotate_left 1
      · go_simp <;> with_reducible rfl
      simp only [Act.put, List.setIfInBounds_toArray, List.set_cons_succ, List.set_cons_zero]
      refine flow_val ?_ rfl (by kernel_rfl) (by rfl) (fun W hW => ?_) ?_
      rotate_left 1
      · go_simp <;> with_reducible rfl
      simp only [Act.put, List.setIfInBounds_toArray, List.set_cons_succ, List.set_cons_zero]
      refine flow_val ?_ rfl (by kernel_rfl) (by rfl) (fun W hW => ?_) ?_
      rotate_left 1
      · go_simp <;> with_reducible rfl
      simp only [Act.put, List.setIfInBounds_toArray, List.set_cons_succ, List.set_cons_zero]
      refine flow_val ?_ rfl (by kernel_rfl) (by rfl) (fun W hW => ?_) ?_
      rotate_left 1
      · go_simp <;> with_reducible rfl
      simp only [Act.put, List.setIfInBounds_toArray, List.set_cons_succ, List.set_cons_zero]
      refine flow_val ?_ rfl (by kernel_rfl) (by rfl) (fun W hW => ?_) ?_
      rotate_left 1
      · go_simp <;> with_reducible rfl
      simp only [Act.put, List.setIfInBounds_toArray, List.set_cons_succ, List.set_cons_zero]
      refine flow_val ?_ rfl (by kernel_rfl) (by rfl) (fun W hW => ?_) ?_
      rotate_left 1
      · go_simp <;> with_reducible rfl
      simp only [Act.put, List.setIfInBounds_toArray, List.set_cons_succ, List.set_cons_zero]
      refine flow_val ?_ rfl (by kernel_rfl) (by rfl) (fun W hW => ?_) ?_
      rotate_left 1
      · go_simp <;> with_reducible rfl
      simp only [Act.put, List.setIfInBounds_toArray, List.set_cons_succ, List.set_cons_zero]
      refine flow_val ?_ rfl (by kernel_rfl) (by rfl) (fun W hW => ?_) ?_
      rotate_left 1
      · go_simp <;> with_reducible rfl
      simp only [Act.put, List.setIfInBounds_toArray, List.set_cons_succ, List.set_cons_zero]
      refine flow_val ?_ rfl (by kernel_rfl) (by rfl) (fun W hW => ?_) ?_
      rotate_left 1
      · have a0 := cell_at (HCA.out W hW.1) 0; go_simp <;> with_reducible rfl
      simp only [Act.put, List.setIfInBounds_toArray, List.set_cons_succ, List.set_cons_zero]
      refine flow_val ?_ rfl (by kernel_rfl) (by rfl) (fun W hW => ?_) ?_
      rotate_left 1
      · go_simp <;> with_reducible rfl
      simp only [Act.put, List.setIfInBounds_toArray, List.set_cons_succ, List.set_cons_zero]
      refine flow_quiet (.int .i64 0) rfl (by kernel_rfl) (by rfl) (fun W hW => ⟨_, _, by go_simp, HHM.out W⟩) ?_
      simp only [Act.put, List.setIfInBounds_toArray, List.set_cons_succ, List.set_cons_zero]
      refine flow_val ?_ rfl (by kernel_rfl) (by rfl) (fun W hW => ?_) ?_
      rotate_left 1
      · go_simp <;> with_reducible rfl
      simp only [Act.put, List.setIfInBounds_toArray, List.set_cons_succ, List.set_cons_zero]
      refine flow_val ?_ rfl (by kernel_rfl) (by rfl) (fun W hW => ?_) ?_
      rotate_left 1
      · go_simp <;> with_reducible rfl
      simp only [Act.put, List.setIfInBounds_toArray, List.set_cons_succ, List.set_cons_zero]
      refine flow_val ?_ rfl (by kernel_rfl) (by rfl) (fun W hW => ?_) ?_
      rotate_left 1
      · go_simp <;> with_reducible rfl
      simp only [Act.put, List.setIfInBounds_toArray, List.set_cons_succ, List.set_cons_zero]
      refine flow_val ?_ rfl (by kernel_rfl) (by rfl) (fun W hW => ?_) ?_
      rotate_left 1
      · go_simp <;> with_reducible rfl
      simp only [Act.put, List.setIfInBounds_toArray, List.set_cons_succ, List.set_cons_zero]
      refine flow_val ?_ rfl (by kernel_rfl) (by rfl) (fun W hW => ?_) ?_
      rotate_left 1
      · go_simp <;> with_reducible rfl
      simp only [Act.put, List.setIfInBounds_toArray, List.set_cons_succ, List.set_cons_zero]
      refine flow_val ?_ rfl (by kernel_rfl) (by rfl) (fun W hW => ?_) ?_
      rotate_left 1
      · have q := HX0.out; go_simp <;> with_reducible rfl
      simp only [Act.put, List.setIfInBounds_toArray, List.set_cons_succ, List.set_cons_zero]
      refine flow_val ?_ rfl (by kernel_rfl) (by rfl) (fun W hW => ?_) ?_
      rotate_left 1
      · go_simp <;> with_reducible rfl
      simp only [Act.put, List.setIfInBounds_toArray, List.set_cons_succ, List.set_cons_zero]
      refine flow_off rfl (by kernel_rfl) (by rfl) ?_
      simp only [Act.put, List.setIfInBounds_toArray, List.set_cons_succ, List.set_cons_zero]
      refine flow_off rfl (by kernel_rfl) (by rfl) ?_
      simp only [Act.put, List.setIfInBounds_toArray, List.set_cons_succ, List.set_cons_zero]
      refine flow_off rfl (by kernel_rfl) (by rfl) ?_
      simp only [Act.put, List.setIfInBounds_toArray, List.set_cons_succ, List.set_cons_zero]
      refine flow_off rfl (by kernel_rfl) (by rfl) ?_
      simp only [Act.put, List.setIfInBounds_toArray, List.set_cons_succ, List.set_cons_zero]
      refine flow_off rfl (by kernel_rfl) (by rfl) ?_
      simp only [Act.put, List.setIfInBounds_toArray, List.set_cons_succ, List.set_cons_zero]
      refine flow_off rfl (by kernel_rfl) (by rfl) ?_
      simp only [Act.put, List.setIfInBounds_toArray, List.set_cons_succ, List.set_cons_zero]
      refine flow_off rfl (by kernel_rfl) (by rfl) ?_
      simp only [Act.put, List.setIfInBounds_toArray, List.set_cons_succ, List.set_cons_zero]
      refine flow_off rfl (by kernel_rfl) (by rfl) ?_
      simp only [Act.put, List.setIfInBounds_toArray, List.set_cons_succ, List.set_cons_zero]
      refine flow_off rfl (by kernel_rfl) (by rfl) ?_
      simp only [Act.put, List.setIfInBounds_toArray, List.set_cons_succ, List.set_cons_zero]
      refine flow_val ?_ rfl (by kernel_rfl) (by rfl) (fun W hW => ?_) ?_
      rotate_left 1
      · go_simp <;> with_reducible rfl
      simp only [Act.put, List.setIfInBounds_toArray, List.set_cons_succ, List.set_cons_zero]
      refine flow_val ?_ rfl (by kernel_rfl) (by rfl) (fun W hW => ?_) ?_
      rotate_left 1
      · go_simp <;> with_reducible rfl
      simp only [Act.put, List.setIfInBounds_toArray, List.set_cons_succ, List.set_cons_zero]
      refine flow_done ?_
      intro W hW
      have HC5 := Lib.hid (hW.1)
      clear hW
      obtain ⟨w5, hw⟩ : ∃ w5, w5 = W := ⟨_, rfl⟩
      subst hw
      have a0 := cell_at (HCA.out w5 HC5.out) 0
      have a1 := cell_at (HCA.out w5 HC5.out) 1
      have b0 := cell_at (HCB.out w5 HC5.out) 0
      have b1 := cell_at (HCB.out w5 HC5.out) 1
      go_wp2
      go_ret
      exact ⟨ret_bool (by simp), HB2.out.trans (HC5.out.mono HB2.out.size)⟩
    by_cases hr1 : r < 1
    · have HHM := Lib.hid (fun W => home_any a.client r W)
      rw [show homeA a.client r = 0 by unfold homeA; rw [if_pos (.inr hr1)]] at HHM
      go_wp2_with fail
      clear a0 a1 b0 b1
      refine wp_region_flow (fun W => Below W2.heap.size W2 W) [0, 1, 2, 3, 4, 5, 6, 7, 8, 9, 10, 11, 12, 13, 14, 15, 16, 17, 18, 19, 20, 21, 22, 23, 24, 25, 26, 27, 28, 29] (by kernel_rfl) (by kernel_rfl) (by kernel_rfl) (HC4.out.drew) ?_
      refine flow_call (.bool true) rfl (by kernel_rfl) (by rfl) (by kernel_rfl) (fun W hW => ⟨_, _, _, by go_simp, (alives_any W).mono fun e w' ⟨he, hb⟩ => ⟨he, hW.trans (hb.mono hW.size)⟩⟩) ?_
      simp only [Act.put, List.setIfInBounds_toArray, List.set_cons_succ, List.set_cons_zero]
      refine flow_val ?_ rfl (by kernel_rfl) (by rfl) (fun W hW => ?_) ?_
      rotate_left 1
      · go_simp <;> with_reducible rfl
      simp only [Act.put, List.setIfInBounds_toArray, List.set_cons_succ, List.set_cons_zero]
      refine flow_val ?_ rfl (by kernel_rfl) (by rfl) (fun W hW => ?_) ?_
      rotate_left 1
      · go_simp <;> with_reducible rfl
      simp only [Act.put, List.setIfInBounds_toArray, List.set_cons_succ, List.set_cons_zero]
      refine flow_val ?_ rfl (by kernel_rfl) (by rfl) (fun W hW => ?_) ?_
      rotate_left 1
      · go_simp <;> with_reducible rfl
      simp only [Act.put, List.setIfInBounds_toArray, List.set_cons_succ, List.set_cons_zero]
      refine flow_val ?_ rfl (by kernel_rfl) (by rfl) (fun W hW => ?_) ?_
      rotate_left 1
      · go_simp <;> with_reducible rfl
      simp only [Act.put, List.setIfInBounds_toArray, List.set_cons_succ, List.set_cons_zero]
      refine flow_val ?_ rfl (by kernel_rfl) (by rfl) (fun W hW => ?_) ?_
      rotate_left 1
      · go_simp <;> with_reducible rfl
      simp only [Act.put, List.setIfInBounds_toArray, List.set_cons_succ, List.set_cons_zero]
      refine flow_val ?_ rfl (by kernel_rfl) (by rfl) (fun W hW => ?_) ?_
      rotate_left 1
      · go_simp <;> with_reducible rfl
      simp only [Act.put, List.setIfInBounds_toArray, List.set_cons_succ, List.set_cons_zero]
      refine flow_val ?_ rfl (by kernel_rfl) (by rfl) (fun W hW => ?_) ?_
      rotate_left 1
      · go_simp <;> with_reducible rfl
      simp only [Act.put, List.setIfInBounds_toArray, List.set_cons_succ, List.set_cons_zero]
      refine flow_val ?_ rfl (by kernel_rfl) (by rfl) (fun W hW => ?_) ?_
      rotate_left 1
      · go_simp <;> with_reducible rfl
      simp only [Act.put, List.setIfInBounds_toArray, List.set_cons_succ, List.set_cons_zero]
      refine flow_val ?_ rfl (by kernel_rfl) (by rfl) (fun W hW => ?_) ?_
      rotate_left 1
      · have a0 := cell_at (HCA.out W hW.1) 0; go_simp <;> with_reducible rfl
      simp only [Act.put, List.setIfInBounds_toArray, List.set_cons_succ, List.set_cons_zero]
      refine flow_val ?_ rfl (by kernel_rfl) (by rfl) (fun W hW => ?_) ?_
      rotate_left 1
      · go_simp <;> with_reducible rfl
      simp only [Act.put, List.setIfInBounds_toArray, List.set_cons_succ, List.set_cons_zero]
      refine flow_quiet (.int .i64 0) rfl (by kernel_rfl) (by rfl) (fun W hW => ⟨_, _, by go_simp, HHM.out W⟩) ?_
      simp only [Act.put, List.setIfInBounds_toArray, List.set_cons_succ, List.set_cons_zero]
      refine flow_val ?_ rfl (by kernel_rfl) (by rfl) (fun W hW => ?_) ?_
      rotate_left 1
      · go_simp <;> with_reducible rfl
      simp only [Act.put, List.setIfInBounds_toArray, List.set_cons_succ, List.set_cons_zero]
      refine flow_val ?_ rfl (by kernel_rfl) (by rfl) (fun W hW => ?_) ?_
      rotate_left 1
      · go_simp <;> with_reducible rfl
      simp only [Act.put, List.setIfInBounds_toArray, List.set_cons_succ, List.set_cons_zero]
      refine flow_val ?_ rfl (by kernel_rfl) (by rfl) (fun W hW => ?_) ?_
      rotate_left 1
      · go_simp <;> with_reducible rfl
      simp only [Act.put, List.setIfInBounds_toArray, List.set_cons_succ, List.set_cons_zero]
      refine flow_val ?_ rfl (by kernel_rfl) (by rfl) (fun W hW => ?_) ?_
      rotate_left 1
      · go_simp <;> with_reducible rfl
      simp only [Act.put, List.setIfInBounds_toArray, List.set_cons_succ, List.set_cons_zero]
      refine flow_val ?_ rfl (by kernel_rfl) (by rfl) (fun W hW => ?_) ?_
      rotate_left 1
      · go_simp <;> with_reducible rfl
      simp only [Act.put, List.setIfInBounds_toArray, List.set_cons_succ, List.set_cons_zero]
      refine flow_val ?_ rfl (by kernel_rfl) (by rfl) (fun W hW => ?_) ?_
      rotate_left 1
      · have q := HX0.out; go_simp <;> with_reducible rfl
      simp only [Act.put, List.setIfInBounds_toArray, List.set_cons_succ, List.set_cons_zero]
      refine flow_val ?_ rfl (by kernel_rfl) (by rfl) (fun W hW => ?_) ?_
      rotate_left 1
      · go_simp <;> with_reducible rfl
      simp only [Act.put, List.setIfInBounds_toArray, List.set_cons_succ, List.set_cons_zero]
      refine flow_off rfl (by kernel_rfl) (by rfl) ?_
      simp only [Act.put, List.setIfInBounds_toArray, List.set_cons_succ, List.set_cons_zero]
      refine flow_off rfl (by kernel_rfl) (by rfl) ?_
      simp only [Act.put, List.setIfInBounds_toArray, List.set_cons_succ, List.set_cons_zero]
      refine flow_off rfl (by kernel_rfl) (by rfl) ?_
      simp only [Act.put, List.setIfInBounds_toArray, List.set_cons_succ, List.set_cons_zero]
      refine flow_off rfl (by kernel_rfl) (by rfl) ?_
      simp only [Act.put, List.setIfInBounds_toArray, List.set_cons_succ, List.set_cons_zero]
      refine flow_off rfl (by kernel_rfl) (by rfl) ?_
      simp only [Act.put, List.setIfInBounds_toArray, List.set_cons_succ, List.set_cons_zero]
      refine flow_off rfl (by kernel_rfl) (by rfl) ?_
      simp only [Act.put, List.setIfInBounds_toArray, List.set_cons_succ, List.set_cons_zero]
      refine flow_off rfl (by kernel_rfl) (by rfl) ?_
      simp only [Act.put, List.setIfInBounds_toArray, List.set_cons_succ, List.set_cons_zero]
      refine flow_off rfl (by kernel_rfl) (by rfl) ?_
      simp only [Act.put, List.setIfInBounds_toArray, List.set_cons_succ, List.set_cons_zero]
      refine flow_off rfl (by kernel_rfl) (by rfl) ?_
      simp only [Act.put, List.setIfInBounds_toArray, List.set_cons_succ, List.set_cons_zero]
      refine flow_val ?_ rfl (by kernel_rfl) (by rfl) (fun W hW => ?_) ?_
      rotate_left 1
      · go_simp <;> with_reducible rfl
      simp only [Act.put, List.setIfInBounds_toArray, List.set_cons_succ, List.set_cons_zero]
      refine flow_val ?_ rfl (by kernel_rfl) (by rfl) (fun W hW => ?_) ?_
      rotate_left 1
      · go_simp <;> with_reducible rfl
      simp only [Act.put, List.setIfInBounds_toArray, List.set_cons_succ, List.set_cons_zero]
      refine flow_done ?_
      intro W hW
      have HC5 := Lib.hid (hW.1)
      clear hW
      obtain ⟨w5, hw⟩ : ∃ w5, w5 = W := ⟨_, rfl⟩
      subst hw
      have a0 := cell_at (HCA.out w5 HC5.out) 0
      have a1 := cell_at (HCA.out w5 HC5.out) 1
      have b0 := cell_at (HCB.out w5 HC5.out) 0
      have b1 := cell_at (HCB.out w5 HC5.out) 1
      go_wp2
      go_ret
      exact ⟨ret_bool (by simp), HB2.out.trans (HC5.out.mono HB2.out.size)⟩
    have HHM := Lib.hid (fun W => home_any a.client r W)
    have hc9 : 0 ≤ a.client := by omega
    have hz0 : ¬ r = 0 := by omega
    have hz1 : (r == 0) = false := by simp; omega
    obtain ⟨HM, hHM⟩ : ∃ HM, homeA a.client r = HM := ⟨_, rfl⟩
    have HT : Hid (a.client.tmod r = HM) := Lib.hid (by rw [← hHM]; unfold homeA; rw [if_neg (by omega), Int.tmod_eq_emod_of_nonneg hc9])
    have HT2 : Hid (a.client % r = HM) := Lib.hid (by rw [← hHM]; unfold homeA; rw [if_neg (by omega)])
    rw [hHM] at HHM
    clear hHM
    go_wp2_with fail
    first | rw [HT.out] | rw [HT2.out]
    clear a0 a1 b0 b1
    refine wp_region_flow (fun W => Below W2.heap.size W2 W) [0, 1, 2, 3, 4, 5, 6, 7, 8, 9, 10, 11, 12, 13, 14, 15, 16, 17, 18, 19, 20, 21, 22, 23, 24, 25, 26, 27, 28, 29] (by kernel_rfl) (by kernel_rfl) (by kernel_rfl) (HC4.out.drew) ?_
    refine flow_call (.bool true) rfl (by kernel_rfl) (by rfl) (by kernel_rfl) (fun W hW => ⟨_, _, _, by go_simp, (alives_any W).mono fun e w' ⟨he, hb⟩ => ⟨he, hW.trans (hb.mono hW.size)⟩⟩) ?_
    simp only [Act.put, List.setIfInBounds_toArray, List.set_cons_succ, List.set_cons_zero]
    refine flow_val ?_ rfl (by kernel_rfl) (by rfl) (fun W hW => ?_) ?_
    rotate_left 1
    · go_simp <;> with_reducible rfl
    simp only [Act.put, List.setIfInBounds_toArray, List.set_cons_succ, List.set_cons_zero]
    refine flow_val ?_ rfl (by kernel_rfl) (by rfl) (fun W hW => ?_) ?_
    rotate_left 1
    · go_simp <;> with_reducible rfl
    simp only [Act.put, List.setIfInBounds_toArray, List.set_cons_succ, List.set_cons_zero]
    refine flow_val ?_ rfl (by kernel_rfl) (by rfl) (fun W hW => ?_) ?_
    rotate_left 1
    · go_simp <;> with_reducible rfl
    simp only [Act.put, List.setIfInBounds_toArray, List.set_cons_succ, List.set_cons_zero]
    refine flow_val ?_ rfl (by kernel_rfl) (by rfl) (fun W hW => ?_) ?_
    rotate_left 1
    · go_simp <;> with_reducible rfl
    simp only [Act.put, List.setIfInBounds_toArray, List.set_cons_succ, List.set_cons_zero]
    refine flow_val ?_ rfl (by kernel_rfl) (by rfl) (fun W hW => ?_) ?_
    rotate_left 1
    · go_simp <;> with_reducible rfl
    simp only [Act.put, List.setIfInBounds_toArray, List.set_cons_succ, List.set_cons_zero]
    refine flow_val ?_ rfl (by kernel_rfl) (by rfl) (fun W hW => ?_) ?_
    rotate_left 1
    · go_simp <;> with_reducible rfl
    simp only [Act.put, List.setIfInBounds_toArray, List.set_cons_succ, List.set_cons_zero]
    refine flow_val ?_ rfl (by kernel_rfl) (by rfl) (fun W hW => ?_) ?_
    rotate_left 1
    · go_simp <;> with_reducible rfl
    simp only [Act.put, List.setIfInBounds_toArray, List.set_cons_succ, List.set_cons_zero]
    refine flow_val ?_ rfl (by kernel_rfl) (by rfl) (fun W hW => ?_) ?_
    rotate_left 1
    · go_simp <;> with_reducible rfl
    simp only [Act.put, List.setIfInBounds_toArray, List.set_cons_succ, List.set_cons_zero]
    refine flow_val ?_ rfl (by kernel_rfl) (by rfl) (fun W hW => ?_) ?_
    rotate_left 1
    · have a0 := cell_at (HCA.out W hW.1) 0; go_simp <;> with_reducible rfl
    simp only [Act.put, List.setIfInBounds_toArray, List.set_cons_succ, List.set_cons_zero]
    refine flow_val ?_ rfl (by kernel_rfl) (by rfl) (fun W hW => ?_) ?_
    rotate_left 1
    · go_simp <;> with_reducible rfl
    simp only [Act.put, List.setIfInBounds_toArray, List.set_cons_succ, List.set_cons_zero]
    refine flow_quiet (.int .i64 HM) rfl (by kernel_rfl) (by rfl) (fun W hW => ⟨_, _, by go_simp, HHM.out W⟩) ?_
    simp only [Act.put, List.setIfInBounds_toArray, List.set_cons_succ, List.set_cons_zero]
    refine flow_val ?_ rfl (by kernel_rfl) (by rfl) (fun W hW => ?_) ?_
    rotate_left 1
    · go_simp <;> with_reducible rfl
    simp only [Act.put, List.setIfInBounds_toArray, List.set_cons_succ, List.set_cons_zero]
    refine flow_val ?_ rfl (by kernel_rfl) (by rfl) (fun W hW => ?_) ?_
    rotate_left 1
    · go_simp <;> with_reducible rfl
    simp only [Act.put, List.setIfInBounds_toArray, List.set_cons_succ, List.set_cons_zero]
    refine flow_val ?_ rfl (by kernel_rfl) (by rfl) (fun W hW => ?_) ?_
    rotate_left 1
    · go_simp <;> with_reducible rfl
    simp only [Act.put, List.setIfInBounds_toArray, List.set_cons_succ, List.set_cons_zero]
    refine flow_val ?_ rfl (by kernel_rfl) (by rfl) (fun W hW => ?_) ?_
    rotate_left 1
    · go_simp <;> with_reducible rfl
    simp only [Act.put, List.setIfInBounds_toArray, List.set_cons_succ, List.set_cons_zero]
    refine flow_val ?_ rfl (by kernel_rfl) (by rfl) (fun W hW => ?_) ?_
    rotate_left 1
    · go_simp <;> with_reducible rfl
    simp only [Act.put, List.setIfInBounds_toArray, List.set_cons_succ, List.set_cons_zero]
    refine flow_val ?_ rfl (by kernel_rfl) (by rfl) (fun W hW => ?_) ?_
    rotate_left 1
    · have q := HX0.out; go_simp <;> with_reducible rfl
    simp only [Act.put, List.setIfInBounds_toArray, List.set_cons_succ, List.set_cons_zero]
    refine flow_val ?_ rfl (by kernel_rfl) (by rfl) (fun W hW => ?_) ?_
    rotate_left 1
    · go_simp <;> with_reducible rfl
    simp only [Act.put, List.setIfInBounds_toArray, List.set_cons_succ, List.set_cons_zero]
    refine flow_off rfl (by kernel_rfl) (by rfl) ?_
    simp only [Act.put, List.setIfInBounds_toArray, List.set_cons_succ, List.set_cons_zero]
    refine flow_off rfl (by kernel_rfl) (by rfl) ?_
    simp only [Act.put, List.setIfInBounds_toArray, List.set_cons_succ, List.set_cons_zero]
    refine flow_off rfl (by kernel_rfl) (by rfl) ?_
    simp only [Act.put, List.setIfInBounds_toArray, List.set_cons_succ, List.set_cons_zero]
    refine flow_off rfl (by kernel_rfl) (by rfl) ?_
    simp only [Act.put, List.setIfInBounds_toArray, List.set_cons_succ, List.set_cons_zero]
    refine flow_off rfl (by kernel_rfl) (by rfl) ?_
    simp only [Act.put, List.setIfInBounds_toArray, List.set_cons_succ, List.set_cons_zero]
    refine flow_off rfl (by kernel_rfl) (by rfl) ?_
    simp only [Act.put, List.setIfInBounds_toArray, List.set_cons_succ, List.set_cons_zero]
    refine flow_off rfl (by kernel_rfl) (by rfl) ?_
    simp only [Act.put, List.setIfInBounds_toArray, List.set_cons_succ, List.set_cons_zero]
    refine flow_off rfl (by kernel_rfl) (by rfl) ?_
    simp only [Act.put, List.setIfInBounds_toArray, List.set_cons_succ, List.set_cons_zero]
    refine flow_off rfl (by kernel_rfl) (by rfl) ?_
    simp only [Act.put, List.setIfInBounds_toArray, List.set_cons_succ, List.set_cons_zero]
    refine flow_val ?_ rfl (by kernel_rfl) (by rfl) (fun W hW => ?_) ?_
    rotate_left 1
    · go_simp <;> with_reducible rfl
    simp only [Act.put, List.setIfInBounds_toArray, List.set_cons_succ, List.set_cons_zero]
    refine flow_val ?_ rfl (by kernel_rfl) (by rfl) (fun W hW => ?_) ?_
    rotate_left 1
    · go_simp <;> with_reducible rfl
    simp only [Act.put, List.setIfInBounds_toArray, List.set_cons_succ, List.set_cons_zero]
    refine flow_done ?_
    intro W hW
    have HC5 := Lib.hid (hW.1)
    clear hW
    obtain ⟨w5, hw⟩ : ∃ w5, w5 = W := ⟨_, rfl⟩
    subst hw
    have a0 := cell_at (HCA.out w5 HC5.out) 0
    have a1 := cell_at (HCA.out w5 HC5.out) 1
    have b0 := cell_at (HCB.out w5 HC5.out) 0
    have b1 := cell_at (HCB.out w5 HC5.out) 1
    go_wp2
    go_ret
    exact ⟨ret_bool (by simp), HB2.out.trans (HC5.out.mono HB2.out.size)⟩
  obtain ⟨m1, m2, m3, m4⟩ := HLM.out rfl
  by_cases hk : a.kind = 1
  · have hkd : (a.kind == 1) = true := by simp [hk]
    have HXE : Hid (64 * a.number + a.client = X) := Lib.hid (by rw [HX9.out, if_pos ⟨hk, rfl⟩])
    have HX0 : Hid (decide ((0 : Int) < X) = true) := Lib.hid (by have := HXE.out; simp; omega)
    have HX1 : Hid (decide ((1099511627776 : Int) < X) = false) := Lib.hid (by have := HXE.out; simp; omega)
    have HXX : Hid (X = 64 * a.number + a.client ∧ 0 ≤ a.client ∧ a.client ≤ 63 ∧ 1 ≤ a.number ∧ a.number ≤ 4294967296) := Lib.hid ⟨HXE.out.symm, m1, m2, m3, m4⟩
    have HOW : Hid (∀ W, Calls Try.prog 21 #[.int .i64 X] W fun e W' => e = .returned (.int .i64 a.client) ∧ W = W') := Lib.hid (fun W => by
      have h := owner_any X W
      rwa [show ownA X = a.client by have := HXE.out; unfold ownA; rw [if_neg (by omega)]; omega] at h)
    clear HX9 HLM
    by_cases hr1 : r < 1
    · have HHM := Lib.hid (fun W => home_any a.client r W)
      rw [show homeA a.client r = 0 by unfold homeA; rw [if_pos (.inr hr1)]] at HHM
      go_wp2_with fail
      rw [HXE.out]
      clear a0 a1 b0 b1
      refine wp_region_flow (fun W => Below W2.heap.size W2 W) [0, 1, 2, 3, 4, 5, 6, 7, 8, 9, 10, 11, 12, 13, 14, 15, 16, 17, 18, 19, 20, 21, 22, 23, 24, 25, 26, 27, 28, 29] (by kernel_rfl) (by kernel_rfl) (by kernel_rfl) (HC4.out.drew) ?_
      refine flow_call (.bool true) rfl (by kernel_rfl) (by rfl) (by kernel_rfl) (fun W hW => ⟨_, _, _, by go_simp, (alives_any W).mono fun e w' ⟨he, hb⟩ => ⟨he, hW.trans (hb.mono hW.size)⟩⟩) ?_
      simp only [Act.put, List.setIfInBounds_toArray, List.set_cons_succ, List.set_cons_zero]
      refine flow_val ?_ rfl (by kernel_rfl) (by rfl) (fun W hW => ?_) ?_
      rotate_left 1
      · go_simp <;> with_reducible rfl
      simp only [Act.put, List.setIfInBounds_toArray, List.set_cons_succ, List.set_cons_zero]
      refine flow_val ?_ rfl (by kernel_rfl) (by rfl) (fun W hW => ?_) ?_
      rotate_left 1
      · go_simp <;> with_reducible rfl
      simp only [Act.put, List.setIfInBounds_toArray, List.set_cons_succ, List.set_cons_zero]
      refine flow_val ?_ rfl (by kernel_rfl) (by rfl) (fun W hW => ?_) ?_
      rotate_left 1
      · go_simp <;> with_reducible rfl
      simp only [Act.put, List.setIfInBounds_toArray, List.set_cons_succ, List.set_cons_zero]
      refine flow_val ?_ rfl (by kernel_rfl) (by rfl) (fun W hW => ?_) ?_
      rotate_left 1
      · go_simp <;> with_reducible rfl
      simp only [Act.put, List.setIfInBounds_toArray, List.set_cons_succ, List.set_cons_zero]
      refine flow_val ?_ rfl (by kernel_rfl) (by rfl) (fun W hW => ?_) ?_
      rotate_left 1
      · go_simp <;> with_reducible rfl
      simp only [Act.put, List.setIfInBounds_toArray, List.set_cons_succ, List.set_cons_zero]
      refine flow_val ?_ rfl (by kernel_rfl) (by rfl) (fun W hW => ?_) ?_
      rotate_left 1
      · go_simp <;> with_reducible rfl
      simp only [Act.put, List.setIfInBounds_toArray, List.set_cons_succ, List.set_cons_zero]
      refine flow_val ?_ rfl (by kernel_rfl) (by rfl) (fun W hW => ?_) ?_
      rotate_left 1
      · go_simp <;> with_reducible rfl
      simp only [Act.put, List.setIfInBounds_toArray, List.set_cons_succ, List.set_cons_zero]
      refine flow_val ?_ rfl (by kernel_rfl) (by rfl) (fun W hW => ?_) ?_
      rotate_left 1
      · go_simp <;> with_reducible rfl
      simp only [Act.put, List.setIfInBounds_toArray, List.set_cons_succ, List.set_cons_zero]
      refine flow_val ?_ rfl (by kernel_rfl) (by rfl) (fun W hW => ?_) ?_
      rotate_left 1
      · have a0 := cell_at (HCA.out W hW.1) 0; go_simp <;> with_reducible rfl
      simp only [Act.put, List.setIfInBounds_toArray, List.set_cons_succ, List.set_cons_zero]
      refine flow_val ?_ rfl (by kernel_rfl) (by rfl) (fun W hW => ?_) ?_
      rotate_left 1
      · go_simp <;> with_reducible rfl
      simp only [Act.put, List.setIfInBounds_toArray, List.set_cons_succ, List.set_cons_zero]
      refine flow_quiet (.int .i64 0) rfl (by kernel_rfl) (by rfl) (fun W hW => ⟨_, _, by go_simp, HHM.out W⟩) ?_
      simp only [Act.put, List.setIfInBounds_toArray, List.set_cons_succ, List.set_cons_zero]
      refine flow_val ?_ rfl (by kernel_rfl) (by rfl) (fun W hW => ?_) ?_
      rotate_left 1
      · go_simp <;> with_reducible rfl
      simp only [Act.put, List.setIfInBounds_toArray, List.set_cons_succ, List.set_cons_zero]
      refine flow_val ?_ rfl (by kernel_rfl) (by rfl) (fun W hW => ?_) ?_
      rotate_left 1
      · go_simp <;> with_reducible rfl
      simp only [Act.put, List.setIfInBounds_toArray, List.set_cons_succ, List.set_cons_zero]
      refine flow_val ?_ rfl (by kernel_rfl) (by rfl) (fun W hW => ?_) ?_
      rotate_left 1
      · go_simp <;> with_reducible rfl
      simp only [Act.put, List.setIfInBounds_toArray, List.set_cons_succ, List.set_cons_zero]
      refine flow_val ?_ rfl (by kernel_rfl) (by rfl) (fun W hW => ?_) ?_
      rotate_left 1
      · go_simp <;> with_reducible rfl
      simp only [Act.put, List.setIfInBounds_toArray, List.set_cons_succ, List.set_cons_zero]
      refine flow_val ?_ rfl (by kernel_rfl) (by rfl) (fun W hW => ?_) ?_
      rotate_left 1
      · go_simp <;> with_reducible rfl
      simp only [Act.put, List.setIfInBounds_toArray, List.set_cons_succ, List.set_cons_zero]
      refine flow_val ?_ rfl (by kernel_rfl) (by rfl) (fun W hW => ?_) ?_
      rotate_left 1
      · have q := HX0.out; go_simp <;> with_reducible rfl
      simp only [Act.put, List.setIfInBounds_toArray, List.set_cons_succ, List.set_cons_zero]
      refine flow_val ?_ rfl (by kernel_rfl) (by rfl) (fun W hW => ?_) ?_
      rotate_left 1
      · go_simp <;> with_reducible rfl
      simp only [Act.put, List.setIfInBounds_toArray, List.set_cons_succ, List.set_cons_zero]
      refine flow_val ?_ rfl (by kernel_rfl) (by rfl) (fun W hW => ?_) ?_
      rotate_left 1
      · go_simp <;> with_reducible rfl
      simp only [Act.put, List.setIfInBounds_toArray, List.set_cons_succ, List.set_cons_zero]
      refine flow_quiet (.int .i64 a.client) rfl (by kernel_rfl) (by rfl) (fun W hW => ⟨_, _, by go_simp, HOW.out W⟩) ?_
      simp only [Act.put, List.setIfInBounds_toArray, List.set_cons_succ, List.set_cons_zero]
      refine flow_val ?_ rfl (by kernel_rfl) (by rfl) (fun W hW => ?_) ?_
      rotate_left 1
      · go_simp <;> with_reducible rfl
      simp only [Act.put, List.setIfInBounds_toArray, List.set_cons_succ, List.set_cons_zero]
      refine flow_val ?_ rfl (by kernel_rfl) (by rfl) (fun W hW => ?_) ?_
      rotate_left 1
      · have a0 := cell_at (HCA.out W hW.1) 0; go_simp <;> with_reducible rfl
      simp only [Act.put, List.setIfInBounds_toArray, List.set_cons_succ, List.set_cons_zero]
      refine flow_val ?_ rfl (by kernel_rfl) (by rfl) (fun W hW => ?_) ?_
      rotate_left 1
      · go_simp <;> with_reducible rfl
      simp only [Act.put, List.setIfInBounds_toArray, List.set_cons_succ, List.set_cons_zero]
      refine flow_val ?_ rfl (by kernel_rfl) (by rfl) (fun W hW => ?_) ?_
      rotate_left 1
      · go_simp <;> with_reducible rfl
      simp only [Act.put, List.setIfInBounds_toArray, List.set_cons_succ, List.set_cons_zero]
      refine flow_val ?_ rfl (by kernel_rfl) (by rfl) (fun W hW => ?_) ?_
      rotate_left 1
      · go_simp <;> with_reducible rfl
      simp only [Act.put, List.setIfInBounds_toArray, List.set_cons_succ, List.set_cons_zero]
      refine flow_val ?_ rfl (by kernel_rfl) (by rfl) (fun W hW => ?_) ?_
      rotate_left 1
      · have q := HX1.out; go_simp <;> with_reducible rfl
      simp only [Act.put, List.setIfInBounds_toArray, List.set_cons_succ, List.set_cons_zero]
      refine flow_val ?_ rfl (by kernel_rfl) (by rfl) (fun W hW => ?_) ?_
      rotate_left 1
      · go_simp <;> with_reducible rfl
      simp only [Act.put, List.setIfInBounds_toArray, List.set_cons_succ, List.set_cons_zero]
      refine flow_val ?_ rfl (by kernel_rfl) (by rfl) (fun W hW => ?_) ?_
      rotate_left 1
      · go_simp <;> with_reducible rfl
      simp only [Act.put, List.setIfInBounds_toArray, List.set_cons_succ, List.set_cons_zero]
      refine flow_val ?_ rfl (by kernel_rfl) (by rfl) (fun W hW => ?_) ?_
      rotate_left 1
      · go_simp <;> with_reducible rfl
      simp only [Act.put, List.setIfInBounds_toArray, List.set_cons_succ, List.set_cons_zero]
      refine flow_done ?_
      intro W hW
      have HC5 := Lib.hid (hW.1)
      clear hW
      obtain ⟨w5, hw⟩ : ∃ w5, w5 = W := ⟨_, rfl⟩
      subst hw
      have a0 := cell_at (HCA.out w5 HC5.out) 0
      have a1 := cell_at (HCA.out w5 HC5.out) 1
      have b0 := cell_at (HCB.out w5 HC5.out) 0
      have b1 := cell_at (HCB.out w5 HC5.out) 1
      by_cases hy : Y = 0
      · have hx0 : (X == 0) = false := by have := HX0.out; simp at this ⊢; omega
        subst hy
        go_wp2
        go_ret
        exact ⟨ret_bool (by simp <;> omega), HB2.out.trans (HC5.out.mono HB2.out.size)⟩
      have hx0 : (X == 0) = false := by have := HX0.out; simp at this ⊢; omega
      have hy0 : (Y == 0) = false := by simp; omega
      obtain ⟨g1, g2, g3, g4, g5⟩ := HYY.out hy
      obtain ⟨f1, f2, f3, f4, f5⟩ := HXX.out
      by_cases hc : a.client = b.client
      · have hcd : (a.client == b.client) = true := by simp [hc]
        by_cases hn : a.number = b.number
        · have hnd : (a.number == b.number) = true := by simp [hn]
          have hxy : (X == Y) = true := by simp; omega
          go_wp2
          go_ret
          exact ⟨ret_bool (by simp <;> omega), HB2.out.trans (HC5.out.mono HB2.out.size)⟩
        · have hnd : (a.number == b.number) = false := by simp [hn]
          have hxy : (X == Y) = false := by simp; omega
          go_wp2
          go_ret
          exact ⟨ret_bool (by simp <;> omega), HB2.out.trans (HC5.out.mono HB2.out.size)⟩
      · have hcd : (a.client == b.client) = false := by simp [hc]
        have hxy : (X == Y) = false := by simp; omega
        go_wp2
        go_ret
        exact ⟨ret_bool (by simp <;> omega), HB2.out.trans (HC5.out.mono HB2.out.size)⟩
    have HHM := Lib.hid (fun W => home_any a.client r W)
    have hc9 : 0 ≤ a.client := by omega
    have hz0 : ¬ r = 0 := by omega
    have hz1 : (r == 0) = false := by simp; omega
    obtain ⟨HM, hHM⟩ : ∃ HM, homeA a.client r = HM := ⟨_, rfl⟩
    have HT : Hid (a.client.tmod r = HM) := Lib.hid (by rw [← hHM]; unfold homeA; rw [if_neg (by omega), Int.tmod_eq_emod_of_nonneg hc9])
    have HT2 : Hid (a.client % r = HM) := Lib.hid (by rw [← hHM]; unfold homeA; rw [if_neg (by omega)])
    rw [hHM] at HHM
    clear hHM
    go_wp2_with fail
    rw [HXE.out]
    first | rw [HT.out] | rw [HT2.out]
    clear a0 a1 b0 b1
    refine wp_region_flow (fun W => Below W2.heap.size W2 W) [0, 1, 2, 3, 4, 5, 6, 7, 8, 9, 10, 11, 12, 13, 14, 15, 16, 17, 18, 19, 20, 21, 22, 23, 24, 25, 26, 27, 28, 29] (by kernel_rfl) (by kernel_rfl) (by kernel_rfl) (HC4.out.drew) ?_
    refine flow_call (.bool true) rfl (by kernel_rfl) (by rfl) (by kernel_rfl) (fun W hW => ⟨_, _, _, by go_simp, (alives_any W).mono fun e w' ⟨he, hb⟩ => ⟨he, hW.trans (hb.mono hW.size)⟩⟩) ?_
    simp only [Act.put, List.setIfInBounds_toArray, List.set_cons_succ, List.set_cons_zero]
    refine flow_val ?_ rfl (by kernel_rfl) (by rfl) (fun W hW => ?_) ?_
    rotate_left 1
    · go_simp <;> with_reducible rfl
    simp only [Act.put, List.setIfInBounds_toArray, List.set_cons_succ, List.set_cons_zero]
    refine flow_val ?_ rfl (by kernel_rfl) (by rfl) (fun W hW => ?_) ?_
    rotate_left 1
    · go_simp <;> with_reducible rfl
    simp only [Act.put, List.setIfInBounds_toArray, List.set_cons_succ, List.set_cons_zero]
    refine flow_val ?_ rfl (by kernel_rfl) (by rfl) (fun W hW => ?_) ?_
    rotate_left 1
    · go_simp <;> with_reducible rfl
    simp only [Act.put, List.setIfInBounds_toArray, List.set_cons_succ, List.set_cons_zero]
    refine flow_val ?_ rfl (by kernel_rfl) (by rfl) (fun W hW => ?_) ?_
    rotate_left 1
    · go_simp <;> with_reducible rfl
    simp only [Act.put, List.setIfInBounds_toArray, List.set_cons_succ, List.set_cons_zero]
    refine flow_val ?_ rfl (by kernel_rfl) (by rfl) (fun W hW => ?_) ?_
    rotate_left 1
    · go_simp <;> with_reducible rfl
    simp only [Act.put, List.setIfInBounds_toArray, List.set_cons_succ, List.set_cons_zero]
    refine flow_val ?_ rfl (by kernel_rfl) (by rfl) (fun W hW => ?_) ?_
    rotate_left 1
    · go_simp <;> with_reducible rfl
    simp only [Act.put, List.setIfInBounds_toArray, List.set_cons_succ, List.set_cons_zero]
    refine flow_val ?_ rfl (by kernel_rfl) (by rfl) (fun W hW => ?_) ?_
    rotate_left 1
    · go_simp <;> with_reducible rfl
    simp only [Act.put, List.setIfInBounds_toArray, List.set_cons_succ, List.set_cons_zero]
    refine flow_val ?_ rfl (by kernel_rfl) (by rfl) (fun W hW => ?_) ?_
    rotate_left 1
    · go_simp <;> with_reducible rfl
    simp only [Act.put, List.setIfInBounds_toArray, List.set_cons_succ, List.set_cons_zero]
    refine flow_val ?_ rfl (by kernel_rfl) (by rfl) (fun W hW => ?_) ?_
    rotate_left 1
    · have a0 := cell_at (HCA.out W hW.1) 0; go_simp <;> with_reducible rfl
    simp only [Act.put, List.setIfInBounds_toArray, List.set_cons_succ, List.set_cons_zero]
    refine flow_val ?_ rfl (by kernel_rfl) (by rfl) (fun W hW => ?_) ?_
    rotate_left 1
    · go_simp <;> with_reducible rfl
    simp only [Act.put, List.setIfInBounds_toArray, List.set_cons_succ, List.set_cons_zero]
    refine flow_quiet (.int .i64 HM) rfl (by kernel_rfl) (by rfl) (fun W hW => ⟨_, _, by go_simp, HHM.out W⟩) ?_
    simp only [Act.put, List.setIfInBounds_toArray, List.set_cons_succ, List.set_cons_zero]
    refine flow_val ?_ rfl (by kernel_rfl) (by rfl) (fun W hW => ?_) ?_
    rotate_left 1
    · go_simp <;> with_reducible rfl
    simp only [Act.put, List.setIfInBounds_toArray, List.set_cons_succ, List.set_cons_zero]
    refine flow_val ?_ rfl (by kernel_rfl) (by rfl) (fun W hW => ?_) ?_
    rotate_left 1
    · go_simp <;> with_reducible rfl
    simp only [Act.put, List.setIfInBounds_toArray, List.set_cons_succ, List.set_cons_zero]
    refine flow_val ?_ rfl (by kernel_rfl) (by rfl) (fun W hW => ?_) ?_
    rotate_left 1
    · go_simp <;> with_reducible rfl
    simp only [Act.put, List.setIfInBounds_toArray, List.set_cons_succ, List.set_cons_zero]
    refine flow_val ?_ rfl (by kernel_rfl) (by rfl) (fun W hW => ?_) ?_
    rotate_left 1
    · go_simp <;> with_reducible rfl
    simp only [Act.put, List.setIfInBounds_toArray, List.set_cons_succ, List.set_cons_zero]
    refine flow_val ?_ rfl (by kernel_rfl) (by rfl) (fun W hW => ?_) ?_
    rotate_left 1
    · go_simp <;> with_reducible rfl
    simp only [Act.put, List.setIfInBounds_toArray, List.set_cons_succ, List.set_cons_zero]
    refine flow_val ?_ rfl (by kernel_rfl) (by rfl) (fun W hW => ?_) ?_
    rotate_left 1
    · have q := HX0.out; go_simp <;> with_reducible rfl
    simp only [Act.put, List.setIfInBounds_toArray, List.set_cons_succ, List.set_cons_zero]
    refine flow_val ?_ rfl (by kernel_rfl) (by rfl) (fun W hW => ?_) ?_
    rotate_left 1
    · go_simp <;> with_reducible rfl
    simp only [Act.put, List.setIfInBounds_toArray, List.set_cons_succ, List.set_cons_zero]
    refine flow_val ?_ rfl (by kernel_rfl) (by rfl) (fun W hW => ?_) ?_
    rotate_left 1
    · go_simp <;> with_reducible rfl
    simp only [Act.put, List.setIfInBounds_toArray, List.set_cons_succ, List.set_cons_zero]
    refine flow_quiet (.int .i64 a.client) rfl (by kernel_rfl) (by rfl) (fun W hW => ⟨_, _, by go_simp, HOW.out W⟩) ?_
    simp only [Act.put, List.setIfInBounds_toArray, List.set_cons_succ, List.set_cons_zero]
    refine flow_val ?_ rfl (by kernel_rfl) (by rfl) (fun W hW => ?_) ?_
    rotate_left 1
    · go_simp <;> with_reducible rfl
    simp only [Act.put, List.setIfInBounds_toArray, List.set_cons_succ, List.set_cons_zero]
    refine flow_val ?_ rfl (by kernel_rfl) (by rfl) (fun W hW => ?_) ?_
    rotate_left 1
    · have a0 := cell_at (HCA.out W hW.1) 0; go_simp <;> with_reducible rfl
    simp only [Act.put, List.setIfInBounds_toArray, List.set_cons_succ, List.set_cons_zero]
    refine flow_val ?_ rfl (by kernel_rfl) (by rfl) (fun W hW => ?_) ?_
    rotate_left 1
    · go_simp <;> with_reducible rfl
    simp only [Act.put, List.setIfInBounds_toArray, List.set_cons_succ, List.set_cons_zero]
    refine flow_val ?_ rfl (by kernel_rfl) (by rfl) (fun W hW => ?_) ?_
    rotate_left 1
    · go_simp <;> with_reducible rfl
    simp only [Act.put, List.setIfInBounds_toArray, List.set_cons_succ, List.set_cons_zero]
    refine flow_val ?_ rfl (by kernel_rfl) (by rfl) (fun W hW => ?_) ?_
    rotate_left 1
    · go_simp <;> with_reducible rfl
    simp only [Act.put, List.setIfInBounds_toArray, List.set_cons_succ, List.set_cons_zero]
    refine flow_val ?_ rfl (by kernel_rfl) (by rfl) (fun W hW => ?_) ?_
    rotate_left 1
    · have q := HX1.out; go_simp <;> with_reducible rfl
    simp only [Act.put, List.setIfInBounds_toArray, List.set_cons_succ, List.set_cons_zero]
    refine flow_val ?_ rfl (by kernel_rfl) (by rfl) (fun W hW => ?_) ?_
    rotate_left 1
    · go_simp <;> with_reducible rfl
    simp only [Act.put, List.setIfInBounds_toArray, List.set_cons_succ, List.set_cons_zero]
    refine flow_val ?_ rfl (by kernel_rfl) (by rfl) (fun W hW => ?_) ?_
    rotate_left 1
    · go_simp <;> with_reducible rfl
    simp only [Act.put, List.setIfInBounds_toArray, List.set_cons_succ, List.set_cons_zero]
    refine flow_val ?_ rfl (by kernel_rfl) (by rfl) (fun W hW => ?_) ?_
    rotate_left 1
    · go_simp <;> with_reducible rfl
    simp only [Act.put, List.setIfInBounds_toArray, List.set_cons_succ, List.set_cons_zero]
    refine flow_done ?_
    intro W hW
    have HC5 := Lib.hid (hW.1)
    clear hW
    obtain ⟨w5, hw⟩ : ∃ w5, w5 = W := ⟨_, rfl⟩
    subst hw
    have a0 := cell_at (HCA.out w5 HC5.out) 0
    have a1 := cell_at (HCA.out w5 HC5.out) 1
    have b0 := cell_at (HCB.out w5 HC5.out) 0
    have b1 := cell_at (HCB.out w5 HC5.out) 1
    by_cases hy : Y = 0
    · have hx0 : (X == 0) = false := by have := HX0.out; simp at this ⊢; omega
      subst hy
      go_wp2
      go_ret
      exact ⟨ret_bool (by simp <;> omega), HB2.out.trans (HC5.out.mono HB2.out.size)⟩
    have hx0 : (X == 0) = false := by have := HX0.out; simp at this ⊢; omega
    have hy0 : (Y == 0) = false := by simp; omega
    obtain ⟨g1, g2, g3, g4, g5⟩ := HYY.out hy
    obtain ⟨f1, f2, f3, f4, f5⟩ := HXX.out
    by_cases hc : a.client = b.client
    · have hcd : (a.client == b.client) = true := by simp [hc]
      by_cases hn : a.number = b.number
      · have hnd : (a.number == b.number) = true := by simp [hn]
        have hxy : (X == Y) = true := by simp; omega
        go_wp2
        go_ret
        exact ⟨ret_bool (by simp <;> omega), HB2.out.trans (HC5.out.mono HB2.out.size)⟩
      · have hnd : (a.number == b.number) = false := by simp [hn]
        have hxy : (X == Y) = false := by simp; omega
        go_wp2
        go_ret
        exact ⟨ret_bool (by simp <;> omega), HB2.out.trans (HC5.out.mono HB2.out.size)⟩
    · have hcd : (a.client == b.client) = false := by simp [hc]
      have hxy : (X == Y) = false := by simp; omega
      go_wp2
      go_ret
      exact ⟨ret_bool (by simp <;> omega), HB2.out.trans (HC5.out.mono HB2.out.size)⟩
  · have hkd : (a.kind == 1) = false := by simp [hk]
    obtain rfl : X = 0 := by rw [HX9.out, if_neg (by simp [hk])]
    have HX0 : Hid (decide ((0 : Int) < 0) = false) := Lib.hid (by decide)
    clear HX9 HLM
    by_cases hr1 : r < 1
    · have HHM := Lib.hid (fun W => home_any a.client r W)
      rw [show homeA a.client r = 0 by unfold homeA; rw [if_pos (.inr hr1)]] at HHM
      go_wp2_with fail
      clear a0 a1 b0 b1
      refine wp_region_flow (fun W => Below W2.heap.size W2 W) [0, 1, 2, 3, 4, 5, 6, 7, 8, 9, 10, 11, 12, 13, 14, 15, 16, 17, 18, 19, 20, 21, 22, 23, 24, 25, 26, 27, 28, 29] (by kernel_rfl) (by kernel_rfl) (by kernel_rfl) (HC4.out.drew) ?_
      refine flow_call (.bool true) rfl (by kernel_rfl) (by rfl) (by kernel_rfl) (fun W hW => ⟨_, _, _, by go_simp, (alives_any W).mono fun e w' ⟨he, hb⟩ => ⟨he, hW.trans (hb.mono hW.size)⟩⟩) ?_
      simp only [Act.put, List.setIfInBounds_toArray, List.set_cons_succ, List.set_cons_zero]
      refine flow_val ?_ rfl (by kernel_rfl) (by rfl) (fun W hW => ?_) ?_
      rotate_left 1
      · go_simp <;> with_reducible rfl
      simp only [Act.put, List.setIfInBounds_toArray, List.set_cons_succ, List.set_cons_zero]
      refine flow_val ?_ rfl (by kernel_rfl) (by rfl) (fun W hW => ?_) ?_
      rotate_left 1
      · go_simp <;> with_reducible rfl
      simp only [Act.put, List.setIfInBounds_toArray, List.set_cons_succ, List.set_cons_zero]
      refine flow_val ?_ rfl (by kernel_rfl) (by rfl) (fun W hW => ?_) ?_
      rotate_left 1
      · go_simp <;> with_reducible rfl
      simp only [Act.put, List.setIfInBounds_toArray, List.set_cons_succ, List.set_cons_zero]
      refine flow_val ?_ rfl (by kernel_rfl) (by rfl) (fun W hW => ?_) ?_
      rotate_left 1
      · go_simp <;> with_reducible rfl
      simp only [Act.put, List.setIfInBounds_toArray, List.set_cons_succ, List.set_cons_zero]
      refine flow_val ?_ rfl (by kernel_rfl) (by rfl) (fun W hW => ?_) ?_
      rotate_left 1
      · go_simp <;> with_reducible rfl
      simp only [Act.put, List.setIfInBounds_toArray, List.set_cons_succ, List.set_cons_zero]
      refine flow_val ?_ rfl (by kernel_rfl) (by rfl) (fun W hW => ?_) ?_
      rotate_left 1
      · go_simp <;> with_reducible rfl
      simp only [Act.put, List.setIfInBounds_toArray, List.set_cons_succ, List.set_cons_zero]
      refine flow_val ?_ rfl (by kernel_rfl) (by rfl) (fun W hW => ?_) ?_
      rotate_left 1
      · go_simp <;> with_reducible rfl
      simp only [Act.put, List.setIfInBounds_toArray, List.set_cons_succ, List.set_cons_zero]
      refine flow_val ?_ rfl (by kernel_rfl) (by rfl) (fun W hW => ?_) ?_
      rotate_left 1
      · go_simp <;> with_reducible rfl
      simp only [Act.put, List.setIfInBounds_toArray, List.set_cons_succ, List.set_cons_zero]
      refine flow_val ?_ rfl (by kernel_rfl) (by rfl) (fun W hW => ?_) ?_
      rotate_left 1
      · have a0 := cell_at (HCA.out W hW.1) 0; go_simp <;> with_reducible rfl
      simp only [Act.put, List.setIfInBounds_toArray, List.set_cons_succ, List.set_cons_zero]
      refine flow_val ?_ rfl (by kernel_rfl) (by rfl) (fun W hW => ?_) ?_
      rotate_left 1
      · go_simp <;> with_reducible rfl
      simp only [Act.put, List.setIfInBounds_toArray, List.set_cons_succ, List.set_cons_zero]
      refine flow_quiet (.int .i64 0) rfl (by kernel_rfl) (by rfl) (fun W hW => ⟨_, _, by go_simp, HHM.out W⟩) ?_
      simp only [Act.put, List.setIfInBounds_toArray, List.set_cons_succ, List.set_cons_zero]
      refine flow_val ?_ rfl (by kernel_rfl) (by rfl) (fun W hW => ?_) ?_
      rotate_left 1
      · go_simp <;> with_reducible rfl
      simp only [Act.put, List.setIfInBounds_toArray, List.set_cons_succ, List.set_cons_zero]
      refine flow_val ?_ rfl (by kernel_rfl) (by rfl) (fun W hW => ?_) ?_
      rotate_left 1
      · go_simp <;> with_reducible rfl
      simp only [Act.put, List.setIfInBounds_toArray, List.set_cons_succ, List.set_cons_zero]
      refine flow_val ?_ rfl (by kernel_rfl) (by rfl) (fun W hW => ?_) ?_
      rotate_left 1
      · go_simp <;> with_reducible rfl
      simp only [Act.put, List.setIfInBounds_toArray, List.set_cons_succ, List.set_cons_zero]
      refine flow_val ?_ rfl (by kernel_rfl) (by rfl) (fun W hW => ?_) ?_
      rotate_left 1
      · go_simp <;> with_reducible rfl
      simp only [Act.put, List.setIfInBounds_toArray, List.set_cons_succ, List.set_cons_zero]
      refine flow_val ?_ rfl (by kernel_rfl) (by rfl) (fun W hW => ?_) ?_
      rotate_left 1
      · go_simp <;> with_reducible rfl
      simp only [Act.put, List.setIfInBounds_toArray, List.set_cons_succ, List.set_cons_zero]
      refine flow_val ?_ rfl (by kernel_rfl) (by rfl) (fun W hW => ?_) ?_
      rotate_left 1
      · have q := HX0.out; go_simp <;> with_reducible rfl
      simp only [Act.put, List.setIfInBounds_toArray, List.set_cons_succ, List.set_cons_zero]
      refine flow_val ?_ rfl (by kernel_rfl) (by rfl) (fun W hW => ?_) ?_
      rotate_left 1
      · go_simp <;> with_reducible rfl
      simp only [Act.put, List.setIfInBounds_toArray, List.set_cons_succ, List.set_cons_zero]
      refine flow_off rfl (by kernel_rfl) (by rfl) ?_
      simp only [Act.put, List.setIfInBounds_toArray, List.set_cons_succ, List.set_cons_zero]
      refine flow_off rfl (by kernel_rfl) (by rfl) ?_
      simp only [Act.put, List.setIfInBounds_toArray, List.set_cons_succ, List.set_cons_zero]
      refine flow_off rfl (by kernel_rfl) (by rfl) ?_
      simp only [Act.put, List.setIfInBounds_toArray, List.set_cons_succ, List.set_cons_zero]
      refine flow_off rfl (by kernel_rfl) (by rfl) ?_
      simp only [Act.put, List.setIfInBounds_toArray, List.set_cons_succ, List.set_cons_zero]
      refine flow_off rfl (by kernel_rfl) (by rfl) ?_
      simp only [Act.put, List.setIfInBounds_toArray, List.set_cons_succ, List.set_cons_zero]
      refine flow_off rfl (by kernel_rfl) (by rfl) ?_
      simp only [Act.put, List.setIfInBounds_toArray, List.set_cons_succ, List.set_cons_zero]
      refine flow_off rfl (by kernel_rfl) (by rfl) ?_
      simp only [Act.put, List.setIfInBounds_toArray, List.set_cons_succ, List.set_cons_zero]
      refine flow_off rfl (by kernel_rfl) (by rfl) ?_
      simp only [Act.put, List.setIfInBounds_toArray, List.set_cons_succ, List.set_cons_zero]
      refine flow_off rfl (by kernel_rfl) (by rfl) ?_
      simp only [Act.put, List.setIfInBounds_toArray, List.set_cons_succ, List.set_cons_zero]
      refine flow_val ?_ rfl (by kernel_rfl) (by rfl) (fun W hW => ?_) ?_
      rotate_left 1
      · go_simp <;> with_reducible rfl
      simp only [Act.put, List.setIfInBounds_toArray, List.set_cons_succ, List.set_cons_zero]
      refine flow_val ?_ rfl (by kernel_rfl) (by rfl) (fun W hW => ?_) ?_
      rotate_left 1
      · go_simp <;> with_reducible rfl
      simp only [Act.put, List.setIfInBounds_toArray, List.set_cons_succ, List.set_cons_zero]
      refine flow_done ?_
      intro W hW
      have HC5 := Lib.hid (hW.1)
      clear hW
      obtain ⟨w5, hw⟩ : ∃ w5, w5 = W := ⟨_, rfl⟩
      subst hw
      have a0 := cell_at (HCA.out w5 HC5.out) 0
      have a1 := cell_at (HCA.out w5 HC5.out) 1
      have b0 := cell_at (HCB.out w5 HC5.out) 0
      have b1 := cell_at (HCB.out w5 HC5.out) 1
      go_wp2
      go_ret
      exact ⟨ret_bool (by simp), HB2.out.trans (HC5.out.mono HB2.out.size)⟩
    have HHM := Lib.hid (fun W => home_any a.client r W)
    have hc9 : 0 ≤ a.client := by omega
    have hz0 : ¬ r = 0 := by omega
    have hz1 : (r == 0) = false := by simp; omega
    obtain ⟨HM, hHM⟩ : ∃ HM, homeA a.client r = HM := ⟨_, rfl⟩
    have HT : Hid (a.client.tmod r = HM) := Lib.hid (by rw [← hHM]; unfold homeA; rw [if_neg (by omega), Int.tmod_eq_emod_of_nonneg hc9])
    have HT2 : Hid (a.client % r = HM) := Lib.hid (by rw [← hHM]; unfold homeA; rw [if_neg (by omega)])
    rw [hHM] at HHM
    clear hHM
    go_wp2_with fail
    first | rw [HT.out] | rw [HT2.out]
    clear a0 a1 b0 b1
    refine wp_region_flow (fun W => Below W2.heap.size W2 W) [0, 1, 2, 3, 4, 5, 6, 7, 8, 9, 10, 11, 12, 13, 14, 15, 16, 17, 18, 19, 20, 21, 22, 23, 24, 25, 26, 27, 28, 29] (by kernel_rfl) (by kernel_rfl) (by kernel_rfl) (HC4.out.drew) ?_
    refine flow_call (.bool true) rfl (by kernel_rfl) (by rfl) (by kernel_rfl) (fun W hW => ⟨_, _, _, by go_simp, (alives_any W).mono fun e w' ⟨he, hb⟩ => ⟨he, hW.trans (hb.mono hW.size)⟩⟩) ?_
    simp only [Act.put, List.setIfInBounds_toArray, List.set_cons_succ, List.set_cons_zero]
    refine flow_val ?_ rfl (by kernel_rfl) (by rfl) (fun W hW => ?_) ?_
    rotate_left 1
    · go_simp <;> with_reducible rfl
    simp only [Act.put, List.setIfInBounds_toArray, List.set_cons_succ, List.set_cons_zero]
    refine flow_val ?_ rfl (by kernel_rfl) (by rfl) (fun W hW => ?_) ?_
    rotate_left 1
    · go_simp <;> with_reducible rfl
    simp only [Act.put, List.setIfInBounds_toArray, List.set_cons_succ, List.set_cons_zero]
    refine flow_val ?_ rfl (by kernel_rfl) (by rfl) (fun W hW => ?_) ?_
    rotate_left 1
    · go_simp <;> with_reducible rfl
    simp only [Act.put, List.setIfInBounds_toArray, List.set_cons_succ, List.set_cons_zero]
    refine flow_val ?_ rfl (by kernel_rfl) (by rfl) (fun W hW => ?_) ?_
    rotate_left 1
    · go_simp <;> with_reducible rfl
    simp only [Act.put, List.setIfInBounds_toArray, List.set_cons_succ, List.set_cons_zero]
    refine flow_val ?_ rfl (by kernel_rfl) (by rfl) (fun W hW => ?_) ?_
    rotate_left 1
    · go_simp <;> with_reducible rfl
    simp only [Act.put, List.setIfInBounds_toArray, List.set_cons_succ, List.set_cons_zero]
    refine flow_val ?_ rfl (by kernel_rfl) (by rfl) (fun W hW => ?_) ?_
    rotate_left 1
    · go_simp <;> with_reducible rfl
    simp only [Act.put, List.setIfInBounds_toArray, List.set_cons_succ, List.set_cons_zero]
    refine flow_val ?_ rfl (by kernel_rfl) (by rfl) (fun W hW => ?_) ?_
    rotate_left 1
    · go_simp <;> with_reducible rfl
    simp only [Act.put, List.setIfInBounds_toArray, List.set_cons_succ, List.set_cons_zero]
    refine flow_val ?_ rfl (by kernel_rfl) (by rfl) (fun W hW => ?_) ?_
    rotate_left 1
    · go_simp <;> with_reducible rfl
    simp only [Act.put, List.setIfInBounds_toArray, List.set_cons_succ, List.set_cons_zero]
    refine flow_val ?_ rfl (by kernel_rfl) (by rfl) (fun W hW => ?_) ?_
    rotate_left 1
    · have a0 := cell_at (HCA.out W hW.1) 0; go_simp <;> with_reducible rfl
    simp only [Act.put, List.setIfInBounds_toArray, List.set_cons_succ, List.set_cons_zero]
    refine flow_val ?_ rfl (by kernel_rfl) (by rfl) (fun W hW => ?_) ?_
    rotate_left 1
    · go_simp <;> with_reducible rfl
    simp only [Act.put, List.setIfInBounds_toArray, List.set_cons_succ, List.set_cons_zero]
    refine flow_quiet (.int .i64 HM) rfl (by kernel_rfl) (by rfl) (fun W hW => ⟨_, _, by go_simp, HHM.out W⟩) ?_
    simp only [Act.put, List.setIfInBounds_toArray, List.set_cons_succ, List.set_cons_zero]
    refine flow_val ?_ rfl (by kernel_rfl) (by rfl) (fun W hW => ?_) ?_
    rotate_left 1
    · go_simp <;> with_reducible rfl
    simp only [Act.put, List.setIfInBounds_toArray, List.set_cons_succ, List.set_cons_zero]
    refine flow_val ?_ rfl (by kernel_rfl) (by rfl) (fun W hW => ?_) ?_
    rotate_left 1
    · go_simp <;> with_reducible rfl
    simp only [Act.put, List.setIfInBounds_toArray, List.set_cons_succ, List.set_cons_zero]
    refine flow_val ?_ rfl (by kernel_rfl) (by rfl) (fun W hW => ?_) ?_
    rotate_left 1
    · go_simp <;> with_reducible rfl
    simp only [Act.put, List.setIfInBounds_toArray, List.set_cons_succ, List.set_cons_zero]
    refine flow_val ?_ rfl (by kernel_rfl) (by rfl) (fun W hW => ?_) ?_
    rotate_left 1
    · go_simp <;> with_reducible rfl
    simp only [Act.put, List.setIfInBounds_toArray, List.set_cons_succ, List.set_cons_zero]
    refine flow_val ?_ rfl (by kernel_rfl) (by rfl) (fun W hW => ?_) ?_
    rotate_left 1
    · go_simp <;> with_reducible rfl
    simp only [Act.put, List.setIfInBounds_toArray, List.set_cons_succ, List.set_cons_zero]
    refine flow_val ?_ rfl (by kernel_rfl) (by rfl) (fun W hW => ?_) ?_
    rotate_left 1
    · have q := HX0.out; go_simp <;> with_reducible rfl
    simp only [Act.put, List.setIfInBounds_toArray, List.set_cons_succ, List.set_cons_zero]
    refine flow_val ?_ rfl (by kernel_rfl) (by rfl) (fun W hW => ?_) ?_
    rotate_left 1
    · go_simp <;> with_reducible rfl
    simp only [Act.put, List.setIfInBounds_toArray, List.set_cons_succ, List.set_cons_zero]
    refine flow_off rfl (by kernel_rfl) (by rfl) ?_
    simp only [Act.put, List.setIfInBounds_toArray, List.set_cons_succ, List.set_cons_zero]
    refine flow_off rfl (by kernel_rfl) (by rfl) ?_
    simp only [Act.put, List.setIfInBounds_toArray, List.set_cons_succ, List.set_cons_zero]
    refine flow_off rfl (by kernel_rfl) (by rfl) ?_
    simp only [Act.put, List.setIfInBounds_toArray, List.set_cons_succ, List.set_cons_zero]
    refine flow_off rfl (by kernel_rfl) (by rfl) ?_
    simp only [Act.put, List.setIfInBounds_toArray, List.set_cons_succ, List.set_cons_zero]
    refine flow_off rfl (by kernel_rfl) (by rfl) ?_
    simp only [Act.put, List.setIfInBounds_toArray, List.set_cons_succ, List.set_cons_zero]
    refine flow_off rfl (by kernel_rfl) (by rfl) ?_
    simp only [Act.put, List.setIfInBounds_toArray, List.set_cons_succ, List.set_cons_zero]
    refine flow_off rfl (by kernel_rfl) (by rfl) ?_
    simp only [Act.put, List.setIfInBounds_toArray, List.set_cons_succ, List.set_cons_zero]
    refine flow_off rfl (by kernel_rfl) (by rfl) ?_
    simp only [Act.put, List.setIfInBounds_toArray, List.set_cons_succ, List.set_cons_zero]
    refine flow_off rfl (by kernel_rfl) (by rfl) ?_
    simp only [Act.put, List.setIfInBounds_toArray, List.set_cons_succ, List.set_cons_zero]
    refine flow_val ?_ rfl (by kernel_rfl) (by rfl) (fun W hW => ?_) ?_
    rotate_left 1
    · go_simp <;> with_reducible rfl
    simp only [Act.put, List.setIfInBounds_toArray, List.set_cons_succ, List.set_cons_zero]
    refine flow_val ?_ rfl (by kernel_rfl) (by rfl) (fun W hW => ?_) ?_
    rotate_left 1
    · go_simp <;> with_reducible rfl
    simp only [Act.put, List.setIfInBounds_toArray, List.set_cons_succ, List.set_cons_zero]
    refine flow_done ?_
    intro W hW
    have HC5 := Lib.hid (hW.1)
    clear hW
    obtain ⟨w5, hw⟩ : ∃ w5, w5 = W := ⟨_, rfl⟩
    subst hw
    have a0 := cell_at (HCA.out w5 HC5.out) 0
    have a1 := cell_at (HCA.out w5 HC5.out) 1
    have b0 := cell_at (HCB.out w5 HC5.out) 0
    have b1 := cell_at (HCB.out w5 HC5.out) 1
    go_wp2
    go_ret
    exact ⟨ret_bool (by simp), HB2.out.trans (HC5.out.mono HB2.out.size)⟩
end Go.Proofs.Ytjgdcdojigcefaa
