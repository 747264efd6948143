/- The law AskCodes: the walk. -/
import Derived.Test.YtjgdcdojigcefaaALives
import Derived.Test.YtjgdcdojigcefaaAOpen
import Derived.Test.YtjgdcdojigcefaaAXMay2
import Derived.Test.YtjgdcdojigcefaaAXEnc
namespace Go.Proofs.Ytjgdcdojigcefaa
open Go.RowKit

theorem bodyA_lt (a : Ak) : ∀ x ∈ bodyA a, x < 256 := fun x hx => encA_lt a x (by rw [encA_body]; simp [hx])
set_option maxRecDepth 100000 in
set_option maxHeartbeats 2000000 in
theorem cdl_any (a : Ak) (A : Option Addr) (c : Nat) (w : World) (hr : Rd w 2 A a.items.length (a.items.flatMap encI)) (ba : BdA a) :
    Calls Try.prog 3 #[akV a (.slice A a.items.length c)] w fun e W => e = .returned (.bool true) ∧ Below w.heap.size w W := by
  have hga : a.good.size ≤ 9223372036854775807 := by have := ba.good; omega
  have HR := Lib.hid (fun W (hW : Below w.heap.size w W) => hr.below hW)
  have HBA := Lib.hid ba
  have hl1 := ba.items.2
  obtain ⟨la, hla⟩ : ∃ la, a.items.length = la := ⟨_, rfl⟩
  have HLA := Lib.hid hla
  rw [hla] at hl1 ⊢
  show Calls Try.prog 3 #[.agg #[.int .i64 a.client, .int .i64 a.number, .int .i64 a.kind, .int .i64 a.order, .int .i64 a.region, .int .i64 a.to, .int .i64 a.n, .string a.good, .slice A la c]] w _
  obtain ⟨W2, hW2⟩ : ∃ W2, w.alloc (.cells #[.int .i64 a.client, .int .i64 a.number, .int .i64 a.kind, .int .i64 a.order, .int .i64 a.region, .int .i64 a.to, .int .i64 a.n, .string a.good, .slice A la c] 24) = W2 := ⟨_, rfl⟩
  have ka0 := block_new w (.cells #[.int .i64 a.client, .int .i64 a.number, .int .i64 a.kind, .int .i64 a.order, .int .i64 a.region, .int .i64 a.to, .int .i64 a.n, .string a.good, .slice A la c] 24)
  have hb0 := (Below.refl _ w).alloc (Nat.le_refl _) (.cells #[.int .i64 a.client, .int .i64 a.number, .int .i64 a.kind, .int .i64 a.order, .int .i64 a.region, .int .i64 a.to, .int .i64 a.n, .string a.good, .slice A la c] 24)
  rw [hW2] at ka0 hb0
  have HB2 := Lib.hid hb0
  have HCA : Hid (∀ W, Below W2.heap.size W2 W → W.heap[w.heap.size]? = some (.cells #[.int .i64 a.client, .int .i64 a.number, .int .i64 a.kind, .int .i64 a.order, .int .i64 a.region, .int .i64 a.to, .int .i64 a.n, .string a.good, .slice A la c] 24 (0, 0))) := Lib.hid (fun W hW => (hW.block _ (lt_of_block ka0)).trans ka0)
  have HW2 := Lib.hid hW2
  have HR2 : Hid (∀ W, Below W2.heap.size W2 W → Rd W 2 A a.items.length (a.items.flatMap encI)) := Lib.hid (fun W hW => HR.out W (HB2.out.trans (hW.mono HB2.out.size)))
  have HMY : Hid (∀ W, Below W2.heap.size W2 W → Calls Try.prog 12 #[akV a (.slice A la c)] W fun e W' => e = .returned (.bool (mayA a)) ∧ Below W.heap.size W W') := Lib.hid (fun W hW => hla ▸ amay_any a A c W (HR2.out W hW) HBA.out.items hga)
  have HXM : Hid (∀ W, Below W2.heap.size W2 W → Calls Try.prog 13 #[akV a (.slice A la c)] W fun e W' => e = .returned (.bool (mayA a)) ∧ Below W.heap.size W W') := Lib.hid (fun W hW => hla ▸ xamay_any a A c W (HR2.out W hW) HBA.out.items hga)
  clear hr ba hla hW2 ka0 hb0
  have ra0 : (w.alloc (.cells #[.int .i64 a.client, .int .i64 a.number, .int .i64 a.kind, .int .i64 a.order, .int .i64 a.region, .int .i64 a.to, .int .i64 a.n, .string a.good, .slice A la c] 24)).cell? ⟨w.heap.size, 0, none⟩ = some (.int .i64 a.client) := by rw [HW2.out]; exact cell_at (HCA.out W2 (Below.refl _ _)) 0
  have ra1 : (w.alloc (.cells #[.int .i64 a.client, .int .i64 a.number, .int .i64 a.kind, .int .i64 a.order, .int .i64 a.region, .int .i64 a.to, .int .i64 a.n, .string a.good, .slice A la c] 24)).cell? ⟨w.heap.size, 1, none⟩ = some (.int .i64 a.number) := by rw [HW2.out]; exact cell_at (HCA.out W2 (Below.refl _ _)) 1
  have ra2 : (w.alloc (.cells #[.int .i64 a.client, .int .i64 a.number, .int .i64 a.kind, .int .i64 a.order, .int .i64 a.region, .int .i64 a.to, .int .i64 a.n, .string a.good, .slice A la c] 24)).cell? ⟨w.heap.size, 2, none⟩ = some (.int .i64 a.kind) := by rw [HW2.out]; exact cell_at (HCA.out W2 (Below.refl _ _)) 2
  have ra3 : (w.alloc (.cells #[.int .i64 a.client, .int .i64 a.number, .int .i64 a.kind, .int .i64 a.order, .int .i64 a.region, .int .i64 a.to, .int .i64 a.n, .string a.good, .slice A la c] 24)).cell? ⟨w.heap.size, 3, none⟩ = some (.int .i64 a.order) := by rw [HW2.out]; exact cell_at (HCA.out W2 (Below.refl _ _)) 3
  have ra4 : (w.alloc (.cells #[.int .i64 a.client, .int .i64 a.number, .int .i64 a.kind, .int .i64 a.order, .int .i64 a.region, .int .i64 a.to, .int .i64 a.n, .string a.good, .slice A la c] 24)).cell? ⟨w.heap.size, 4, none⟩ = some (.int .i64 a.region) := by rw [HW2.out]; exact cell_at (HCA.out W2 (Below.refl _ _)) 4
  have ra5 : (w.alloc (.cells #[.int .i64 a.client, .int .i64 a.number, .int .i64 a.kind, .int .i64 a.order, .int .i64 a.region, .int .i64 a.to, .int .i64 a.n, .string a.good, .slice A la c] 24)).cell? ⟨w.heap.size, 5, none⟩ = some (.int .i64 a.to) := by rw [HW2.out]; exact cell_at (HCA.out W2 (Below.refl _ _)) 5
  have ra6 : (w.alloc (.cells #[.int .i64 a.client, .int .i64 a.number, .int .i64 a.kind, .int .i64 a.order, .int .i64 a.region, .int .i64 a.to, .int .i64 a.n, .string a.good, .slice A la c] 24)).cell? ⟨w.heap.size, 6, none⟩ = some (.int .i64 a.n) := by rw [HW2.out]; exact cell_at (HCA.out W2 (Below.refl _ _)) 6
  have ra7 : (w.alloc (.cells #[.int .i64 a.client, .int .i64 a.number, .int .i64 a.kind, .int .i64 a.order, .int .i64 a.region, .int .i64 a.to, .int .i64 a.n, .string a.good, .slice A la c] 24)).cell? ⟨w.heap.size, 7, none⟩ = some (.string a.good) := by rw [HW2.out]; exact cell_at (HCA.out W2 (Below.refl _ _)) 7
  have ra8 : (w.alloc (.cells #[.int .i64 a.client, .int .i64 a.number, .int .i64 a.kind, .int .i64 a.order, .int .i64 a.region, .int .i64 a.to, .int .i64 a.n, .string a.good, .slice A la c] 24)).cell? ⟨w.heap.size, 8, none⟩ = some (.slice A la c) := by rw [HW2.out]; exact cell_at (HCA.out W2 (Below.refl _ _)) 8
  go_enter Try.func3, Try.ntmps3
  by_cases h1 : (100 : Int) < la
  · go_wp2_with fail
    rw [HW2.out]
    refine (alives_any W2).mono ?_
    rintro e w3 ⟨rfl, hb⟩
    have HC3 := Lib.hid hb
    clear hb ra0 ra1 ra2 ra3 ra4 ra5 ra6 ra7 ra8
    go_wp2
    go_ret
    exact ⟨ret_bool (by simp), HB2.out.trans (HC3.out.mono HB2.out.size)⟩
  cases hm : mayA a
  · have HE : Hid (∀ W, Below W2.heap.size W2 W → Calls Try.prog 10 #[akV a (.slice A la c)] W fun e W' => e = .returned (.tuple #[.slice none 0 0, .int .i64 1]) ∧ Below W.heap.size W W') := Lib.hid (fun W hW => HLA.out ▸ aenc_no a A c W (HR2.out W hW) HBA.out.items hga hm)
    have HBO : Hid (∀ W, Below W2.heap.size W2 W → Calls Try.prog 11 #[akV a (.slice A la c)] W fun e W' => e = .returned (.slice none 0 0) ∧ Below W.heap.size W W') := Lib.hid (fun W hW => HLA.out ▸ abody_no a A c W (HR2.out W hW) HBA.out.items hga hm)
    rw [hm] at HMY HXM
    clear hm hga
    go_wp2_with fail
    rw [HW2.out]
    refine (HE.out W2 (Below.refl _ _)).mono ?_
    rintro e w3 ⟨rfl, hb⟩
    have HC3 := Lib.hid hb
    clear hb ra0 ra1 ra2 ra3 ra4 ra5 ra6 ra7 ra8
    have a0 := cell_at (HCA.out w3 HC3.out) 0
    have a1 := cell_at (HCA.out w3 HC3.out) 1
    have a2 := cell_at (HCA.out w3 HC3.out) 2
    have a3 := cell_at (HCA.out w3 HC3.out) 3
    have a4 := cell_at (HCA.out w3 HC3.out) 4
    have a5 := cell_at (HCA.out w3 HC3.out) 5
    have a6 := cell_at (HCA.out w3 HC3.out) 6
    have a7 := cell_at (HCA.out w3 HC3.out) 7
    have a8 := cell_at (HCA.out w3 HC3.out) 8
    go_wp2_with fail
    refine (HBO.out w3 HC3.out).mono ?_
    rintro e w4 ⟨rfl, hb⟩
    have HC4 := Lib.hid (HC3.out.trans (hb.mono HC3.out.size))
    clear hb a0 a1 a2 a3 a4 a5 a6 a7 a8
    go_wp2_with fail
    refine wp_region_flow (fun W => Below W2.heap.size W2 W) [0, 1, 2, 3, 5, 4, 6, 7, 8, 9, 10, 11, 12, 13, 14, 15] (by kernel_rfl) (by kernel_rfl) (by kernel_rfl) (HC4.out.drew) ?_
    refine flow_call (.bool true) rfl (by kernel_rfl) (by rfl) (by kernel_rfl) (fun W hW => ⟨_, _, _, by go_simp, (alives_any W).mono fun e w' ⟨he, hb⟩ => ⟨he, hW.trans (hb.mono hW.size)⟩⟩) ?_
    simp only [Act.put, List.setIfInBounds_toArray, List.set_cons_succ, List.set_cons_zero]
    refine flow_val ?_ rfl (by kernel_rfl) (by rfl) (fun W hW => ?_) ?_
    rotate_left 1
    · go_simp <;> with_reducible rfl
    simp only [Act.put, List.setIfInBounds_toArray, List.set_cons_succ, List.set_cons_zero]
    refine flow_val ?_ rfl (by kernel_rfl) (by rfl) (fun W hW => ?_) ?_
    rotate_left 1
    · go_simp <;> with_reducible rfl
    simp only [Act.put, List.setIfInBounds_toArray, List.set_cons_succ, List.set_cons_zero]
    refine flow_val ?_ rfl (by kernel_rfl) (by rfl) (fun W hW => ?_) ?_
    rotate_left 1
    · have a0 := cell_at (HCA.out W hW.1) 0; have a1 := cell_at (HCA.out W hW.1) 1; have a2 := cell_at (HCA.out W hW.1) 2; have a3 := cell_at (HCA.out W hW.1) 3; have a4 := cell_at (HCA.out W hW.1) 4; have a5 := cell_at (HCA.out W hW.1) 5; have a6 := cell_at (HCA.out W hW.1) 6; have a7 := cell_at (HCA.out W hW.1) 7; have a8 := cell_at (HCA.out W hW.1) 8; go_simp <;> with_reducible rfl
    simp only [Act.put, List.setIfInBounds_toArray, List.set_cons_succ, List.set_cons_zero]
    refine flow_val ?_ rfl (by kernel_rfl) (by rfl) (fun W hW => ?_) ?_
    rotate_left 1
    · have a0 := cell_at (HCA.out W hW.1) 0; have a1 := cell_at (HCA.out W hW.1) 1; have a2 := cell_at (HCA.out W hW.1) 2; have a3 := cell_at (HCA.out W hW.1) 3; have a4 := cell_at (HCA.out W hW.1) 4; have a5 := cell_at (HCA.out W hW.1) 5; have a6 := cell_at (HCA.out W hW.1) 6; have a7 := cell_at (HCA.out W hW.1) 7; have a8 := cell_at (HCA.out W hW.1) 8; go_simp <;> with_reducible rfl
    simp only [Act.put, List.setIfInBounds_toArray, List.set_cons_succ, List.set_cons_zero]
    refine flow_call (.bool false) rfl (by kernel_rfl) (by rfl) (by kernel_rfl) (fun W hW => ⟨_, _, _, by go_simp, (HMY.out W hW.1).mono fun e w' ⟨he, hb⟩ => ⟨he, ⟨hW.1.trans (hb.mono hW.1.size), trivial⟩⟩⟩) ?_
    simp only [Act.put, List.setIfInBounds_toArray, List.set_cons_succ, List.set_cons_zero]
    refine flow_call (.bool false) rfl (by kernel_rfl) (by rfl) (by kernel_rfl) (fun W hW => ⟨_, _, _, by go_simp, (HXM.out W hW.1.1).mono fun e w' ⟨he, hb⟩ => ⟨he, ⟨⟨hW.1.1.trans (hb.mono hW.1.1.size), trivial⟩, trivial⟩⟩⟩) ?_
    simp only [Act.put, List.setIfInBounds_toArray, List.set_cons_succ, List.set_cons_zero]
    refine flow_val ?_ rfl (by kernel_rfl) (by rfl) (fun W hW => ?_) ?_
    rotate_left 1
    · go_simp <;> with_reducible rfl
    simp only [Act.put, List.setIfInBounds_toArray, List.set_cons_succ, List.set_cons_zero]
    refine flow_val ?_ rfl (by kernel_rfl) (by rfl) (fun W hW => ?_) ?_
    rotate_left 1
    · go_simp <;> with_reducible rfl
    simp only [Act.put, List.setIfInBounds_toArray, List.set_cons_succ, List.set_cons_zero]
    refine flow_val ?_ rfl (by kernel_rfl) (by rfl) (fun W hW => ?_) ?_
    rotate_left 1
    · go_simp <;> with_reducible rfl
    simp only [Act.put, List.setIfInBounds_toArray, List.set_cons_succ, List.set_cons_zero]
    refine flow_val ?_ rfl (by kernel_rfl) (by rfl) (fun W hW => ?_) ?_
    rotate_left 1
    · go_simp <;> with_reducible rfl
    simp only [Act.put, List.setIfInBounds_toArray, List.set_cons_succ, List.set_cons_zero]
    refine flow_val ?_ rfl (by kernel_rfl) (by rfl) (fun W hW => ?_) ?_
    rotate_left 1
    · go_simp <;> with_reducible rfl
    simp only [Act.put, List.setIfInBounds_toArray, List.set_cons_succ, List.set_cons_zero]
    refine flow_val ?_ rfl (by kernel_rfl) (by rfl) (fun W hW => ?_) ?_
    rotate_left 1
    · have a0 := cell_at (HCA.out W hW.1.1.1) 0; have a1 := cell_at (HCA.out W hW.1.1.1) 1; have a2 := cell_at (HCA.out W hW.1.1.1) 2; have a3 := cell_at (HCA.out W hW.1.1.1) 3; have a4 := cell_at (HCA.out W hW.1.1.1) 4; have a5 := cell_at (HCA.out W hW.1.1.1) 5; have a6 := cell_at (HCA.out W hW.1.1.1) 6; have a7 := cell_at (HCA.out W hW.1.1.1) 7; have a8 := cell_at (HCA.out W hW.1.1.1) 8; go_simp <;> with_reducible rfl
    simp only [Act.put, List.setIfInBounds_toArray, List.set_cons_succ, List.set_cons_zero]
    refine flow_call (.bool false) rfl (by kernel_rfl) (by rfl) (by kernel_rfl) (fun W hW => ⟨_, _, _, by go_simp, (HXM.out W hW.1.1.1).mono fun e w' ⟨he, hb⟩ => ⟨he, ⟨⟨⟨hW.1.1.1.trans (hb.mono hW.1.1.1.size), trivial⟩, trivial⟩, trivial⟩⟩⟩) ?_
    simp only [Act.put, List.setIfInBounds_toArray, List.set_cons_succ, List.set_cons_zero]
    refine flow_val ?_ rfl (by kernel_rfl) (by rfl) (fun W hW => ?_) ?_
    rotate_left 1
    · go_simp <;> with_reducible rfl
    simp only [Act.put, List.setIfInBounds_toArray, List.set_cons_succ, List.set_cons_zero]
    refine flow_val ?_ rfl (by kernel_rfl) (by rfl) (fun W hW => ?_) ?_
    rotate_left 1
    · go_simp <;> with_reducible rfl
    simp only [Act.put, List.setIfInBounds_toArray, List.set_cons_succ, List.set_cons_zero]
    refine flow_done ?_
    intro W hW
    have HC5 := Lib.hid (hW.1.1.1.1)
    clear hW
    obtain ⟨w5, hw⟩ : ∃ w5, w5 = W := ⟨_, rfl⟩
    subst hw
    go_wp2
    go_ret
    exact ⟨ret_bool (by simp), HB2.out.trans (HC5.out.mono HB2.out.size)⟩
  have hlim := mayA_lim hm
  have HE : Hid (∀ W, Below W2.heap.size W2 W → Calls Try.prog 10 #[akV a (.slice A la c)] W fun e W' => ∃ v, e = .returned (.tuple #[v, .int .i64 0]) ∧ Bs W' v (encA a) ∧ Below W.heap.size W W') := Lib.hid (fun W hW => HLA.out ▸ aenc_ok a A c W (HR2.out W hW) HBA.out.items hga hm)
  have HBO : Hid (∀ W, Below W2.heap.size W2 W → Calls Try.prog 11 #[akV a (.slice A la c)] W fun e W' => ∃ v, e = .returned v ∧ Bs W' v (bodyA a) ∧ Below W.heap.size W W') := Lib.hid (fun W hW => HLA.out ▸ abody_ok a A c W (HR2.out W hW) HBA.out.items hga hm)
  have HXE2 : Hid (∀ W, Below W2.heap.size W2 W → Calls Try.prog 15 #[akV a (.slice A la c)] W (RetOw W (encA a))) := Lib.hid (fun W hW => HLA.out ▸ xaenc_any a A c W (HR2.out W hW) hlim)
  have HXB2 : Hid (∀ W, Below W2.heap.size W2 W → Calls Try.prog 16 #[akV a (.slice A la c)] W (RetOw W (bodyA a))) := Lib.hid (fun W hW => HLA.out ▸ xabody_any a A c W (HR2.out W hW) hlim)
  have HDC : Hid (∀ W v, Bs W v (encA a) → Calls Try.prog 14 #[v] W (RetDecA W (some a))) := Lib.hid (fun W v hv => ((unA_iff (encA_lt a) a).2 ⟨hm, rfl⟩) ▸ adec_any v (encA a) W hv (encA_lt _) (by have := encA_le hlim; omega))
  rw [hm] at HMY HXM
  have HLT := Lib.hid (encA_lt a)
  have HLB := Lib.hid (bodyA_lt a)
  clear hm hga hlim
  go_wp2_with fail
  rw [HW2.out]
  refine (HE.out W2 (Below.refl _ _)).mono ?_
  rintro e w3 ⟨x1, rfl, hx1, hb⟩
  have HX1 := Lib.hid hx1
  obtain ⟨A1, c1, rfl, q1, q2, q3⟩ := hx1
  have HC3 := Lib.hid hb
  obtain ⟨n1, hn1⟩ : ∃ n1, (encA a).length = n1 := ⟨_, rfl⟩
  rw [hn1] at HX1 ⊢
  clear hb hn1 q1 q2 q3 ra0 ra1 ra2 ra3 ra4 ra5 ra6 ra7 ra8
  have a0 := cell_at (HCA.out w3 HC3.out) 0
  have a1 := cell_at (HCA.out w3 HC3.out) 1
  have a2 := cell_at (HCA.out w3 HC3.out) 2
  have a3 := cell_at (HCA.out w3 HC3.out) 3
  have a4 := cell_at (HCA.out w3 HC3.out) 4
  have a5 := cell_at (HCA.out w3 HC3.out) 5
  have a6 := cell_at (HCA.out w3 HC3.out) 6
  have a7 := cell_at (HCA.out w3 HC3.out) 7
  have a8 := cell_at (HCA.out w3 HC3.out) 8
  go_wp2_with fail
  refine (HBO.out w3 HC3.out).mono ?_
  rintro e w4 ⟨x2, rfl, hx2, hb⟩
  have HX1 := Lib.hid (HX1.out.below hb)
  have HX2 := Lib.hid hx2
  obtain ⟨A2, c2, rfl, q1, q2, q3⟩ := hx2
  have HC4 := Lib.hid (HC3.out.trans (hb.mono HC3.out.size))
  obtain ⟨n2, hn2⟩ : ∃ n2, (bodyA a).length = n2 := ⟨_, rfl⟩
  rw [hn2] at HX2 ⊢
  clear hb hn2 q1 q2 q3 a0 a1 a2 a3 a4 a5 a6 a7 a8
  have HX14 := Lib.hid (fun W (hW : Below w4.heap.size w4 W) => HX1.out.below hW)
  have HX24 := Lib.hid (fun W (hW : Below w4.heap.size w4 W) => HX2.out.below hW)
  go_wp2_with fail
  refine wp_region_flow (fun W => Below W2.heap.size W2 W ∧ Below w4.heap.size w4 W) [0, 1, 2, 3, 5, 4, 6, 7, 8, 9, 10, 11, 12, 13, 14, 15] (by kernel_rfl) (by kernel_rfl) (by kernel_rfl) (⟨HC4.out.drew, (Below.refl _ w4).drew⟩) ?_
  refine flow_call (.bool true) rfl (by kernel_rfl) (by rfl) (by kernel_rfl) (fun W hW => ⟨_, _, _, by go_simp, (alives_any W).mono fun e w' ⟨he, hb⟩ => ⟨he, ⟨hW.1.trans (hb.mono hW.1.size), hW.2.trans (hb.mono hW.2.size)⟩⟩⟩) ?_
  simp only [Act.put, List.setIfInBounds_toArray, List.set_cons_succ, List.set_cons_zero]
  refine flow_val ?_ rfl (by kernel_rfl) (by rfl) (fun W hW => ?_) ?_
  rotate_left 1
  · go_simp <;> with_reducible rfl
  simp only [Act.put, List.setIfInBounds_toArray, List.set_cons_succ, List.set_cons_zero]
  refine flow_val ?_ rfl (by kernel_rfl) (by rfl) (fun W hW => ?_) ?_
  rotate_left 1
  · go_simp <;> with_reducible rfl
  simp only [Act.put, List.setIfInBounds_toArray, List.set_cons_succ, List.set_cons_zero]
  refine flow_val ?_ rfl (by kernel_rfl) (by rfl) (fun W hW => ?_) ?_
  rotate_left 1
  · have a0 := cell_at (HCA.out W hW.1.1) 0; have a1 := cell_at (HCA.out W hW.1.1) 1; have a2 := cell_at (HCA.out W hW.1.1) 2; have a3 := cell_at (HCA.out W hW.1.1) 3; have a4 := cell_at (HCA.out W hW.1.1) 4; have a5 := cell_at (HCA.out W hW.1.1) 5; have a6 := cell_at (HCA.out W hW.1.1) 6; have a7 := cell_at (HCA.out W hW.1.1) 7; have a8 := cell_at (HCA.out W hW.1.1) 8; go_simp <;> with_reducible rfl
  simp only [Act.put, List.setIfInBounds_toArray, List.set_cons_succ, List.set_cons_zero]
  refine flow_val ?_ rfl (by kernel_rfl) (by rfl) (fun W hW => ?_) ?_
  rotate_left 1
  · have a0 := cell_at (HCA.out W hW.1.1) 0; have a1 := cell_at (HCA.out W hW.1.1) 1; have a2 := cell_at (HCA.out W hW.1.1) 2; have a3 := cell_at (HCA.out W hW.1.1) 3; have a4 := cell_at (HCA.out W hW.1.1) 4; have a5 := cell_at (HCA.out W hW.1.1) 5; have a6 := cell_at (HCA.out W hW.1.1) 6; have a7 := cell_at (HCA.out W hW.1.1) 7; have a8 := cell_at (HCA.out W hW.1.1) 8; go_simp <;> with_reducible rfl
  simp only [Act.put, List.setIfInBounds_toArray, List.set_cons_succ, List.set_cons_zero]
  refine flow_call (.bool true) rfl (by kernel_rfl) (by rfl) (by kernel_rfl) (fun W hW => ⟨_, _, _, by go_simp, (HMY.out W hW.1.1).mono fun e w' ⟨he, hb⟩ => ⟨he, ⟨⟨hW.1.1.trans (hb.mono hW.1.1.size), hW.1.2.trans (hb.mono hW.1.2.size)⟩, trivial⟩⟩⟩) ?_
  simp only [Act.put, List.setIfInBounds_toArray, List.set_cons_succ, List.set_cons_zero]
  refine flow_call (.bool true) rfl (by kernel_rfl) (by rfl) (by kernel_rfl) (fun W hW => ⟨_, _, _, by go_simp, (HXM.out W hW.1.1.1).mono fun e w' ⟨he, hb⟩ => ⟨he, ⟨⟨⟨hW.1.1.1.trans (hb.mono hW.1.1.1.size), hW.1.1.2.trans (hb.mono hW.1.1.2.size)⟩, trivial⟩, trivial⟩⟩⟩) ?_
  simp only [Act.put, List.setIfInBounds_toArray, List.set_cons_succ, List.set_cons_zero]
  refine flow_val ?_ rfl (by kernel_rfl) (by rfl) (fun W hW => ?_) ?_
  rotate_left 1
  · go_simp <;> with_reducible rfl
  simp only [Act.put, List.setIfInBounds_toArray, List.set_cons_succ, List.set_cons_zero]
  refine flow_val ?_ rfl (by kernel_rfl) (by rfl) (fun W hW => ?_) ?_
  rotate_left 1
  · go_simp <;> with_reducible rfl
  simp only [Act.put, List.setIfInBounds_toArray, List.set_cons_succ, List.set_cons_zero]
  refine flow_val ?_ rfl (by kernel_rfl) (by rfl) (fun W hW => ?_) ?_
  rotate_left 1
  · go_simp <;> with_reducible rfl
  simp only [Act.put, List.setIfInBounds_toArray, List.set_cons_succ, List.set_cons_zero]
  refine flow_val ?_ rfl (by kernel_rfl) (by rfl) (fun W hW => ?_) ?_
  rotate_left 1
  · go_simp <;> with_reducible rfl
  simp only [Act.put, List.setIfInBounds_toArray, List.set_cons_succ, List.set_cons_zero]
  refine flow_val ?_ rfl (by kernel_rfl) (by rfl) (fun W hW => ?_) ?_
  rotate_left 1
  · go_simp <;> with_reducible rfl
  simp only [Act.put, List.setIfInBounds_toArray, List.set_cons_succ, List.set_cons_zero]
  refine flow_val ?_ rfl (by kernel_rfl) (by rfl) (fun W hW => ?_) ?_
  rotate_left 1
  · have a0 := cell_at (HCA.out W hW.1.1.1.1) 0; have a1 := cell_at (HCA.out W hW.1.1.1.1) 1; have a2 := cell_at (HCA.out W hW.1.1.1.1) 2; have a3 := cell_at (HCA.out W hW.1.1.1.1) 3; have a4 := cell_at (HCA.out W hW.1.1.1.1) 4; have a5 := cell_at (HCA.out W hW.1.1.1.1) 5; have a6 := cell_at (HCA.out W hW.1.1.1.1) 6; have a7 := cell_at (HCA.out W hW.1.1.1.1) 7; have a8 := cell_at (HCA.out W hW.1.1.1.1) 8; go_simp <;> with_reducible rfl
  simp only [Act.put, List.setIfInBounds_toArray, List.set_cons_succ, List.set_cons_zero]
  refine flow_call (.bool true) rfl (by kernel_rfl) (by rfl) (by kernel_rfl) (fun W hW => ⟨_, _, _, by go_simp, (HXM.out W hW.1.1.1.1).mono fun e w' ⟨he, hb⟩ => ⟨he, ⟨⟨⟨⟨hW.1.1.1.1.trans (hb.mono hW.1.1.1.1.size), hW.1.1.1.2.trans (hb.mono hW.1.1.1.2.size)⟩, trivial⟩, trivial⟩, trivial⟩⟩⟩) ?_
  simp only [Act.put, List.setIfInBounds_toArray, List.set_cons_succ, List.set_cons_zero]
  refine flow_val ?_ rfl (by kernel_rfl) (by rfl) (fun W hW => ?_) ?_
  rotate_left 1
  · go_simp <;> with_reducible rfl
  simp only [Act.put, List.setIfInBounds_toArray, List.set_cons_succ, List.set_cons_zero]
  refine flow_val ?_ rfl (by kernel_rfl) (by rfl) (fun W hW => ?_) ?_
  rotate_left 1
  · go_simp <;> with_reducible rfl
  simp only [Act.put, List.setIfInBounds_toArray, List.set_cons_succ, List.set_cons_zero]
  refine flow_done ?_
  intro W hW
  have HC5 := Lib.hid (hW.1.1.1.1.1)
  have HX15 := Lib.hid (HX14.out W hW.1.1.1.1.2)
  have HX25 := Lib.hid (HX24.out W hW.1.1.1.1.2)
  clear hW
  obtain ⟨w5, hw⟩ : ∃ w5, w5 = W := ⟨_, rfl⟩
  subst hw
  go_wp2_with fail
  refine (HDC.out w5 _ HX15.out).mono ?_
  rintro e w6 ⟨hs, _⟩
  obtain ⟨A4, c4, he, hr4, hb4⟩ := hs a rfl
  rw [HLA.out] at he
  have he2 : e = .returned (.tuple #[.agg #[.int .i64 a.client, .int .i64 a.number, .int .i64 a.kind, .int .i64 a.order, .int .i64 a.region, .int .i64 a.to, .int .i64 a.n, .string a.good, .slice A4 la c4], .int .i64 0]) := he
  subst he2
  have kp := block_new w6 (.cells #[.int .i64 a.client, .int .i64 a.number, .int .i64 a.kind, .int .i64 a.order, .int .i64 a.region, .int .i64 a.to, .int .i64 a.n, .string a.good, .slice A4 la c4] 24)
  have hb6 := (Below.refl w6.heap.size w6).alloc (Nat.le_refl _) (.cells #[.int .i64 a.client, .int .i64 a.number, .int .i64 a.kind, .int .i64 a.order, .int .i64 a.region, .int .i64 a.to, .int .i64 a.n, .string a.good, .slice A4 la c4] 24)
  have hb56 := hb4.trans (hb6.mono hb4.size)
  have HC6 := Lib.hid (HC5.out.trans (hb56.mono HC5.out.size))
  have HR6 := Lib.hid (hr4.below hb6)
  have HX16 := Lib.hid (HX15.out.below hb56)
  have HX26 := Lib.hid (HX25.out.below hb56)
  obtain ⟨pb, hpb⟩ : ∃ pb, w6.heap.size = pb := ⟨_, rfl⟩
  obtain ⟨W5, hW5⟩ : ∃ W5, w6.alloc (.cells #[.int .i64 a.client, .int .i64 a.number, .int .i64 a.kind, .int .i64 a.order, .int .i64 a.region, .int .i64 a.to, .int .i64 a.n, .string a.good, .slice A4 la c4] 24) = W5 := ⟨_, rfl⟩
  rw [hW5] at kp HC6 HR6 HX16 HX26
  rw [hpb] at kp
  have HCP : Hid (∀ W, Below W5.heap.size W5 W → W.heap[pb]? = some (.cells #[.int .i64 a.client, .int .i64 a.number, .int .i64 a.kind, .int .i64 a.order, .int .i64 a.region, .int .i64 a.to, .int .i64 a.n, .string a.good, .slice A4 la c4] 24 (0, 0))) := Lib.hid (fun W hW => (hW.block _ (lt_of_block kp)).trans kp)
  have HCA5 : Hid (∀ W, Below W5.heap.size W5 W → W.heap[w.heap.size]? = some (.cells #[.int .i64 a.client, .int .i64 a.number, .int .i64 a.kind, .int .i64 a.order, .int .i64 a.region, .int .i64 a.to, .int .i64 a.n, .string a.good, .slice A la c] 24 (0, 0))) := Lib.hid (fun W hW => HCA.out W (HC6.out.trans (hW.mono HC6.out.size)))
  have HXE : Hid (∀ W, Below W5.heap.size W5 W → Calls Try.prog 15 #[akV a (.slice A la c)] W (RetOw W (encA a))) := Lib.hid (fun W hW => HXE2.out W (HC6.out.trans (hW.mono HC6.out.size)))
  have HXB : Hid (∀ W, Below W5.heap.size W5 W → Calls Try.prog 16 #[akV a (.slice A la c)] W (RetOw W (bodyA a))) := Lib.hid (fun W hW => HXB2.out W (HC6.out.trans (hW.mono HC6.out.size)))
  have HXS : Hid (∀ W, Below W5.heap.size W5 W → Calls Try.prog 17 #[akV a (.slice A4 la c4), akV a (.slice A la c)] W fun e W' => e = .returned (.bool true) ∧ Below W.heap.size W W') := Lib.hid (fun W hW => by
    have h := xsameA_any a a A4 c4 A c W (HR6.out.below hW) (HR2.out W (HC6.out.trans (hW.mono HC6.out.size))) HBA.out.items.2
    rw [eqA_iff.2 rfl, HLA.out] at h
    exact h)
  obtain ⟨T1, hT1⟩ : ∃ T1, strOf (encA a) = T1 := ⟨_, rfl⟩
  obtain ⟨T2, hT2⟩ : ∃ T2, strOf (bodyA a) = T2 := ⟨_, rfl⟩
  have HE1 := Lib.hid hT1
  have HE2 := Lib.hid hT2
  have HS1 : Hid (∀ W, Below W5.heap.size W5 W → (convert 26 9 (.slice A1 n1 c1)).run Try.prog W = .ok (.string T1) W) := Lib.hid (fun W hW => by
    obtain ⟨A', c', e1, _, _, r1⟩ := HX16.out.below hW
    cases e1
    exact hT1 ▸ run_str W A1 _ c1 (encA a) r1 HLT.out)
  have HS2 : Hid (∀ W, Below W5.heap.size W5 W → (convert 26 9 (.slice A2 n2 c2)).run Try.prog W = .ok (.string T2) W) := Lib.hid (fun W hW => by
    obtain ⟨A', c', e1, _, _, r1⟩ := HX26.out.below hW
    cases e1
    exact hT2 ▸ run_str W A2 _ c2 (bodyA a) r1 HLB.out)
  have HW5 := Lib.hid hW5
  have HPB := Lib.hid hpb
  clear hs hr4 hb4 he hb6 hb56 hpb hW5 kp hT1 hT2
  go_wp2_with fail
  rw [HW5.out, HPB.out]
  refine wp_region_flow (fun W => Below W5.heap.size W5 W) [0, 1, 2, 3, 4, 5, 6, 7, 8, 9, 10, 11, 12, 13, 14, 15, 16, 17, 18, 19, 20, 21, 22, 23] (by kernel_rfl) (by kernel_rfl) (by kernel_rfl) ((Below.refl _ W5).drew) ?_
  refine flow_val ?_ rfl (by kernel_rfl) (by rfl) (fun W hW => ?_) ?_
  rotate_left 1
  · go_simp <;> with_reducible rfl
  simp only [Act.put, List.setIfInBounds_toArray, List.set_cons_succ, List.set_cons_zero]
  refine flow_val ?_ rfl (by kernel_rfl) (by rfl) (fun W hW => ?_) ?_
  rotate_left 1
  · have s1 := HS1.out W hW; go_simp <;> with_reducible rfl
  simp only [Act.put, List.setIfInBounds_toArray, List.set_cons_succ, List.set_cons_zero]
  refine flow_val ?_ rfl (by kernel_rfl) (by rfl) (fun W hW => ?_) ?_
  rotate_left 1
  · have a0 := cell_at (HCA5.out W hW) 0; have a1 := cell_at (HCA5.out W hW) 1; have a2 := cell_at (HCA5.out W hW) 2; have a3 := cell_at (HCA5.out W hW) 3; have a4 := cell_at (HCA5.out W hW) 4; have a5 := cell_at (HCA5.out W hW) 5; have a6 := cell_at (HCA5.out W hW) 6; have a7 := cell_at (HCA5.out W hW) 7; have a8 := cell_at (HCA5.out W hW) 8; go_simp <;> with_reducible rfl
  simp only [Act.put, List.setIfInBounds_toArray, List.set_cons_succ, List.set_cons_zero]
  refine flow_new (fun v W => Bs W v (encA a)) rfl (by kernel_rfl) (by rfl) (by kernel_rfl) (fun W hW => ⟨_, _, _, by go_simp, (HXE.out W hW).mono fun e w' ⟨v, he, hv, hb⟩ => ⟨v, he, hW.trans (hb.mono hW.size), Bs.own_lt hv⟩⟩) ?_
  rintro v58 ⟨_, _, A58, c58, rfl, _, _, _⟩
  simp only [Act.put, List.setIfInBounds_toArray, List.set_cons_succ, List.set_cons_zero]
  refine flow_val ?_ rfl (by kernel_rfl) (by rfl) (fun W hW => ?_) ?_
  rotate_left 1
  · have s2 := HE1.out ▸ run_str W A58 _ c58 (encA a) hW.2.rd' HLT.out; go_simp <;> with_reducible rfl
  simp only [Act.put, List.setIfInBounds_toArray, List.set_cons_succ, List.set_cons_zero]
  refine flow_val ?_ rfl (by kernel_rfl) (by rfl) (fun W hW => ?_) ?_
  rotate_left 1
  · go_simp <;> with_reducible rfl
  simp only [Act.put, List.setIfInBounds_toArray, List.set_cons_succ, List.set_cons_zero]
  refine flow_val ?_ rfl (by kernel_rfl) (by rfl) (fun W hW => ?_) ?_
  rotate_left 1
  · go_simp <;> with_reducible rfl
  simp only [Act.put, List.setIfInBounds_toArray, List.set_cons_succ, List.set_cons_zero]
  refine flow_val ?_ rfl (by kernel_rfl) (by rfl) (fun W hW => ?_) ?_
  rotate_left 1
  · go_simp <;> with_reducible rfl
  simp only [Act.put, List.setIfInBounds_toArray, List.set_cons_succ, List.set_cons_zero]
  refine flow_val ?_ rfl (by kernel_rfl) (by rfl) (fun W hW => ?_) ?_
  rotate_left 1
  · have s1 := HS2.out W hW.1; go_simp <;> with_reducible rfl
  simp only [Act.put, List.setIfInBounds_toArray, List.set_cons_succ, List.set_cons_zero]
  refine flow_val ?_ rfl (by kernel_rfl) (by rfl) (fun W hW => ?_) ?_
  rotate_left 1
  · have a0 := cell_at (HCA5.out W hW.1) 0; have a1 := cell_at (HCA5.out W hW.1) 1; have a2 := cell_at (HCA5.out W hW.1) 2; have a3 := cell_at (HCA5.out W hW.1) 3; have a4 := cell_at (HCA5.out W hW.1) 4; have a5 := cell_at (HCA5.out W hW.1) 5; have a6 := cell_at (HCA5.out W hW.1) 6; have a7 := cell_at (HCA5.out W hW.1) 7; have a8 := cell_at (HCA5.out W hW.1) 8; go_simp <;> with_reducible rfl
  simp only [Act.put, List.setIfInBounds_toArray, List.set_cons_succ, List.set_cons_zero]
  refine flow_new (fun v W => Bs W v (bodyA a)) rfl (by kernel_rfl) (by rfl) (by kernel_rfl) (fun W hW => ⟨_, _, _, by go_simp, (HXB.out W hW.1).mono fun e w' ⟨v, he, hv, hb⟩ => ⟨v, he, ⟨hW.1.trans (hb.mono hW.1.size), hW.2.below hb⟩, Bs.own_lt hv⟩⟩) ?_
  rintro v65 ⟨_, _, A65, c65, rfl, _, _, _⟩
  simp only [Act.put, List.setIfInBounds_toArray, List.set_cons_succ, List.set_cons_zero]
  refine flow_val ?_ rfl (by kernel_rfl) (by rfl) (fun W hW => ?_) ?_
  rotate_left 1
  · have s2 := HE2.out ▸ run_str W A65 _ c65 (bodyA a) hW.2.rd' HLB.out; go_simp <;> with_reducible rfl
  simp only [Act.put, List.setIfInBounds_toArray, List.set_cons_succ, List.set_cons_zero]
  refine flow_val ?_ rfl (by kernel_rfl) (by rfl) (fun W hW => ?_) ?_
  rotate_left 1
  · go_simp <;> with_reducible rfl
  simp only [Act.put, List.setIfInBounds_toArray, List.set_cons_succ, List.set_cons_zero]
  refine flow_val ?_ rfl (by kernel_rfl) (by rfl) (fun W hW => ?_) ?_
  rotate_left 1
  · go_simp <;> with_reducible rfl
  simp only [Act.put, List.setIfInBounds_toArray, List.set_cons_succ, List.set_cons_zero]
  refine flow_val ?_ rfl (by kernel_rfl) (by rfl) (fun W hW => ?_) ?_
  rotate_left 1
  · go_simp <;> with_reducible rfl
  simp only [Act.put, List.setIfInBounds_toArray, List.set_cons_succ, List.set_cons_zero]
  refine flow_val ?_ rfl (by kernel_rfl) (by rfl) (fun W hW => ?_) ?_
  rotate_left 1
  · go_simp <;> with_reducible rfl
  simp only [Act.put, List.setIfInBounds_toArray, List.set_cons_succ, List.set_cons_zero]
  refine flow_val ?_ rfl (by kernel_rfl) (by rfl) (fun W hW => ?_) ?_
  rotate_left 1
  · go_simp <;> with_reducible rfl
  simp only [Act.put, List.setIfInBounds_toArray, List.set_cons_succ, List.set_cons_zero]
  refine flow_val ?_ rfl (by kernel_rfl) (by rfl) (fun W hW => ?_) ?_
  rotate_left 1
  · go_simp <;> with_reducible rfl
  simp only [Act.put, List.setIfInBounds_toArray, List.set_cons_succ, List.set_cons_zero]
  refine flow_val ?_ rfl (by kernel_rfl) (by rfl) (fun W hW => ?_) ?_
  rotate_left 1
  · go_simp <;> with_reducible rfl
  simp only [Act.put, List.setIfInBounds_toArray, List.set_cons_succ, List.set_cons_zero]
  refine flow_val ?_ rfl (by kernel_rfl) (by rfl) (fun W hW => ?_) ?_
  rotate_left 1
  · have p0 := cell_at (HCP.out W hW.1.1) 0; have p1 := cell_at (HCP.out W hW.1.1) 1; have p2 := cell_at (HCP.out W hW.1.1) 2; have p3 := cell_at (HCP.out W hW.1.1) 3; have p4 := cell_at (HCP.out W hW.1.1) 4; have p5 := cell_at (HCP.out W hW.1.1) 5; have p6 := cell_at (HCP.out W hW.1.1) 6; have p7 := cell_at (HCP.out W hW.1.1) 7; have p8 := cell_at (HCP.out W hW.1.1) 8; go_simp <;> with_reducible rfl
  simp only [Act.put, List.setIfInBounds_toArray, List.set_cons_succ, List.set_cons_zero]
  refine flow_val ?_ rfl (by kernel_rfl) (by rfl) (fun W hW => ?_) ?_
  rotate_left 1
  · have a0 := cell_at (HCA5.out W hW.1.1) 0; have a1 := cell_at (HCA5.out W hW.1.1) 1; have a2 := cell_at (HCA5.out W hW.1.1) 2; have a3 := cell_at (HCA5.out W hW.1.1) 3; have a4 := cell_at (HCA5.out W hW.1.1) 4; have a5 := cell_at (HCA5.out W hW.1.1) 5; have a6 := cell_at (HCA5.out W hW.1.1) 6; have a7 := cell_at (HCA5.out W hW.1.1) 7; have a8 := cell_at (HCA5.out W hW.1.1) 8; go_simp <;> with_reducible rfl
  simp only [Act.put, List.setIfInBounds_toArray, List.set_cons_succ, List.set_cons_zero]
  refine flow_call (.bool true) rfl (by kernel_rfl) (by rfl) (by kernel_rfl) (fun W hW => ⟨_, _, _, by go_simp, (HXS.out W hW.1.1).mono fun e w' ⟨he, hb⟩ => ⟨he, ⟨hW.1.1.trans (hb.mono hW.1.1.size), hW.1.2.below hb⟩, hW.2.below hb⟩⟩) ?_
  simp only [Act.put, List.setIfInBounds_toArray, List.set_cons_succ, List.set_cons_zero]
  refine flow_val ?_ rfl (by kernel_rfl) (by rfl) (fun W hW => ?_) ?_
  rotate_left 1
  · go_simp <;> with_reducible rfl
  simp only [Act.put, List.setIfInBounds_toArray, List.set_cons_succ, List.set_cons_zero]
  refine flow_val ?_ rfl (by kernel_rfl) (by rfl) (fun W hW => ?_) ?_
  rotate_left 1
  · go_simp <;> with_reducible rfl
  simp only [Act.put, List.setIfInBounds_toArray, List.set_cons_succ, List.set_cons_zero]
  refine flow_done ?_
  intro W hW
  have HC7 := Lib.hid hW.1.1.1
  clear hW
  go_wp2
  go_ret
  exact ⟨ret_bool (by simp), HB2.out.trans ((HC6.out.trans (HC7.out.mono HC6.out.size)).mono HB2.out.size)⟩
end Go.Proofs.Ytjgdcdojigcefaa
