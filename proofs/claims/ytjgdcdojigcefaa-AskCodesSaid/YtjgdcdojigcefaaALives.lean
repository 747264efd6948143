/- What must come of every program: chapter 10's lives. -/
import Derived.Test.YtjgdcdojigcefaaAOrd
import Derived.Test.YtjgdcdojigcefaaADec
import Derived.Test.YtjgdcdojigcefaaASame
namespace Go.Proofs.Ytjgdcdojigcefaa
open Go.RowKit

def liveA : Ak := ⟨3, 2, 1, 0, 0, 0, 1, ByteArray.empty, [⟨⟨#[97]⟩, 5⟩]⟩
theorem liveA_may : mayA liveA = true := by kernel_rfl
theorem liveA_ord : ordA liveA = 131 := by kernel_rfl
theorem zeroA_may : mayA zeroA = false := by kernel_rfl
theorem liveA_len : (encA liveA).length = (bodyA liveA).length + 2 := by
  rw [encA_body]
  have h1 : (numB liveA.client).length = 1 := by kernel_rfl
  have h2 : (numB liveA.number).length = 1 := by kernel_rfl
  simp only [List.length_append, h1, h2]
  omega
theorem liveA_un : unA (encA liveA) = some liveA := (unA_iff (encA_lt _) _).2 ⟨liveA_may, rfl⟩
theorem liveA_bd : BdL liveA.items := ⟨fun z hz => by
  obtain rfl : z = ⟨⟨#[97]⟩, 5⟩ := by simpa [liveA] using hz
  exact ⟨by decide, by decide, by decide⟩, by decide⟩
set_option maxRecDepth 100000 in
set_option maxHeartbeats 1000000 in
theorem alives_any (w : World) : Calls Try.prog 9 #[] w fun e W => e = .returned (.bool true) ∧ Below w.heap.size w W := by
  have kb0 := block_alloc (block_new w (.cells #[.string { data := #[97] }, .int .i64 5] 46)) (.cells #[.int .i64 3, .int .i64 2, .int .i64 1, .int .i64 0, .int .i64 0, .int .i64 0, .int .i64 1, .string { data := #[] }, .slice (some ⟨w.heap.size, 0, none⟩) 1 1] 24)
  have ka0 := block_new (w.alloc (.cells #[.string { data := #[97] }, .int .i64 5] 46)) (.cells #[.int .i64 3, .int .i64 2, .int .i64 1, .int .i64 0, .int .i64 0, .int .i64 0, .int .i64 1, .string { data := #[] }, .slice (some ⟨w.heap.size, 0, none⟩) 1 1] 24)
  have hb0 := ((Below.refl _ w).alloc (Nat.le_refl _) (.cells #[.string { data := #[97] }, .int .i64 5] 46)).alloc (by simp) (.cells #[.int .i64 3, .int .i64 2, .int .i64 1, .int .i64 0, .int .i64 0, .int .i64 0, .int .i64 1, .string { data := #[] }, .slice (some ⟨w.heap.size, 0, none⟩) 1 1] 24)
  simp only [World.size_alloc] at ka0
  obtain ⟨W2, hW2⟩ : ∃ W2, (w.alloc (.cells #[.string { data := #[97] }, .int .i64 5] 46)).alloc (.cells #[.int .i64 3, .int .i64 2, .int .i64 1, .int .i64 0, .int .i64 0, .int .i64 0, .int .i64 1, .string { data := #[] }, .slice (some ⟨w.heap.size, 0, none⟩) 1 1] 24) = W2 := ⟨_, rfl⟩
  rw [hW2] at kb0 ka0 hb0
  have HRI := Lib.hid (rd_oneA kb0 : Rd W2 2 (some ⟨w.heap.size, 0, none⟩) 1 (encI ⟨⟨#[97]⟩, 5⟩))
  have HRA : Hid (Rd W2 2 (some ⟨w.heap.size, 0, none⟩) liveA.items.length (liveA.items.flatMap encI)) := Lib.hid HRI.out
  have HB2 := Lib.hid hb0
  have HCA : Hid (∀ W, Below W2.heap.size W2 W → W.heap[w.heap.size + 1]? = some (.cells #[.int .i64 3, .int .i64 2, .int .i64 1, .int .i64 0, .int .i64 0, .int .i64 0, .int .i64 1, .string { data := #[] }, .slice (some ⟨w.heap.size, 0, none⟩) 1 1] 24 (0, 0))) := Lib.hid (fun W hW => (hW.block _ (lt_of_block ka0)).trans ka0)
  have HW2 := Lib.hid hW2
  have hgz : liveA.good.size ≤ 9223372036854775807 := by decide
  have HENC := Lib.hid (aenc_ok liveA (some ⟨w.heap.size, 0, none⟩) 1 W2 HRA.out liveA_bd hgz liveA_may)
  have HORD := Lib.hid (fun W (hW : Below W2.heap.size W2 W) => aord_any liveA (some ⟨w.heap.size, 0, none⟩) 1 W (HRA.out.below hW) liveA_bd hgz)
  have HBODY := Lib.hid (fun W (hW : Below W2.heap.size W2 W) => abody_ok liveA (some ⟨w.heap.size, 0, none⟩) 1 W (HRA.out.below hW) liveA_bd hgz liveA_may)
  have HMZ := Lib.hid (fun W => amay_any zeroA none 0 W Rd.nil ⟨by simp [zeroA], by simp [zeroA]⟩ (by decide))
  rw [zeroA_may] at HMZ
  simp only [liveA_ord] at HORD
  have HDEC : Hid (∀ W v, Bs W v (encA liveA) → Calls Try.prog 14 #[v] W (RetDecA W (some liveA))) := Lib.hid (fun W v hv => liveA_un ▸ adec_any v (encA liveA) W hv (encA_lt _) (by have := encA_le (mayA_lim liveA_may); omega))
  have HS1 := Lib.hid (fun W (A4 : Option Addr) (c4 : Nat) (h4 : Rd W 2 A4 liveA.items.length (liveA.items.flatMap encI)) (hW : Below W2.heap.size W2 W) => xsameA_any liveA liveA A4 c4 (some ⟨w.heap.size, 0, none⟩) 1 W h4 (HRA.out.below hW) (by decide))
  have HS2 := Lib.hid (fun W (A4 : Option Addr) (c4 : Nat) (h4 : Rd W 2 A4 liveA.items.length (liveA.items.flatMap encI)) (hW : Below W2.heap.size W2 W) => asame_any liveA liveA A4 c4 (some ⟨w.heap.size, 0, none⟩) 1 W h4 (HRA.out.below hW) (by decide))
  simp only [eqA_iff.2 (rfl : liveA = liveA)] at HS1 HS2
  have HLEN := Lib.hid liveA_len
  have HEL : Hid ((encA liveA).length ≤ 641) := Lib.hid (encA_le (mayA_lim liveA_may))
  clear kb0 ka0 hb0 hW2 hgz
  obtain ⟨EN, hEN⟩ : ∃ EN, encA liveA = EN := ⟨_, rfl⟩
  obtain ⟨BO, hBO⟩ : ∃ BO, bodyA liveA = BO := ⟨_, rfl⟩
  rw [hEN] at HENC HDEC HLEN HEL
  rw [hBO] at HBODY HLEN
  clear hEN hBO
  have ac0 := cell_at (HCA.out W2 (Below.refl _ _)) 0
  have ac1 := cell_at (HCA.out W2 (Below.refl _ _)) 1
  have ac2 := cell_at (HCA.out W2 (Below.refl _ _)) 2
  have ac3 := cell_at (HCA.out W2 (Below.refl _ _)) 3
  have ac4 := cell_at (HCA.out W2 (Below.refl _ _)) 4
  have ac5 := cell_at (HCA.out W2 (Below.refl _ _)) 5
  have ac6 := cell_at (HCA.out W2 (Below.refl _ _)) 6
  have ac7 := cell_at (HCA.out W2 (Below.refl _ _)) 7
  have ac8 := cell_at (HCA.out W2 (Below.refl _ _)) 8
  go_enter Try.func9, Try.ntmps9
  go_wp2_with fail
  rw [HW2.out]
  refine HENC.out.mono ?_
  rintro e w3 ⟨v, rfl, hv, hb⟩
  have HV := Lib.hid hv
  have HB3 := Lib.hid hb
  obtain ⟨Ab, cb, rfl, _, _, _⟩ := hv
  obtain ⟨ne, hne⟩ : ∃ ne, EN.length = ne := ⟨_, rfl⟩
  have HNE := Lib.hid hne
  rw [hne] at HV ⊢
  have hne6 : ne ≤ 641 := by rw [← hne]; exact HEL.out
  clear hb ac0 ac1 ac2 ac3 ac4 ac5 ac6 ac7 ac8 hne
  go_wp2_with fail
  refine (HDEC.out w3 _ HV.out).mono ?_
  rintro e w4 ⟨hs, _⟩
  obtain ⟨A4, c4, he, hr4, hb4⟩ := hs liveA rfl
  have he2 : e = .returned (.tuple #[.agg #[.int .i64 3, .int .i64 2, .int .i64 1, .int .i64 0, .int .i64 0, .int .i64 0, .int .i64 1, .string { data := #[] }, .slice A4 1 c4], .int .i64 0]) := he
  clear he
  subst he2
  have HB4 := Lib.hid (HB3.out.trans (hb4.mono HB3.out.size))
  have HR4 := Lib.hid hr4
  have hb5 := (Below.refl w4.heap.size w4).alloc (Nat.le_refl _) (.cells #[.int .i64 3, .int .i64 2, .int .i64 1, .int .i64 0, .int .i64 0, .int .i64 0, .int .i64 1, .string { data := #[] }, .slice A4 1 c4] 24)
  have kp := block_new w4 (.cells #[.int .i64 3, .int .i64 2, .int .i64 1, .int .i64 0, .int .i64 0, .int .i64 0, .int .i64 1, .string { data := #[] }, .slice A4 1 c4] 24)
  have HB5 := Lib.hid (HB4.out.trans (hb5.mono HB4.out.size))
  have HR5 := Lib.hid (hr4.below hb5)
  obtain ⟨pb, hpb⟩ : ∃ pb, w4.heap.size = pb := ⟨_, rfl⟩
  obtain ⟨W5, hW5⟩ : ∃ W5, w4.alloc (.cells #[.int .i64 3, .int .i64 2, .int .i64 1, .int .i64 0, .int .i64 0, .int .i64 0, .int .i64 1, .string { data := #[] }, .slice A4 1 c4] 24) = W5 := ⟨_, rfl⟩
  rw [hW5] at kp HB5 HR5
  rw [hpb] at kp
  have HCP : Hid (∀ W, Below W5.heap.size W5 W → W.heap[pb]? = some (.cells #[.int .i64 3, .int .i64 2, .int .i64 1, .int .i64 0, .int .i64 0, .int .i64 0, .int .i64 1, .string { data := #[] }, .slice A4 1 c4] 24 (0, 0))) := Lib.hid (fun W hW => (hW.block _ (lt_of_block kp)).trans kp)
  have HW5 := Lib.hid hW5
  have HPB := Lib.hid hpb
  have HC5 := Lib.hid (Below.refl W5.heap.size W5)
  clear hs hr4 hb4 hb5 hpb hW5 kp
  have ac0 : (w4.alloc (.cells #[.int .i64 3, .int .i64 2, .int .i64 1, .int .i64 0, .int .i64 0, .int .i64 0, .int .i64 1, .string { data := #[] }, .slice A4 1 c4] 24)).cell? ⟨w.heap.size + 1, 0, none⟩ = _ := (by rw [HW5.out]; exact cell_at (HCA.out W5 HB5.out) 0 : (w4.alloc (.cells #[.int .i64 3, .int .i64 2, .int .i64 1, .int .i64 0, .int .i64 0, .int .i64 0, .int .i64 1, .string { data := #[] }, .slice A4 1 c4] 24)).cell? ⟨w.heap.size + 1, 0, none⟩ = #[.int .i64 3, .int .i64 2, .int .i64 1, .int .i64 0, .int .i64 0, .int .i64 0, .int .i64 1, .string { data := #[] }, .slice (some ⟨w.heap.size, 0, none⟩) 1 1][0]?)
  have ac1 : (w4.alloc (.cells #[.int .i64 3, .int .i64 2, .int .i64 1, .int .i64 0, .int .i64 0, .int .i64 0, .int .i64 1, .string { data := #[] }, .slice A4 1 c4] 24)).cell? ⟨w.heap.size + 1, 1, none⟩ = _ := (by rw [HW5.out]; exact cell_at (HCA.out W5 HB5.out) 1 : (w4.alloc (.cells #[.int .i64 3, .int .i64 2, .int .i64 1, .int .i64 0, .int .i64 0, .int .i64 0, .int .i64 1, .string { data := #[] }, .slice A4 1 c4] 24)).cell? ⟨w.heap.size + 1, 1, none⟩ = #[.int .i64 3, .int .i64 2, .int .i64 1, .int .i64 0, .int .i64 0, .int .i64 0, .int .i64 1, .string { data := #[] }, .slice (some ⟨w.heap.size, 0, none⟩) 1 1][1]?)
  have ac2 : (w4.alloc (.cells #[.int .i64 3, .int .i64 2, .int .i64 1, .int .i64 0, .int .i64 0, .int .i64 0, .int .i64 1, .string { data := #[] }, .slice A4 1 c4] 24)).cell? ⟨w.heap.size + 1, 2, none⟩ = _ := (by rw [HW5.out]; exact cell_at (HCA.out W5 HB5.out) 2 : (w4.alloc (.cells #[.int .i64 3, .int .i64 2, .int .i64 1, .int .i64 0, .int .i64 0, .int .i64 0, .int .i64 1, .string { data := #[] }, .slice A4 1 c4] 24)).cell? ⟨w.heap.size + 1, 2, none⟩ = #[.int .i64 3, .int .i64 2, .int .i64 1, .int .i64 0, .int .i64 0, .int .i64 0, .int .i64 1, .string { data := #[] }, .slice (some ⟨w.heap.size, 0, none⟩) 1 1][2]?)
  have ac3 : (w4.alloc (.cells #[.int .i64 3, .int .i64 2, .int .i64 1, .int .i64 0, .int .i64 0, .int .i64 0, .int .i64 1, .string { data := #[] }, .slice A4 1 c4] 24)).cell? ⟨w.heap.size + 1, 3, none⟩ = _ := (by rw [HW5.out]; exact cell_at (HCA.out W5 HB5.out) 3 : (w4.alloc (.cells #[.int .i64 3, .int .i64 2, .int .i64 1, .int .i64 0, .int .i64 0, .int .i64 0, .int .i64 1, .string { data := #[] }, .slice A4 1 c4] 24)).cell? ⟨w.heap.size + 1, 3, none⟩ = #[.int .i64 3, .int .i64 2, .int .i64 1, .int .i64 0, .int .i64 0, .int .i64 0, .int .i64 1, .string { data := #[] }, .slice (some ⟨w.heap.size, 0, none⟩) 1 1][3]?)
  have ac4 : (w4.alloc (.cells #[.int .i64 3, .int .i64 2, .int .i64 1, .int .i64 0, .int .i64 0, .int .i64 0, .int .i64 1, .string { data := #[] }, .slice A4 1 c4] 24)).cell? ⟨w.heap.size + 1, 4, none⟩ = _ := (by rw [HW5.out]; exact cell_at (HCA.out W5 HB5.out) 4 : (w4.alloc (.cells #[.int .i64 3, .int .i64 2, .int .i64 1, .int .i64 0, .int .i64 0, .int .i64 0, .int .i64 1, .string { data := #[] }, .slice A4 1 c4] 24)).cell? ⟨w.heap.size + 1, 4, none⟩ = #[.int .i64 3, .int .i64 2, .int .i64 1, .int .i64 0, .int .i64 0, .int .i64 0, .int .i64 1, .string { data := #[] }, .slice (some ⟨w.heap.size, 0, none⟩) 1 1][4]?)
  have ac5 : (w4.alloc (.cells #[.int .i64 3, .int .i64 2, .int .i64 1, .int .i64 0, .int .i64 0, .int .i64 0, .int .i64 1, .string { data := #[] }, .slice A4 1 c4] 24)).cell? ⟨w.heap.size + 1, 5, none⟩ = _ := (by rw [HW5.out]; exact cell_at (HCA.out W5 HB5.out) 5 : (w4.alloc (.cells #[.int .i64 3, .int .i64 2, .int .i64 1, .int .i64 0, .int .i64 0, .int .i64 0, .int .i64 1, .string { data := #[] }, .slice A4 1 c4] 24)).cell? ⟨w.heap.size + 1, 5, none⟩ = #[.int .i64 3, .int .i64 2, .int .i64 1, .int .i64 0, .int .i64 0, .int .i64 0, .int .i64 1, .string { data := #[] }, .slice (some ⟨w.heap.size, 0, none⟩) 1 1][5]?)
  have ac6 : (w4.alloc (.cells #[.int .i64 3, .int .i64 2, .int .i64 1, .int .i64 0, .int .i64 0, .int .i64 0, .int .i64 1, .string { data := #[] }, .slice A4 1 c4] 24)).cell? ⟨w.heap.size + 1, 6, none⟩ = _ := (by rw [HW5.out]; exact cell_at (HCA.out W5 HB5.out) 6 : (w4.alloc (.cells #[.int .i64 3, .int .i64 2, .int .i64 1, .int .i64 0, .int .i64 0, .int .i64 0, .int .i64 1, .string { data := #[] }, .slice A4 1 c4] 24)).cell? ⟨w.heap.size + 1, 6, none⟩ = #[.int .i64 3, .int .i64 2, .int .i64 1, .int .i64 0, .int .i64 0, .int .i64 0, .int .i64 1, .string { data := #[] }, .slice (some ⟨w.heap.size, 0, none⟩) 1 1][6]?)
  have ac7 : (w4.alloc (.cells #[.int .i64 3, .int .i64 2, .int .i64 1, .int .i64 0, .int .i64 0, .int .i64 0, .int .i64 1, .string { data := #[] }, .slice A4 1 c4] 24)).cell? ⟨w.heap.size + 1, 7, none⟩ = _ := (by rw [HW5.out]; exact cell_at (HCA.out W5 HB5.out) 7 : (w4.alloc (.cells #[.int .i64 3, .int .i64 2, .int .i64 1, .int .i64 0, .int .i64 0, .int .i64 0, .int .i64 1, .string { data := #[] }, .slice A4 1 c4] 24)).cell? ⟨w.heap.size + 1, 7, none⟩ = #[.int .i64 3, .int .i64 2, .int .i64 1, .int .i64 0, .int .i64 0, .int .i64 0, .int .i64 1, .string { data := #[] }, .slice (some ⟨w.heap.size, 0, none⟩) 1 1][7]?)
  have ac8 : (w4.alloc (.cells #[.int .i64 3, .int .i64 2, .int .i64 1, .int .i64 0, .int .i64 0, .int .i64 0, .int .i64 1, .string { data := #[] }, .slice A4 1 c4] 24)).cell? ⟨w.heap.size + 1, 8, none⟩ = _ := (by rw [HW5.out]; exact cell_at (HCA.out W5 HB5.out) 8 : (w4.alloc (.cells #[.int .i64 3, .int .i64 2, .int .i64 1, .int .i64 0, .int .i64 0, .int .i64 0, .int .i64 1, .string { data := #[] }, .slice A4 1 c4] 24)).cell? ⟨w.heap.size + 1, 8, none⟩ = #[.int .i64 3, .int .i64 2, .int .i64 1, .int .i64 0, .int .i64 0, .int .i64 0, .int .i64 1, .string { data := #[] }, .slice (some ⟨w.heap.size, 0, none⟩) 1 1][8]?)
  have hgl : w.heap.size + 1 < w4.heap.size := lt_of_block (HCA.out w4 HB4.out)
  have p0 := cell_at (HCP.out W5 HC5.out) 0
  have p1 := cell_at (HCP.out W5 HC5.out) 1
  have p2 := cell_at (HCP.out W5 HC5.out) 2
  have p3 := cell_at (HCP.out W5 HC5.out) 3
  have p4 := cell_at (HCP.out W5 HC5.out) 4
  have p5 := cell_at (HCP.out W5 HC5.out) 5
  have p6 := cell_at (HCP.out W5 HC5.out) 6
  have p7 := cell_at (HCP.out W5 HC5.out) 7
  have p8 := cell_at (HCP.out W5 HC5.out) 8
  go_wp2_with fail
  rw [HW5.out, HPB.out]
  clear hgl
  refine (HS1.out W5 A4 c4 HR5.out HB5.out).mono ?_
  rintro e w6 ⟨rfl, hb⟩
  have HB6 := Lib.hid (HB5.out.trans (hb.mono HB5.out.size))
  have HC6 := Lib.hid (HC5.out.trans (hb.mono HC5.out.size))
  clear hb ac0 ac1 ac2 ac3 ac4 ac5 ac6 ac7 ac8 p0 p1 p2 p3 p4 p5 p6 p7 p8
  have ac0 := cell_at (HCA.out w6 HB6.out) 0
  have ac1 := cell_at (HCA.out w6 HB6.out) 1
  have ac2 := cell_at (HCA.out w6 HB6.out) 2
  have ac3 := cell_at (HCA.out w6 HB6.out) 3
  have ac4 := cell_at (HCA.out w6 HB6.out) 4
  have ac5 := cell_at (HCA.out w6 HB6.out) 5
  have ac6 := cell_at (HCA.out w6 HB6.out) 6
  have ac7 := cell_at (HCA.out w6 HB6.out) 7
  have ac8 := cell_at (HCA.out w6 HB6.out) 8
  have p0 := cell_at (HCP.out w6 HC6.out) 0
  have p1 := cell_at (HCP.out w6 HC6.out) 1
  have p2 := cell_at (HCP.out w6 HC6.out) 2
  have p3 := cell_at (HCP.out w6 HC6.out) 3
  have p4 := cell_at (HCP.out w6 HC6.out) 4
  have p5 := cell_at (HCP.out w6 HC6.out) 5
  have p6 := cell_at (HCP.out w6 HC6.out) 6
  have p7 := cell_at (HCP.out w6 HC6.out) 7
  have p8 := cell_at (HCP.out w6 HC6.out) 8
  go_wp2_with fail
  refine (HS2.out w6 A4 c4 (HR5.out.below HC6.out) HB6.out).mono ?_
  rintro e w7 ⟨rfl, hb⟩
  have HB7 := Lib.hid (HB6.out.trans (hb.mono HB6.out.size))
  have HC7 := Lib.hid (HC6.out.trans (hb.mono HC6.out.size))
  clear hb ac0 ac1 ac2 ac3 ac4 ac5 ac6 ac7 ac8 p0 p1 p2 p3 p4 p5 p6 p7 p8
  have ac0 := cell_at (HCA.out w7 HB7.out) 0
  have ac1 := cell_at (HCA.out w7 HB7.out) 1
  have ac2 := cell_at (HCA.out w7 HB7.out) 2
  have ac3 := cell_at (HCA.out w7 HB7.out) 3
  have ac4 := cell_at (HCA.out w7 HB7.out) 4
  have ac5 := cell_at (HCA.out w7 HB7.out) 5
  have ac6 := cell_at (HCA.out w7 HB7.out) 6
  have ac7 := cell_at (HCA.out w7 HB7.out) 7
  have ac8 := cell_at (HCA.out w7 HB7.out) 8
  have p0 := cell_at (HCP.out w7 HC7.out) 0
  have p1 := cell_at (HCP.out w7 HC7.out) 1
  have p2 := cell_at (HCP.out w7 HC7.out) 2
  have p3 := cell_at (HCP.out w7 HC7.out) 3
  have p4 := cell_at (HCP.out w7 HC7.out) 4
  have p5 := cell_at (HCP.out w7 HC7.out) 5
  have p6 := cell_at (HCP.out w7 HC7.out) 6
  have p7 := cell_at (HCP.out w7 HC7.out) 7
  have p8 := cell_at (HCP.out w7 HC7.out) 8
  go_wp2_with fail
  refine (HORD.out w7 HB7.out).mono ?_
  rintro e w8 ⟨rfl, hb⟩
  have HB8 := Lib.hid (HB7.out.trans (hb.mono HB7.out.size))
  have HC8 := Lib.hid (HC7.out.trans (hb.mono HC7.out.size))
  clear hb ac0 ac1 ac2 ac3 ac4 ac5 ac6 ac7 ac8 p0 p1 p2 p3 p4 p5 p6 p7 p8
  have ac0 := cell_at (HCA.out w8 HB8.out) 0
  have ac1 := cell_at (HCA.out w8 HB8.out) 1
  have ac2 := cell_at (HCA.out w8 HB8.out) 2
  have ac3 := cell_at (HCA.out w8 HB8.out) 3
  have ac4 := cell_at (HCA.out w8 HB8.out) 4
  have ac5 := cell_at (HCA.out w8 HB8.out) 5
  have ac6 := cell_at (HCA.out w8 HB8.out) 6
  have ac7 := cell_at (HCA.out w8 HB8.out) 7
  have ac8 := cell_at (HCA.out w8 HB8.out) 8
  have p0 := cell_at (HCP.out w8 HC8.out) 0
  have p1 := cell_at (HCP.out w8 HC8.out) 1
  have p2 := cell_at (HCP.out w8 HC8.out) 2
  have p3 := cell_at (HCP.out w8 HC8.out) 3
  have p4 := cell_at (HCP.out w8 HC8.out) 4
  have p5 := cell_at (HCP.out w8 HC8.out) 5
  have p6 := cell_at (HCP.out w8 HC8.out) 6
  have p7 := cell_at (HCP.out w8 HC8.out) 7
  have p8 := cell_at (HCP.out w8 HC8.out) 8
  go_wp2_with fail
  refine (owner_any 131 w8).mono ?_
  rintro e w88 ⟨rfl, rfl⟩
  rw [show ownA 131 = 3 by kernel_rfl]
  go_wp2_with fail
  refine (home_any 5 3 w8).mono ?_
  rintro e w88 ⟨rfl, rfl⟩
  rw [show homeA 5 3 = 2 by kernel_rfl]
  go_wp2_with fail
  refine (has_any 10 w8).mono ?_
  rintro e w88 ⟨rfl, rfl⟩
  rw [show hasA 10 = ⟨#[114, 116, 105]⟩ by kernel_rfl]
  go_wp2_with fail
  refine (HMZ.out w8).mono ?_
  rintro e w9 ⟨rfl, hb⟩
  have HB9 := Lib.hid (HB8.out.trans (hb.mono HB8.out.size))
  have HC9 := Lib.hid (HC8.out.trans (hb.mono HC8.out.size))
  clear hb ac0 ac1 ac2 ac3 ac4 ac5 ac6 ac7 ac8 p0 p1 p2 p3 p4 p5 p6 p7 p8
  have ac0 := cell_at (HCA.out w9 HB9.out) 0
  have ac1 := cell_at (HCA.out w9 HB9.out) 1
  have ac2 := cell_at (HCA.out w9 HB9.out) 2
  have ac3 := cell_at (HCA.out w9 HB9.out) 3
  have ac4 := cell_at (HCA.out w9 HB9.out) 4
  have ac5 := cell_at (HCA.out w9 HB9.out) 5
  have ac6 := cell_at (HCA.out w9 HB9.out) 6
  have ac7 := cell_at (HCA.out w9 HB9.out) 7
  have ac8 := cell_at (HCA.out w9 HB9.out) 8
  have p0 := cell_at (HCP.out w9 HC9.out) 0
  have p1 := cell_at (HCP.out w9 HC9.out) 1
  have p2 := cell_at (HCP.out w9 HC9.out) 2
  have p3 := cell_at (HCP.out w9 HC9.out) 3
  have p4 := cell_at (HCP.out w9 HC9.out) 4
  have p5 := cell_at (HCP.out w9 HC9.out) 5
  have p6 := cell_at (HCP.out w9 HC9.out) 6
  have p7 := cell_at (HCP.out w9 HC9.out) 7
  have p8 := cell_at (HCP.out w9 HC9.out) 8
  go_wp2_with fail
  refine (HBODY.out w9 HB9.out).mono ?_
  rintro e w10 ⟨vb, rfl, hvb, hb⟩
  have HB10 := Lib.hid (HB9.out.trans (hb.mono HB9.out.size))
  obtain ⟨Ac, cc, rfl, _, _, _⟩ := hvb
  have hbl : BO.length = ne - 2 := by have h1 := HLEN.out; have h2 := HNE.out; omega
  obtain ⟨nb, hnb⟩ : ∃ nb, BO.length = nb := ⟨_, rfl⟩
  have hnb2 : ne = nb + 2 := by have h1 := HLEN.out; have h2 := HNE.out; omega
  rw [hnb]
  subst hnb2
  clear hb hbl hnb ac0 ac1 ac2 ac3 ac4 ac5 ac6 ac7 ac8 p0 p1 p2 p3 p4 p5 p6 p7 p8
  go_wp2
  go_ret
  exact ⟨ret_bool (by simp), HB2.out.trans (HB10.out.mono HB2.out.size)⟩
end Go.Proofs.Ytjgdcdojigcefaa
