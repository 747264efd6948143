/- Joined: What must come of every program: chapter 10's lives. The contract of the reference's First: the number with whose cell bytes begin. The contract of the reference's First: the heads of numbers below 0. The contract of the reference's First, whole: the number with whose cell any bytes begin. -/
import Derived.Test.YtjgdcdojigcefaaZAR10
import Derived.Test.YtjgdcdojigcefaaZAR15
import Derived.Test.YtjgdcdojigcefaaZAR16
import Derived.Test.YtjgdcdojigcefaaZAR11
import Derived.Test.YtjgdcdojigcefaaZAR12
namespace Go.Proofs.Ytjgdcdojigcefaa
open Go.RowKit

def liveA : Ak := ⟨3, 2, 1, 0, 0, 0, 1, ByteArray.empty, [⟨⟨#[97]⟩, 5⟩]⟩
theorem liveA_may : mayA liveA = true := by kernel_rfl
theorem liveA_ord : ordA liveA = 131 := by kernel_rfl
theorem zeroA_may : mayA zeroA = false := by kernel_rfl
theorem liveA_len : (encA liveA).length = (bodyA liveA).length + 2 := by
  rw [encA_body]
  have h1 : (numB liveA.client).length = 1 := by kernel_rfl
  have h2 : (numB liveA.number).length = 1 := by kernel_rfl
  simp only [List.length_append, h1, h2]
  omega
theorem liveA_un : unA (encA liveA) = some liveA := (unA_iff (encA_lt _) _).2 ⟨liveA_may, rfl⟩
theorem liveA_bd : BdL liveA.items := ⟨fun z hz => by
  obtain rfl : z = ⟨⟨#[97]⟩, 5⟩ := by simpa [liveA] using hz
  exact ⟨by decide, by decide, by decide⟩, by decide⟩
set_option maxRecDepth 100000 in
set_option maxHeartbeats 1000000 in
theorem alives_any (w : World) : Calls Try.prog 9 #[] w fun e W => e = .returned (.bool true) ∧ Below w.heap.size w W := by
  have kb0 := block_alloc (block_new w (.cells #[.string { data := #[97] }, .int .i64 5] 46)) (.cells #[.int .i64 3, .int .i64 2, .int .i64 1, .int .i64 0, .int .i64 0, .int .i64 0, .int .i64 1, .string { data := #[] }, .slice (some ⟨w.heap.size, 0, none⟩) 1 1] 24)
  have ka0 := block_new (w.alloc (.cells #[.string { data := #[97] }, .int .i64 5] 46)) (.cells #[.int .i64 3, .int .i64 2, .int .i64 1, .int .i64 0, .int .i64 0, .int .i64 0, .int .i64 1, .string { data := #[] }, .slice (some ⟨w.heap.size, 0, none⟩) 1 1] 24)
  have hb0 := ((Below.refl _ w).alloc (Nat.le_refl _) (.cells #[.string { data := #[97] }, .int .i64 5] 46)).alloc (by simp) (.cells #[.int .i64 3, .int .i64 2, .int .i64 1, .int .i64 0, .int .i64 0, .int .i64 0, .int .i64 1, .string { data := #[] }, .slice (some ⟨w.heap.size, 0, none⟩) 1 1] 24)
  simp only [World.size_alloc] at ka0
  obtain ⟨W2, hW2⟩ : ∃ W2, (w.alloc (.cells #[.string { data := #[97] }, .int .i64 5] 46)).alloc (.cells #[.int .i64 3, .int .i64 2, .int .i64 1, .int .i64 0, .int .i64 0, .int .i64 0, .int .i64 1, .string { data := #[] }, .slice (some ⟨w.heap.size, 0, none⟩) 1 1] 24) = W2 := ⟨_, rfl⟩
  rw [hW2] at kb0 ka0 hb0
  have HRI := Lib.hid (rd_oneA kb0 : Rd W2 2 (some ⟨w.heap.size, 0, none⟩) 1 (encI ⟨⟨#[97]⟩, 5⟩))
  have HRA : Hid (Rd W2 2 (some ⟨w.heap.size, 0, none⟩) liveA.items.length (liveA.items.flatMap encI)) := Lib.hid HRI.out
  have HB2 := Lib.hid hb0
  have HCA : Hid (∀ W, Below W2.heap.size W2 W → W.heap[w.heap.size + 1]? = some (.cells #[.int .i64 3, .int .i64 2, .int .i64 1, .int .i64 0, .int .i64 0, .int .i64 0, .int .i64 1, .string { data := #[] }, .slice (some ⟨w.heap.size, 0, none⟩) 1 1] 24 (0, 0))) := Lib.hid (fun W hW => (hW.block _ (lt_of_block ka0)).trans ka0)
  have HW2 := Lib.hid hW2
  have hgz : liveA.good.size ≤ 9223372036854775807 := by decide
  have HENC := Lib.hid (aenc_ok liveA (some ⟨w.heap.size, 0, none⟩) 1 W2 HRA.out liveA_bd hgz liveA_may)
  have HORD := Lib.hid (fun W (hW : Below W2.heap.size W2 W) => aord_any liveA (some ⟨w.heap.size, 0, none⟩) 1 W (HRA.out.below hW) liveA_bd hgz)
  have HBODY := Lib.hid (fun W (hW : Below W2.heap.size W2 W) => abody_ok liveA (some ⟨w.heap.size, 0, none⟩) 1 W (HRA.out.below hW) liveA_bd hgz liveA_may)
  have HMZ := Lib.hid (fun W => amay_any zeroA none 0 W Rd.nil ⟨by simp [zeroA], by simp [zeroA]⟩ (by decide))
  rw [zeroA_may] at HMZ
  simp only [liveA_ord] at HORD
  have HDEC : Hid (∀ W v, Bs W v (encA liveA) → Calls Try.prog 14 #[v] W (RetDecA W (some liveA))) := Lib.hid (fun W v hv => liveA_un ▸ adec_any v (encA liveA) W hv (encA_lt _) (by have := encA_le (mayA_lim liveA_may); omega))
  have HS1 := Lib.hid (fun W (A4 : Option Addr) (c4 : Nat) (h4 : Rd W 2 A4 liveA.items.length (liveA.items.flatMap encI)) (hW : Below W2.heap.size W2 W) => xsameA_any liveA liveA A4 c4 (some ⟨w.heap.size, 0, none⟩) 1 W h4 (HRA.out.below hW) (by decide))
  have HS2 := Lib.hid (fun W (A4 : Option Addr) (c4 : Nat) (h4 : Rd W 2 A4 liveA.items.length (liveA.items.flatMap encI)) (hW : Below W2.heap.size W2 W) => asame_any liveA liveA A4 c4 (some ⟨w.heap.size, 0, none⟩) 1 W h4 (HRA.out.below hW) (by decide))
  simp only [eqA_iff.2 (rfl : liveA = liveA)] at HS1 HS2
  have HLEN := Lib.hid liveA_len
  have HEL : Hid ((encA liveA).length ≤ 641) := Lib.hid (encA_le (mayA_lim liveA_may))
  clear kb0 ka0 hb0 hW2 hgz
  obtain ⟨EN, hEN⟩ : ∃ EN, encA liveA = EN := ⟨_, rfl⟩
  obtain ⟨BO, hBO⟩ : ∃ BO, bodyA liveA = BO := ⟨_, rfl⟩
  rw [hEN] at HENC HDEC HLEN HEL
  rw [hBO] at HBODY HLEN
  clear hEN hBO
  have ac0 := cell_at (HCA.out W2 (Below.refl _ _)) 0
  have ac1 := cell_at (HCA.out W2 (Below.refl _ _)) 1
  have ac2 := cell_at (HCA.out W2 (Below.refl _ _)) 2
  have ac3 := cell_at (HCA.out W2 (Below.refl _ _)) 3
  have ac4 := cell_at (HCA.out W2 (Below.refl _ _)) 4
  have ac5 := cell_at (HCA.out W2 (Below.refl _ _)) 5
  have ac6 := cell_at (HCA.out W2 (Below.refl _ _)) 6
  have ac7 := cell_at (HCA.out W2 (Below.refl _ _)) 7
  have ac8 := cell_at (HCA.out W2 (Below.refl _ _)) 8
  go_enter Try.func9, Try.ntmps9
  go_wp2_with fail
  rw [HW2.out]
  refine HENC.out.mono ?_
  rintro e w3 ⟨v, rfl, hv, hb⟩
  have HV := Lib.hid hv
  have HB3 := Lib.hid hb
  obtain ⟨Ab, cb, rfl, _, _, _⟩ := hv
  obtain ⟨ne, hne⟩ : ∃ ne, EN.length = ne := ⟨_, rfl⟩
  have HNE := Lib.hid hne
  rw [hne] at HV ⊢
  have hne6 : ne ≤ 641 := by rw [← hne]; exact HEL.out
  clear hb ac0 ac1 ac2 ac3 ac4 ac5 ac6 ac7 ac8 hne
  go_wp2_with fail
  refine (HDEC.out w3 _ HV.out).mono ?_
  rintro e w4 ⟨hs, _⟩
  obtain ⟨A4, c4, he, hr4, hb4⟩ := hs liveA rfl
  have he2 : e = .returned (.tuple #[.agg #[.int .i64 3, .int .i64 2, .int .i64 1, .int .i64 0, .int .i64 0, .int .i64 0, .int .i64 1, .string { data := #[] }, .slice A4 1 c4], .int .i64 0]) := he
  clear he
  subst he2
  have HB4 := Lib.hid (HB3.out.trans (hb4.mono HB3.out.size))
  have HR4 := Lib.hid hr4
  have hb5 := (Below.refl w4.heap.size w4).alloc (Nat.le_refl _) (.cells #[.int .i64 3, .int .i64 2, .int .i64 1, .int .i64 0, .int .i64 0, .int .i64 0, .int .i64 1, .string { data := #[] }, .slice A4 1 c4] 24)
  have kp := block_new w4 (.cells #[.int .i64 3, .int .i64 2, .int .i64 1, .int .i64 0, .int .i64 0, .int .i64 0, .int .i64 1, .string { data := #[] }, .slice A4 1 c4] 24)
  have HB5 := Lib.hid (HB4.out.trans (hb5.mono HB4.out.size))
  have HR5 := Lib.hid (hr4.below hb5)
  obtain ⟨pb, hpb⟩ : ∃ pb, w4.heap.size = pb := ⟨_, rfl⟩
  obtain ⟨W5, hW5⟩ : ∃ W5, w4.alloc (.cells #[.int .i64 3, .int .i64 2, .int .i64 1, .int .i64 0, .int .i64 0, .int .i64 0, .int .i64 1, .string { data := #[] }, .slice A4 1 c4] 24) = W5 := ⟨_, rfl⟩
  rw [hW5] at kp HB5 HR5
  rw [hpb] at kp
  have HCP : Hid (∀ W, Below W5.heap.size W5 W → W.heap[pb]? = some (.cells #[.int .i64 3, .int .i64 2, .int .i64 1, .int .i64 0, .int .i64 0, .int .i64 0, .int .i64 1, .string { data := #[] }, .slice A4 1 c4] 24 (0, 0))) := Lib.hid (fun W hW => (hW.block _ (lt_of_block kp)).trans kp)
  have HW5 := Lib.hid hW5
  have HPB := Lib.hid hpb
  have HC5 := Lib.hid (Below.refl W5.heap.size W5)
  clear hs hr4 hb4 hb5 hpb hW5 kp
  have ac0 : (w4.alloc (.cells #[.int .i64 3, .int .i64 2, .int .i64 1, .int .i64 0, .int .i64 0, .int .i64 0, .int .i64 1, .string { data := #[] }, .slice A4 1 c4] 24)).cell? ⟨w.heap.size + 1, 0, none⟩ = _ := (by rw [HW5.out]; exact cell_at (HCA.out W5 HB5.out) 0 : (w4.alloc (.cells #[.int .i64 3, .int .i64 2, .int .i64 1, .int .i64 0, .int .i64 0, .int .i64 0, .int .i64 1, .string { data := #[] }, .slice A4 1 c4] 24)).cell? ⟨w.heap.size + 1, 0, none⟩ = #[.int .i64 3, .int .i64 2, .int .i64 1, .int .i64 0, .int .i64 0, .int .i64 0, .int .i64 1, .string { data := #[] }, .slice (some ⟨w.heap.size, 0, none⟩) 1 1][0]?)
  have ac1 : (w4.alloc (.cells #[.int .i64 3, .int .i64 2, .int .i64 1, .int .i64 0, .int .i64 0, .int .i64 0, .int .i64 1, .string { data := #[] }, .slice A4 1 c4] 24)).cell? ⟨w.heap.size + 1, 1, none⟩ = _ := (by rw [HW5.out]; exact cell_at (HCA.out W5 HB5.out) 1 : (w4.alloc (.cells #[.int .i64 3, .int .i64 2, .int .i64 1, .int .i64 0, .int .i64 0, .int .i64 0, .int .i64 1, .string { data := #[] }, .slice A4 1 c4] 24)).cell? ⟨w.heap.size + 1, 1, none⟩ = #[.int .i64 3, .int .i64 2, .int .i64 1, .int .i64 0, .int .i64 0, .int .i64 0, .int .i64 1, .string { data := #[] }, .slice (some ⟨w.heap.size, 0, none⟩) 1 1][1]?)
  have ac2 : (w4.alloc (.cells #[.int .i64 3, .int .i64 2, .int .i64 1, .int .i64 0, .int .i64 0, .int .i64 0, .int .i64 1, .string { data := #[] }, .slice A4 1 c4] 24)).cell? ⟨w.heap.size + 1, 2, none⟩ = _ := (by rw [HW5.out]; exact cell_at (HCA.out W5 HB5.out) 2 : (w4.alloc (.cells #[.int .i64 3, .int .i64 2, .int .i64 1, .int .i64 0, .int .i64 0, .int .i64 0, .int .i64 1, .string { data := #[] }, .slice A4 1 c4] 24)).cell? ⟨w.heap.size + 1, 2, none⟩ = #[.int .i64 3, .int .i64 2, .int .i64 1, .int .i64 0, .int .i64 0, .int .i64 0, .int .i64 1, .string { data := #[] }, .slice (some ⟨w.heap.size, 0, none⟩) 1 1][2]?)
  have ac3 : (w4.alloc (.cells #[.int .i64 3, .int .i64 2, .int .i64 1, .int .i64 0, .int .i64 0, .int .i64 0, .int .i64 1, .string { data := #[] }, .slice A4 1 c4] 24)).cell? ⟨w.heap.size + 1, 3, none⟩ = _ := (by rw [HW5.out]; exact cell_at (HCA.out W5 HB5.out) 3 : (w4.alloc (.cells #[.int .i64 3, .int .i64 2, .int .i64 1, .int .i64 0, .int .i64 0, .int .i64 0, .int .i64 1, .string { data := #[] }, .slice A4 1 c4] 24)).cell? ⟨w.heap.size + 1, 3, none⟩ = #[.int .i64 3, .int .i64 2, .int .i64 1, .int .i64 0, .int .i64 0, .int .i64 0, .int .i64 1, .string { data := #[] }, .slice (some ⟨w.heap.size, 0, none⟩) 1 1][3]?)
  have ac4 : (w4.alloc (.cells #[.int .i64 3, .int .i64 2, .int .i64 1, .int .i64 0, .int .i64 0, .int .i64 0, .int .i64 1, .string { data := #[] }, .slice A4 1 c4] 24)).cell? ⟨w.heap.size + 1, 4, none⟩ = _ := (by rw [HW5.out]; exact cell_at (HCA.out W5 HB5.out) 4 : (w4.alloc (.cells #[.int .i64 3, .int .i64 2, .int .i64 1, .int .i64 0, .int .i64 0, .int .i64 0, .int .i64 1, .string { data := #[] }, .slice A4 1 c4] 24)).cell? ⟨w.heap.size + 1, 4, none⟩ = #[.int .i64 3, .int .i64 2, .int .i64 1, .int .i64 0, .int .i64 0, .int .i64 0, .int .i64 1, .string { data := #[] }, .slice (some ⟨w.heap.size, 0, none⟩) 1 1][4]?)
  have ac5 : (w4.alloc (.cells #[.int .i64 3, .int .i64 2, .int .i64 1, .int .i64 0, .int .i64 0, .int .i64 0, .int .i64 1, .string { data := #[] }, .slice A4 1 c4] 24)).cell? ⟨w.heap.size + 1, 5, none⟩ = _ := (by rw [HW5.out]; exact cell_at (HCA.out W5 HB5.out) 5 : (w4.alloc (.cells #[.int .i64 3, .int .i64 2, .int .i64 1, .int .i64 0, .int .i64 0, .int .i64 0, .int .i64 1, .string { data := #[] }, .slice A4 1 c4] 24)).cell? ⟨w.heap.size + 1, 5, none⟩ = #[.int .i64 3, .int .i64 2, .int .i64 1, .int .i64 0, .int .i64 0, .int .i64 0, .int .i64 1, .string { data := #[] }, .slice (some ⟨w.heap.size, 0, none⟩) 1 1][5]?)
  have ac6 : (w4.alloc (.cells #[.int .i64 3, .int .i64 2, .int .i64 1, .int .i64 0, .int .i64 0, .int .i64 0, .int .i64 1, .string { data := #[] }, .slice A4 1 c4] 24)).cell? ⟨w.heap.size + 1, 6, none⟩ = _ := (by rw [HW5.out]; exact cell_at (HCA.out W5 HB5.out) 6 : (w4.alloc (.cells #[.int .i64 3, .int .i64 2, .int .i64 1, .int .i64 0, .int .i64 0, .int .i64 0, .int .i64 1, .string { data := #[] }, .slice A4 1 c4] 24)).cell? ⟨w.heap.size + 1, 6, none⟩ = #[.int .i64 3, .int .i64 2, .int .i64 1, .int .i64 0, .int .i64 0, .int .i64 0, .int .i64 1, .string { data := #[] }, .slice (some ⟨w.heap.size, 0, none⟩) 1 1][6]?)
  have ac7 : (w4.alloc (.cells #[.int .i64 3, .int .i64 2, .int .i64 1, .int .i64 0, .int .i64 0, .int .i64 0, .int .i64 1, .string { data := #[] }, .slice A4 1 c4] 24)).cell? ⟨w.heap.size + 1, 7, none⟩ = _ := (by rw [HW5.out]; exact cell_at (HCA.out W5 HB5.out) 7 : (w4.alloc (.cells #[.int .i64 3, .int .i64 2, .int .i64 1, .int .i64 0, .int .i64 0, .int .i64 0, .int .i64 1, .string { data := #[] }, .slice A4 1 c4] 24)).cell? ⟨w.heap.size + 1, 7, none⟩ = #[.int .i64 3, .int .i64 2, .int .i64 1, .int .i64 0, .int .i64 0, .int .i64 0, .int .i64 1, .string { data := #[] }, .slice (some ⟨w.heap.size, 0, none⟩) 1 1][7]?)
  have ac8 : (w4.alloc (.cells #[.int .i64 3, .int .i64 2, .int .i64 1, .int .i64 0, .int .i64 0, .int .i64 0, .int .i64 1, .string { data := #[] }, .slice A4 1 c4] 24)).cell? ⟨w.heap.size + 1, 8, none⟩ = _ := (by rw [HW5.out]; exact cell_at (HCA.out W5 HB5.out) 8 : (w4.alloc (.cells #[.int .i64 3, .int .i64 2, .int .i64 1, .int .i64 0, .int .i64 0, .int .i64 0, .int .i64 1, .string { data := #[] }, .slice A4 1 c4] 24)).cell? ⟨w.heap.size + 1, 8, none⟩ = #[.int .i64 3, .int .i64 2, .int .i64 1, .int .i64 0, .int .i64 0, .int .i64 0, .int .i64 1, .string { data := #[] }, .slice (some ⟨w.heap.size, 0, none⟩) 1 1][8]?)
  have hgl : w.heap.size + 1 < w4.heap.size := lt_of_block (HCA.out w4 HB4.out)
  have p0 := cell_at (HCP.out W5 HC5.out) 0
  have p1 := cell_at (HCP.out W5 HC5.out) 1
  have p2 := cell_at (HCP.out W5 HC5.out) 2
  have p3 := cell_at (HCP.out W5 HC5.out) 3
  have p4 := cell_at (HCP.out W5 HC5.out) 4
  have p5 := cell_at (HCP.out W5 HC5.out) 5
  have p6 := cell_at (HCP.out W5 HC5.out) 6
  have p7 := cell_at (HCP.out W5 HC5.out) 7
  have p8 := cell_at (HCP.out W5 HC5.out) 8
  go_wp2_with fail
  rw [HW5.out, HPB.out]
  clear hgl
  refine (HS1.out W5 A4 c4 HR5.out HB5.out).mono ?_
  rintro e w6 ⟨rfl, hb⟩
  have HB6 := Lib.hid (HB5.out.trans (hb.mono HB5.out.size))
  have HC6 := Lib.hid (HC5.out.trans (hb.mono HC5.out.size))
  clear hb ac0 ac1 ac2 ac3 ac4 ac5 ac6 ac7 ac8 p0 p1 p2 p3 p4 p5 p6 p7 p8
  have ac0 := cell_at (HCA.out w6 HB6.out) 0
  have ac1 := cell_at (HCA.out w6 HB6.out) 1
  have ac2 := cell_at (HCA.out w6 HB6.out) 2
  have ac3 := cell_at (HCA.out w6 HB6.out) 3
  have ac4 := cell_at (HCA.out w6 HB6.out) 4
  have ac5 := cell_at (HCA.out w6 HB6.out) 5
  have ac6 := cell_at (HCA.out w6 HB6.out) 6
  have ac7 := cell_at (HCA.out w6 HB6.out) 7
  have ac8 := cell_at (HCA.out w6 HB6.out) 8
  have p0 := cell_at (HCP.out w6 HC6.out) 0
  have p1 := cell_at (HCP.out w6 HC6.out) 1
  have p2 := cell_at (HCP.out w6 HC6.out) 2
  have p3 := cell_at (HCP.out w6 HC6.out) 3
  have p4 := cell_at (HCP.out w6 HC6.out) 4
  have p5 := cell_at (HCP.out w6 HC6.out) 5
  have p6 := cell_at (HCP.out w6 HC6.out) 6
  have p7 := cell_at (HCP.out w6 HC6.out) 7
  have p8 := cell_at (HCP.out w6 HC6.out) 8
  go_wp2_with fail
  refine (HS2.out w6 A4 c4 (HR5.out.below HC6.out) HB6.out).mono ?_
  rintro e w7 ⟨rfl, hb⟩
  have HB7 := Lib.hid (HB6.out.trans (hb.mono HB6.out.size))
  have HC7 := Lib.hid (HC6.out.trans (hb.mono HC6.out.size))
  clear hb ac0 ac1 ac2 ac3 ac4 ac5 ac6 ac7 ac8 p0 p1 p2 p3 p4 p5 p6 p7 p8
  have ac0 := cell_at (HCA.out w7 HB7.out) 0
  have ac1 := cell_at (HCA.out w7 HB7.out) 1
  have ac2 := cell_at (HCA.out w7 HB7.out) 2
  have ac3 := cell_at (HCA.out w7 HB7.out) 3
  have ac4 := cell_at (HCA.out w7 HB7.out) 4
  have ac5 := cell_at (HCA.out w7 HB7.out) 5
  have ac6 := cell_at (HCA.out w7 HB7.out) 6
  have ac7 := cell_at (HCA.out w7 HB7.out) 7
  have ac8 := cell_at (HCA.out w7 HB7.out) 8
  have p0 := cell_at (HCP.out w7 HC7.out) 0
  have p1 := cell_at (HCP.out w7 HC7.out) 1
  have p2 := cell_at (HCP.out w7 HC7.out) 2
  have p3 := cell_at (HCP.out w7 HC7.out) 3
  have p4 := cell_at (HCP.out w7 HC7.out) 4
  have p5 := cell_at (HCP.out w7 HC7.out) 5
  have p6 := cell_at (HCP.out w7 HC7.out) 6
  have p7 := cell_at (HCP.out w7 HC7.out) 7
  have p8 := cell_at (HCP.out w7 HC7.out) 8
  go_wp2_with fail
  refine (HORD.out w7 HB7.out).mono ?_
  rintro e w8 ⟨rfl, hb⟩
  have HB8 := Lib.hid (HB7.out.trans (hb.mono HB7.out.size))
  have HC8 := Lib.hid (HC7.out.trans (hb.mono HC7.out.size))
  clear hb ac0 ac1 ac2 ac3 ac4 ac5 ac6 ac7 ac8 p0 p1 p2 p3 p4 p5 p6 p7 p8
  have ac0 := cell_at (HCA.out w8 HB8.out) 0
  have ac1 := cell_at (HCA.out w8 HB8.out) 1
  have ac2 := cell_at (HCA.out w8 HB8.out) 2
  have ac3 := cell_at (HCA.out w8 HB8.out) 3
  have ac4 := cell_at (HCA.out w8 HB8.out) 4
  have ac5 := cell_at (HCA.out w8 HB8.out) 5
  have ac6 := cell_at (HCA.out w8 HB8.out) 6
  have ac7 := cell_at (HCA.out w8 HB8.out) 7
  have ac8 := cell_at (HCA.out w8 HB8.out) 8
  have p0 := cell_at (HCP.out w8 HC8.out) 0
  have p1 := cell_at (HCP.out w8 HC8.out) 1
  have p2 := cell_at (HCP.out w8 HC8.out) 2
  have p3 := cell_at (HCP.out w8 HC8.out) 3
  have p4 := cell_at (HCP.out w8 HC8.out) 4
  have p5 := cell_at (HCP.out w8 HC8.out) 5
  have p6 := cell_at (HCP.out w8 HC8.out) 6
  have p7 := cell_at (HCP.out w8 HC8.out) 7
  have p8 := cell_at (HCP.out w8 HC8.out) 8
  go_wp2_with fail
  refine (owner_any 131 w8).mono ?_
  rintro e w88 ⟨rfl, rfl⟩
  rw [show ownA 131 = 3 by kernel_rfl]
  go_wp2_with fail
  refine (home_any 5 3 w8).mono ?_
  rintro e w88 ⟨rfl, rfl⟩
  rw [show homeA 5 3 = 2 by kernel_rfl]
  go_wp2_with fail
  refine (has_any 10 w8).mono ?_
  rintro e w88 ⟨rfl, rfl⟩
  rw [show hasA 10 = ⟨#[114, 116, 105]⟩ by kernel_rfl]
  go_wp2_with fail
  refine (HMZ.out w8).mono ?_
  rintro e w9 ⟨rfl, hb⟩
  have HB9 := Lib.hid (HB8.out.trans (hb.mono HB8.out.size))
  have HC9 := Lib.hid (HC8.out.trans (hb.mono HC8.out.size))
  clear hb ac0 ac1 ac2 ac3 ac4 ac5 ac6 ac7 ac8 p0 p1 p2 p3 p4 p5 p6 p7 p8
  have ac0 := cell_at (HCA.out w9 HB9.out) 0
  have ac1 := cell_at (HCA.out w9 HB9.out) 1
  have ac2 := cell_at (HCA.out w9 HB9.out) 2
  have ac3 := cell_at (HCA.out w9 HB9.out) 3
  have ac4 := cell_at (HCA.out w9 HB9.out) 4
  have ac5 := cell_at (HCA.out w9 HB9.out) 5
  have ac6 := cell_at (HCA.out w9 HB9.out) 6
  have ac7 := cell_at (HCA.out w9 HB9.out) 7
  have ac8 := cell_at (HCA.out w9 HB9.out) 8
  have p0 := cell_at (HCP.out w9 HC9.out) 0
  have p1 := cell_at (HCP.out w9 HC9.out) 1
  have p2 := cell_at (HCP.out w9 HC9.out) 2
  have p3 := cell_at (HCP.out w9 HC9.out) 3
  have p4 := cell_at (HCP.out w9 HC9.out) 4
  have p5 := cell_at (HCP.out w9 HC9.out) 5
  have p6 := cell_at (HCP.out w9 HC9.out) 6
  have p7 := cell_at (HCP.out w9 HC9.out) 7
  have p8 := cell_at (HCP.out w9 HC9.out) 8
  go_wp2_with fail
  refine (HBODY.out w9 HB9.out).mono ?_
  rintro e w10 ⟨vb, rfl, hvb, hb⟩
  have HB10 := Lib.hid (HB9.out.trans (hb.mono HB9.out.size))
  obtain ⟨Ac, cc, rfl, _, _, _⟩ := hvb
  have hbl : BO.length = ne - 2 := by have h1 := HLEN.out; have h2 := HNE.out; omega
  obtain ⟨nb, hnb⟩ : ∃ nb, BO.length = nb := ⟨_, rfl⟩
  have hnb2 : ne = nb + 2 := by have h1 := HLEN.out; have h2 := HNE.out; omega
  rw [hnb]
  subst hnb2
  clear hb hbl hnb ac0 ac1 ac2 ac3 ac4 ac5 ac6 ac7 ac8 p0 p1 p2 p3 p4 p5 p6 p7 p8
  go_wp2
  go_ret
  exact ⟨ret_bool (by simp), HB2.out.trans (HB10.out.mono HB2.out.size)⟩
end Go.Proofs.Ytjgdcdojigcefaa

namespace Go.Proofs.Ytjgdcdojigcefaa
open Go.RowKit

/-- What the reference's First tells. -/
def rfstV (bs : List Nat) : Value := match firstN bs with | some (n, k) => .tuple #[.int .i64 n, .int .i64 k] | none => .tuple #[.int .i64 0, .int .i64 0]
theorem rfstV_some {bs : List Nat} {n : Int} {k : Nat} (h : firstN bs = some (n, k)) : rfstV bs = .tuple #[.int .i64 n, .int .i64 k] := by unfold rfstV; rw [h]
theorem rfstV_none {bs : List Nat} (h : firstN bs = none) : rfstV bs = .tuple #[.int .i64 0, .int .i64 0] := by unfold rfstV; rw [h]

set_option maxRecDepth 100000 in
set_option maxHeartbeats 400000 in
theorem rfirst_nil (A : Option Addr) (c : Nat) (w : World) : Calls Try.prog 73 #[.slice A 0 c] w fun e w' => e = .returned (rfstV []) ∧ Below w.heap.size w w' := by
  have HV := Lib.hid (rfstV_none (bs := []) rfl)
  go_enter Try.func73, Try.ntmps73
  go_wp2
  go_ret2
  rw [HV.out]
  exact ⟨rfl, Below.refl _ _⟩

set_option maxRecDepth 100000 in
set_option maxHeartbeats 400000 in
theorem rfirst_small (g o c : Nat) (w : World) (h : Nat) (t : List Nat) (n : Nat) (hn : 0 < n) (hc : w.cell? ⟨g, o, none⟩ = some (.int .u8 h)) (hh : h < 128) : Calls Try.prog 73 #[.slice (some ⟨g, o, none⟩) n c] w fun e w' => e = .returned (rfstV (h :: t)) ∧ Below w.heap.size w w' := by
  have HV := Lib.hid (rfstV_some (bs := h :: t) (n := h) (k := 1) (by rw [firstN, if_pos hh]))
  go_enter Try.func73, Try.ntmps73
  go_wp2
  go_ret2
  rw [HV.out]
  exact ⟨rfl, Below.refl _ _⟩

set_option maxRecDepth 100000 in
set_option maxHeartbeats 400000 in
theorem rfirst_odd (g o c : Nat) (w : World) (h : Nat) (t : List Nat) (n : Nat) (hn : 0 < n) (hc : w.cell? ⟨g, o, none⟩ = some (.int .u8 h)) (hh : h = 128 ∨ (137 ≤ h ∧ h < 144) ∨ (153 ≤ h ∧ h < 256)) (hf : firstN (h :: t) = none) :
    Calls Try.prog 73 #[.slice (some ⟨g, o, none⟩) n c] w fun e w' => e = .returned (rfstV (h :: t)) ∧ Below w.heap.size w w' := by
  have HV := Lib.hid (rfstV_none hf)
  clear hf
  rcases hh with rfl | ⟨h1, h2⟩ | ⟨h1, h2⟩
  all_goals
    go_enter Try.func73, Try.ntmps73
    go_wp2
    go_ret2
    rw [HV.out]
    exact ⟨rfl, Below.refl _ _⟩

set_option maxRecDepth 100000 in
set_option maxHeartbeats 1000000 in
theorem rfirst_shortP (g o c : Nat) (w : World) (z : Nat) (t : List Nat) (n : Nat) (hn : n = 1 + t.length) (hnm : n ≤ 9223372036854775807) (hc : w.cell? ⟨g, o, none⟩ = some (.int .u8 ((128 + z : Nat) : Int))) (hz0 : 1 ≤ z) (hz8 : z ≤ 8) (hz : t.length < z) :
    Calls Try.prog 73 #[.slice (some ⟨g, o, none⟩) n c] w fun e w' => e = .returned (rfstV ((128 + z) :: t)) ∧ Below w.heap.size w w' := by
  have hs : sizeH (128 + z) = z := by unfold sizeH; split <;> omega
  have HV := Lib.hid (rfstV_none (bs := (128 + z) :: t) (by rw [firstN, if_neg (by omega), hs, if_pos (.inr hz)]))
  clear hs
  go_enter Try.func73, Try.ntmps73
  go_wp2
  go_ret2
  rw [HV.out]
  exact ⟨rfl, Below.refl _ _⟩

set_option maxRecDepth 100000 in
set_option maxHeartbeats 8000000 in
theorem rfirst_goodP (g o c : Nat) (w : World) (z : Nat) (t : List Nat) (n : Nat) (hn : n = 1 + t.length) (hnc : n ≤ c) (hnm : c ≤ 9223372036854775807) (hr : Rd w 1 (some ⟨g, o, none⟩) n (((128 + z) :: t).map u8v)) (hb : ∀ b ∈ (128 + z) :: t, b < 256) (hz0 : 1 ≤ z) (hz8 : z ≤ 8) (hz : z ≤ t.length) :
    Calls Try.prog 73 #[.slice (some ⟨g, o, none⟩) n c] w fun e w' => e = .returned (rfstV ((128 + z) :: t)) ∧ Below w.heap.size w w' := by
  have hcell : ∀ (j : Nat) (hj : j < t.length), w.cell? ⟨g, o + (1 + j), none⟩ = some (.int .u8 (t[j] : Int)) := by
    obtain ⟨g', o', ha, _, hcc⟩ := hr.2 (by omega)
    cases ha
    intro j hj
    exact hcc (1 + j) (u8v t[j]) (by simp [Nat.add_comm 1 j, hj])
  have hc : w.cell? ⟨g, o, none⟩ = some (.int .u8 ((128 + z : Nat) : Int)) := by
    obtain ⟨g', o', ha, _, hcc⟩ := hr.2 (by omega)
    cases ha
    exact hcc 0 (u8v (128 + z)) (by simp)
  have HCell := Lib.hid hcell
  have HR := Lib.hid hr
  have HB := Lib.hid hb
  clear hr hb hcell
  go_enter Try.func73, Try.ntmps73
  go_wp2_with fail
  have ez : (128 + (z : Int) - 128) = z := by omega
  simp only [ez]
  clear ez
  go_loopw [6, 7] (fun u i wr => FstRel t z u i ∧ wr = w) (fun _ i _ => (z - (intOf i).toNat))
  case atStart => exact ⟨⟨0, Nat.zero_le _, rfl, rfl⟩, rfl⟩
  case round =>
    obtain ⟨⟨k, hk, rfl, rfl⟩, rfl⟩ := hrel
    by_cases hlt : k < z
    · have hk1 := HCell.out k (by omega)
      have hu : val (t.take k) < 72057594037927936 := by
        have h1 := val_lt (t.take k) (fun b hb => HB.out b (List.mem_cons_of_mem _ (List.mem_of_mem_take hb)))
        have h2 : (t.take k).length ≤ 7 := by rw [List.length_take]; omega
        have h3 : 256 ^ (t.take k).length ≤ 256 ^ 7 := Nat.pow_le_pow_right (by omega) h2
        have h4 : (256 : Nat) ^ 7 = 72057594037927936 := by rfl
        omega
      have hlk : k < t.length := by omega
      have htk : t[k] < 256 := HB.out _ (List.mem_cons_of_mem _ (List.getElem_mem hlk))
      have hval : val (t.take (k + 1)) = val (t.take k) * 256 + t[k] := by rw [List.take_succ_eq_append_getElem hlk, val_snoc]
      have HVal := Lib.hid hval
      obtain ⟨x, hx⟩ : ∃ x, val (t.take k) = x := ⟨_, rfl⟩
      obtain ⟨b, hbk⟩ : ∃ b, t[k] = b := ⟨_, rfl⟩
      rw [hx] at hu HVal
      rw [hbk] at htk hk1 HVal
      simp only [hx]
      clear hx hbk hval
      go_wp2_with fail
      go_roundw
      case rel =>
        refine ⟨⟨k + 1, hlt, by go_num, ?_⟩, trivial⟩
        rw [HVal.out]
        simp
      case measure => simp [intOf]; omega
    · obtain rfl : k = z := by omega
      have hx64 : val (t.take k) < 18446744073709551616 := by
        have h1 := val_lt (t.take k) (fun b hb => HB.out b (List.mem_cons_of_mem _ (List.mem_of_mem_take hb)))
        have h2 : (t.take k).length ≤ 8 := by rw [List.length_take]; omega
        have h3 : 256 ^ (t.take k).length ≤ 256 ^ 8 := Nat.pow_le_pow_right (by omega) h2
        have h4 : (256 : Nat) ^ 8 = 18446744073709551616 := by rfl
        omega
      obtain ⟨x, hx⟩ : ∃ x, val (t.take k) = x := ⟨_, rfl⟩
      rw [hx] at hx64
      have hs : sizeH (128 + k) = k := by unfold sizeH; split <;> omega
      by_cases hx63 : x < 9223372036854775808
      · have hN : numH (128 + k) x = (x : Int) := by unfold numH; split <;> omega
        have hcmp := first_cmp (128 + k) k x t ((x : Int)) hz8 (by omega) hz hx.symm hx64 ⟨fun _ => hN.symm, fun h => by omega⟩
        have hr1 : Rd wr 1 (some ⟨g, o, none⟩) (1 + k) ((((128 + k) :: t).take (1 + k)).map u8v) := by
          have := HR.out.take (k := 1 + k) (by omega)
          simpa [List.map_take] using this
        have hbt : ∀ b ∈ ((128 + k) :: t).take (1 + k), b < 256 := fun b hb => HB.out b (List.mem_of_mem_take hb)
        have HCmp := Lib.hid hcmp
        have HR1 := Lib.hid hr1
        have HBT := Lib.hid hbt
        have d1 : decide ((9223372036854775808 : Int) ≤ (x : Int)) = false := by
          rw [decide_eq_false_iff_not]
          omega
        have d2 : wrap64 (x : Int) = x := by unfold wrap64; omega
        have HX := Lib.hid hx63
        clear hcmp hr1 hbt hs hN hx63 hx64
        try simp only [hx]
        clear hx
        go_wp2_with fail
        have hI : I64 ((x : Int)) := by have := HX.out; unfold I64; omega
        obtain ⟨N, hNd⟩ : ∃ N, (x : Int) = N := ⟨_, rfl⟩
        rw [hNd] at hI HCmp
        simp only [hNd]
        have d3 : wrap64 N = N := by unfold I64 at hI; unfold wrap64; omega
        have D3 := Lib.hid d3
        clear hNd d1 d2 d3
        refine (rnum_any N wr hI).mono ?_
        rintro e w5 ⟨v, rfl, ⟨A5, c5, rfl, hl5, hm5, hr5⟩, hb5⟩
        have hr5d : Rd w5.drew 1 A5 (numB N).length ((numB N).map u8v) := hr5
        have hs5 := run_str w5.drew A5 _ c5 (numB N) hr5d (numB_lt _)
        have hs6 := run_str w5.drew (some ⟨g, o, none⟩) (1 + k) c _ ((HR1.out.below hb5).below (Below.refl _ _).drew) HBT.out
        have s1 : IntKind.i64.wrap (1 + (k : Int)) = 1 + k := IntWalk.i64_in _ (by omega)
        have s2 : (1 + (k : Int)).toNat = 1 + k := by omega
        have HB5 := Lib.hid hb5
        clear hl5 hm5 hr5 hr5d hb5
        go_wp2_with fail
        go_region
        all_goals rw [strOf_beq (numB_lt _) HBT.out]
        all_goals
          by_cases hEq : numB N = ((128 + k) :: t).take (1 + k)
          · have hd : decide (numB N = ((128 + k) :: t).take (1 + k)) = true := by simpa using hEq
            rw [hd]
            have HVal := Lib.hid (rfstV_some (HCmp.out.trans (if_pos hEq)))
            clear hd hEq hs5 hs6
            go_wp2
            go_ret2
            rw [HVal.out]
            exact ⟨by simp [D3.out], HB5.out.trans (((Below.refl _ _).drew).mono HB5.out.size)⟩
          · have hd : decide (numB N = ((128 + k) :: t).take (1 + k)) = false := by simpa using hEq
            rw [hd]
            have HVal := Lib.hid (rfstV_none (HCmp.out.trans (if_neg hEq)))
            clear hd hEq hs5 hs6
            go_wp2
            go_ret2
            rw [HVal.out]
            exact ⟨rfl, HB5.out.trans (((Below.refl _ _).drew).mono HB5.out.size)⟩
      · have HVal := Lib.hid (rfstV_none (bs := (128 + k) :: t) (by rw [firstN, if_neg (by omega), hs, if_neg (by omega), hx, if_neg (fun h => hx63 h.1)]))
        have d1 : decide ((9223372036854775808 : Int) ≤ (x : Int)) = true := by
          rw [decide_eq_true_iff]
          omega
        try simp only [hx]
        clear hs hx hx63 hx64
        go_wp2
        go_ret2
        rw [HVal.out]
        exact ⟨rfl, Below.refl _ _⟩

end Go.Proofs.Ytjgdcdojigcefaa

namespace Go.Proofs.Ytjgdcdojigcefaa
open Go.RowKit

set_option maxRecDepth 100000 in
set_option maxHeartbeats 1000000 in
theorem rfirst_shortN (g o c : Nat) (w : World) (z : Nat) (t : List Nat) (n : Nat) (hn : n = 1 + t.length) (hnm : n ≤ 9223372036854775807) (hc : w.cell? ⟨g, o, none⟩ = some (.int .u8 ((144 + z : Nat) : Int)))  (hz8 : z ≤ 8) (hz : t.length < z) :
    Calls Try.prog 73 #[.slice (some ⟨g, o, none⟩) n c] w fun e w' => e = .returned (rfstV ((144 + z) :: t)) ∧ Below w.heap.size w w' := by
  have hs : sizeH (144 + z) = z := by unfold sizeH; split <;> omega
  have HV := Lib.hid (rfstV_none (bs := (144 + z) :: t) (by rw [firstN, if_neg (by omega), hs, if_pos (.inr hz)]))
  clear hs
  go_enter Try.func73, Try.ntmps73
  go_wp2
  go_ret2
  rw [HV.out]
  exact ⟨rfl, Below.refl _ _⟩

set_option maxRecDepth 100000 in
set_option maxHeartbeats 8000000 in
theorem rfirst_goodN (g o c : Nat) (w : World) (z : Nat) (t : List Nat) (n : Nat) (hn : n = 1 + t.length) (hnc : n ≤ c) (hnm : c ≤ 9223372036854775807) (hr : Rd w 1 (some ⟨g, o, none⟩) n (((144 + z) :: t).map u8v)) (hb : ∀ b ∈ (144 + z) :: t, b < 256)  (hz8 : z ≤ 8) (hz : z ≤ t.length) :
    Calls Try.prog 73 #[.slice (some ⟨g, o, none⟩) n c] w fun e w' => e = .returned (rfstV ((144 + z) :: t)) ∧ Below w.heap.size w w' := by
  have hcell : ∀ (j : Nat) (hj : j < t.length), w.cell? ⟨g, o + (1 + j), none⟩ = some (.int .u8 (t[j] : Int)) := by
    obtain ⟨g', o', ha, _, hcc⟩ := hr.2 (by omega)
    cases ha
    intro j hj
    exact hcc (1 + j) (u8v t[j]) (by simp [Nat.add_comm 1 j, hj])
  have hc : w.cell? ⟨g, o, none⟩ = some (.int .u8 ((144 + z : Nat) : Int)) := by
    obtain ⟨g', o', ha, _, hcc⟩ := hr.2 (by omega)
    cases ha
    exact hcc 0 (u8v (144 + z)) (by simp)
  have HCell := Lib.hid hcell
  have HR := Lib.hid hr
  have HB := Lib.hid hb
  clear hr hb hcell
  go_enter Try.func73, Try.ntmps73
  go_wp2_with fail
  have ez : (144 + (z : Int) - 144) = z := by omega
  simp only [ez]
  clear ez
  go_loopw [6, 7] (fun u i wr => FstRel t z u i ∧ wr = w) (fun _ i _ => (z - (intOf i).toNat))
  case atStart => exact ⟨⟨0, Nat.zero_le _, rfl, rfl⟩, rfl⟩
  case round =>
    obtain ⟨⟨k, hk, rfl, rfl⟩, rfl⟩ := hrel
    by_cases hlt : k < z
    · have hk1 := HCell.out k (by omega)
      have hu : val (t.take k) < 72057594037927936 := by
        have h1 := val_lt (t.take k) (fun b hb => HB.out b (List.mem_cons_of_mem _ (List.mem_of_mem_take hb)))
        have h2 : (t.take k).length ≤ 7 := by rw [List.length_take]; omega
        have h3 : 256 ^ (t.take k).length ≤ 256 ^ 7 := Nat.pow_le_pow_right (by omega) h2
        have h4 : (256 : Nat) ^ 7 = 72057594037927936 := by rfl
        omega
      have hlk : k < t.length := by omega
      have htk : t[k] < 256 := HB.out _ (List.mem_cons_of_mem _ (List.getElem_mem hlk))
      have hval : val (t.take (k + 1)) = val (t.take k) * 256 + t[k] := by rw [List.take_succ_eq_append_getElem hlk, val_snoc]
      have HVal := Lib.hid hval
      obtain ⟨x, hx⟩ : ∃ x, val (t.take k) = x := ⟨_, rfl⟩
      obtain ⟨b, hbk⟩ : ∃ b, t[k] = b := ⟨_, rfl⟩
      rw [hx] at hu HVal
      rw [hbk] at htk hk1 HVal
      simp only [hx]
      clear hx hbk hval
      go_wp2_with fail
      go_roundw
      case rel =>
        refine ⟨⟨k + 1, hlt, by go_num, ?_⟩, trivial⟩
        rw [HVal.out]
        simp
      case measure => simp [intOf]; omega
    · obtain rfl : k = z := by omega
      have hx64 : val (t.take k) < 18446744073709551616 := by
        have h1 := val_lt (t.take k) (fun b hb => HB.out b (List.mem_cons_of_mem _ (List.mem_of_mem_take hb)))
        have h2 : (t.take k).length ≤ 8 := by rw [List.length_take]; omega
        have h3 : 256 ^ (t.take k).length ≤ 256 ^ 8 := Nat.pow_le_pow_right (by omega) h2
        have h4 : (256 : Nat) ^ 8 = 18446744073709551616 := by rfl
        omega
      obtain ⟨x, hx⟩ : ∃ x, val (t.take k) = x := ⟨_, rfl⟩
      rw [hx] at hx64
      have hs : sizeH (144 + k) = k := by unfold sizeH; split <;> omega
      by_cases hx63 : x < 9223372036854775808
      · have hN : numH (144 + k) x = -1 - (x : Int) := by unfold numH; split <;> omega
        have hcmp := first_cmp (144 + k) k x t (-1 - (x : Int)) hz8 (by omega) hz hx.symm hx64 ⟨fun _ => hN.symm, fun h => by omega⟩
        have hr1 : Rd wr 1 (some ⟨g, o, none⟩) (1 + k) ((((144 + k) :: t).take (1 + k)).map u8v) := by
          have := HR.out.take (k := 1 + k) (by omega)
          simpa [List.map_take] using this
        have hbt : ∀ b ∈ ((144 + k) :: t).take (1 + k), b < 256 := fun b hb => HB.out b (List.mem_of_mem_take hb)
        have HCmp := Lib.hid hcmp
        have HR1 := Lib.hid hr1
        have HBT := Lib.hid hbt
        have d1 : decide ((9223372036854775808 : Int) ≤ (x : Int)) = false := by
          rw [decide_eq_false_iff_not]
          omega
        have d2 : wrap64 (x : Int) = x := by unfold wrap64; omega
        have HX := Lib.hid hx63
        clear hcmp hr1 hbt hs hN hx63 hx64
        try simp only [hx]
        clear hx
        go_wp2_with fail
        have hI : I64 (-1 - (x : Int)) := by have := HX.out; unfold I64; omega
        obtain ⟨N, hNd⟩ : ∃ N, -1 - (x : Int) = N := ⟨_, rfl⟩
        rw [hNd] at hI HCmp
        simp only [hNd]
        have d3 : wrap64 N = N := by unfold I64 at hI; unfold wrap64; omega
        simp only [d3]
        clear hNd d1 d2 d3
        refine (rnum_any N wr hI).mono ?_
        rintro e w5 ⟨v, rfl, ⟨A5, c5, rfl, hl5, hm5, hr5⟩, hb5⟩
        have hr5d : Rd w5.drew 1 A5 (numB N).length ((numB N).map u8v) := hr5
        have hs5 := run_str w5.drew A5 _ c5 (numB N) hr5d (numB_lt _)
        have hs6 := run_str w5.drew (some ⟨g, o, none⟩) (1 + k) c _ ((HR1.out.below hb5).below (Below.refl _ _).drew) HBT.out
        have s1 : IntKind.i64.wrap (1 + (k : Int)) = 1 + k := IntWalk.i64_in _ (by omega)
        have s2 : (1 + (k : Int)).toNat = 1 + k := by omega
        have HB5 := Lib.hid hb5
        clear hl5 hm5 hr5 hr5d hb5
        go_wp2_with fail
        go_region
        all_goals rw [strOf_beq (numB_lt _) HBT.out]
        all_goals
          by_cases hEq : numB N = ((144 + k) :: t).take (1 + k)
          · have hd : decide (numB N = ((144 + k) :: t).take (1 + k)) = true := by simpa using hEq
            rw [hd]
            have HVal := Lib.hid (rfstV_some (HCmp.out.trans (if_pos hEq)))
            clear hd hEq hs5 hs6
            go_wp2
            go_ret2
            rw [HVal.out]
            exact ⟨by simp, HB5.out.trans (((Below.refl _ _).drew).mono HB5.out.size)⟩
          · have hd : decide (numB N = ((144 + k) :: t).take (1 + k)) = false := by simpa using hEq
            rw [hd]
            have HVal := Lib.hid (rfstV_none (HCmp.out.trans (if_neg hEq)))
            clear hd hEq hs5 hs6
            go_wp2
            go_ret2
            rw [HVal.out]
            exact ⟨rfl, HB5.out.trans (((Below.refl _ _).drew).mono HB5.out.size)⟩
      · have HVal := Lib.hid (rfstV_none (bs := (144 + k) :: t) (by rw [firstN, if_neg (by omega), hs, if_neg (by omega), hx, if_neg (fun h => hx63 h.1)]))
        have d1 : decide ((9223372036854775808 : Int) ≤ (x : Int)) = true := by
          rw [decide_eq_true_iff]
          omega
        try simp only [hx]
        clear hs hx hx63 hx64
        go_wp2
        go_ret2
        rw [HVal.out]
        exact ⟨rfl, Below.refl _ _⟩

end Go.Proofs.Ytjgdcdojigcefaa

namespace Go.Proofs.Ytjgdcdojigcefaa
open Go.RowKit

theorem firstN_odd (h : Nat) (t : List Nat) (hh : h = 128 ∨ (137 ≤ h ∧ h < 144) ∨ (153 ≤ h ∧ h < 256)) : firstN (h :: t) = none := by
  rcases hh with rfl | ⟨h1, h2⟩ | ⟨h1, h2⟩
  · rw [firstN, if_neg (by omega), show sizeH 128 = 0 from rfl, if_neg (by omega), if_neg]
    intro h
    have := h.2
    simp [numH, val, numB] at this
  · rw [firstN, if_neg (by omega), if_pos (.inl (by unfold sizeH; rw [if_neg (by omega)]; omega))]
  · rw [firstN, if_neg (by omega), if_pos (.inl (by unfold sizeH; rw [if_pos (by omega)]; omega))]

/-- The contract of the reference's First. -/
theorem rfirst_any (A : Option Addr) (c : Nat) (bs : List Nat) (w : World) (hr : Rd w 1 A bs.length (bs.map u8v)) (hb : ∀ b ∈ bs, b < 256) (hnc : bs.length ≤ c) (hcm : c ≤ maxLen) :
    Calls Try.prog 73 #[.slice A bs.length c] w fun e w' => e = .returned (rfstV bs) ∧ Below w.heap.size w w' := by
  have hcm' : c ≤ 9223372036854775807 := by unfold maxLen at hcm; omega
  cases bs with
  | nil => exact rfirst_nil A c w
  | cons h t =>
    obtain ⟨g, o, rfl, _, hcc⟩ := hr.2 (by simp)
    have hc : w.cell? ⟨g, o, none⟩ = some (.int .u8 h) := hcc 0 (u8v h) (by simp)
    have hh : h < 256 := hb h (by simp)
    have hlen : (h :: t).length = 1 + t.length := by simp; omega
    by_cases c0 : h < 128
    · exact rfirst_small g o c w h t _ (by simp) hc c0
    · by_cases co : h = 128 ∨ (137 ≤ h ∧ h < 144) ∨ (153 ≤ h ∧ h < 256)
      · exact rfirst_odd g o c w h t _ (by simp) hc co (firstN_odd h t co)
      · by_cases c1 : h < 144
        · obtain ⟨z, rfl⟩ : ∃ z, h = 128 + z := ⟨h - 128, by omega⟩
          by_cases c2 : t.length < z
          · exact rfirst_shortP g o c w z t _ hlen (by omega) hc (by omega) (by omega) c2
          · exact rfirst_goodP g o c w z t _ hlen hnc hcm' hr hb (by omega) (by omega) (by omega)
        · obtain ⟨z, rfl⟩ : ∃ z, h = 144 + z := ⟨h - 144, by omega⟩
          by_cases c2 : t.length < z
          · exact rfirst_shortN g o c w z t _ hlen (by omega) hc (by omega) c2
          · exact rfirst_goodN g o c w z t _ hlen hnc hcm' hr hb (by omega) (by omega)

end Go.Proofs.Ytjgdcdojigcefaa
